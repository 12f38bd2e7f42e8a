import Derived.Test.YtadfdknlogceoaaKa
set_option linter.all false
namespace Go.Hv

theorem hwp_rd_iff {α : Type} {P : Program} {s : Sem α} {h : Heap} {a : α} (hr : rd P s h = some a) (Q : α → Heap → Prop) (X : Halt → Heap → Prop) : hwp P s Q X h ↔ Q a h := by
  induction s with
  | pure b => simp only [rd, Option.some.injEq] at hr; subst hr; rfl
  | load m b k ih =>
    simp only [rd, Option.bind_eq_some_iff] at hr
    obtain ⟨v, hv, hr⟩ := hr
    constructor
    · rintro ⟨u, hu, hh⟩
      rw [hv] at hu; obtain rfl := Option.some.inj hu
      exact (ih v hr).1 hh
    · exact fun hq => ⟨v, hv, (ih v hr).2 hq⟩
  | store m b v k ih => simp [rd] at hr
  | new o k ih => simp [rd] at hr
  | shape r k ih => exact ih _ hr
  | freeze b n k ih => simp [rd] at hr
  | frozen b k ih => exact ih _ hr
  | getObj r k ih =>
    simp only [rd] at hr
    split at hr
    · simp at hr
    · rename_i o hne ho
      constructor
      · rintro ⟨o', ho', _, hh⟩
        rw [ho] at ho'; obtain rfl := Option.some.inj ho'
        exact (ih _ hr).1 hh
      · exact fun hq => ⟨_, ho, fun c e f => hne c e f, (ih _ hr).2 hq⟩
    · simp at hr
  | setObj r o k ih => simp [rd] at hr
  | choose q k ih =>
    simp only [rd] at hr
    split at hr
    · rename_i hf; simp only [hwp, hf, if_true]; exact ih _ hr
    · simp at hr
  | sys c k ih => simp [rd] at hr
  | program k ih => exact ih _ hr
  | mark m k ih => exact ih hr
  | halt e => simp [rd] at hr

/-- an operation answers v and turns nothing -/
def Ans (P : Program) (x : X) (v : Value) (h : Heap) : Prop := rd P x.sem h = some (.value v)
theorem Ans.run {P : Program} {x : X} {v : Value} {h : Heap} (e : Ans P x v h) (K : Value → Heap → Prop) : Hv.run P x K h = K v h :=
  propext (hwp_rd_iff e _ _)
theorem Ans.still {P : Program} {x : X} {v : Value} {h : Heap} (e : Ans P x v h) (K : Value → Prop) : Hv.still P x K h = K v := by
  unfold Hv.still
  rw [show rd P x.sem h = _ from e]
  exact propext ⟨fun ⟨u, hu, hk⟩ => by cases (show v = u from hu); exact hk, fun hk => ⟨v, rfl, hk⟩⟩
theorem Ans.headq {P : Program} {x : X} {v : Value} {h : Heap} (e : Ans P x v h) (K : Value → Prop) : Hv.headq P x K h = K v := by
  unfold Hv.headq
  rw [show rd P x.sem h = _ from e]
  exact propext ⟨fun ⟨u, hu, hk⟩ => by simp only [Option.some.injEq, Next.value.injEq] at hu; subst hu; exact hk, fun hk => ⟨v, rfl, hk⟩⟩
theorem tk_of {P : Program} {St : Heap → Prop} {x : X} {K : Value → Prop} {h : Heap} (v : Value) (hs : St h) (e : ∀ h', St h' → Ans P x v h') (hk : K v) : tk P St x K h := ⟨v, hs, e, hk⟩

/-! the three ways of a reading operation, at once -/
/-- 'o' is what the operation answers, if it is plain sailing -/
def oget {α : Type} (o : Option α) (K : α → Prop) : Prop := ∃ v, o = some v ∧ K v
@[simp] theorem oget_some {α : Type} (v : α) (K : α → Prop) : oget (some v) K = K v := propext ⟨fun ⟨u, hu, hk⟩ => by cases hu; exact hk, fun hk => ⟨v, rfl, hk⟩⟩
@[simp] theorem oget_none {α : Type} (K : α → Prop) : oget none K = False := propext ⟨fun ⟨_, hu, _⟩ => (by cases hu), False.elim⟩

theorem rd_val {P : Program} {s : Sem Value} {h : Heap} {v : Value} (e : rd P s h = some v) : rd P (S.val s) h = some (.value v) := by
  show rd P (Sem.bind s _) h = _
  rw [rd_bind, e]; rfl
theorem rd_bind' {α β : Type} (P : Program) (s : Sem α) (g : α → Sem β) (h : Heap) : rd P (s >>= g) h = (rd P s h).bind fun a => rd P (g a) h := rd_bind P s g h
theorem rd_map {α β : Type} (P : Program) (s : Sem α) (g : α → β) (h : Heap) : rd P (g <$> s) h = (rd P s h).map g := by
  show rd P (Sem.bind s _) h = _
  rw [rd_bind]
  cases rd P s h <;> rfl
theorem rd_pure {α : Type} (P : Program) (a : α) (h : Heap) : rd P (pure a : Sem α) h = some a := rfl
theorem rd_underlying {P : Program} {t : TypeId} {d : TypeDesc} (e : P.underlying t = some d) (h : Heap) : rd P (underlying t) h = some d := by
  show rd P (match P.underlying t with | some d => pure d | none => stuck "no such type") h = some d
  rw [e]; rfl
theorem rd_typeInfo {P : Program} {t : TypeId} {i : TypeInfo} (e : P.info? t = some i) (h : Heap) : rd P (typeInfo t) h = some i := by
  show rd P (match P.info? t with | some d => pure d | none => stuck "no such type") h = some i
  rw [e]; rfl
theorem rd_sizeOf {P : Program} {t : TypeId} {n : Nat} (e : (P.info? t).map (·.size) = some n) (h : Heap) : rd P (sizeOf t) h = some n := by
  obtain ⟨i, hi, rfl⟩ := Option.map_eq_some_iff.1 e
  show rd P (Sem.bind (typeInfo t) _) h = _
  rw [rd_bind, rd_typeInfo hi]; rfl
theorem rd_zero {P : Program} {t : TypeId} {z : Value} (e : (P.info? t).map (·.zero) = some (some z)) (h : Heap) : rd P (zeroValue t) h = some z := by
  obtain ⟨i, hi, hz⟩ := Option.map_eq_some_iff.1 e
  show rd P (Sem.bind (typeInfo t) _) h = _
  rw [rd_bind, rd_typeInfo hi]
  show rd P (match i.zero with | some v => pure v | none => unsupported _) h = _
  rw [hz]; rfl

/-! facts on types, each closed -/
/-- a type of one cell -/
def one (P : Program) (t : TypeId) : Bool := match P.underlying t with
  | some (.struct _) | some (.array ..) | none => false
  | some _ => (P.info? t).map (·.size) == some 1
theorem one_agg {P : Program} {t : TypeId} (e : one P t = true) (h : Heap) : rd P (isAgg t) h = some false := by
  unfold one at e
  cases hu : P.underlying t with
  | none => rw [hu] at e; simp at e
  | some d => exact isAgg_rd hu (by rw [hu] at e; cases d <;> simp_all) h
theorem one_size {P : Program} {t : TypeId} (e : one P t = true) : (P.info? t).map (·.size) = some 1 := by
  unfold one at e
  split at e <;> simp_all
/-- a struct's or array's cells -/
def aggs (P : Program) (t : TypeId) : Option Nat := match P.underlying t with
  | some (.struct _) | some (.array ..) => (P.info? t).map (·.size)
  | _ => none
theorem aggs_agg {P : Program} {t : TypeId} {n : Nat} (e : aggs P t = some n) (h : Heap) : rd P (isAgg t) h = some true ∧ rd P (sizeOf t) h = some n := by
  unfold aggs at e
  have key : ∀ d, P.underlying t = some d → (match d with | .struct _ | .array .. => true | _ => false) = true → rd P (isAgg t) h = some true := by
    intro d hu hd
    show rd P (Sem.bind (underlying t) _) h = _
    rw [rd_bind, rd_underlying hu]
    cases d <;> first | rfl | simp at hd
  split at e
  · exact ⟨key _ ‹_› rfl, rd_sizeOf e h⟩
  · exact ⟨key _ ‹_› rfl, rd_sizeOf e h⟩
  · cases e

/-! loads -/
theorem ans_load {P : Program} {t : TypeId} (ht : one P t = true) {a : Addr} {h : Heap} {v : Value} (hc : cell h a = some v) : Ans P (.load t (.pointer (some a))) v h := by
  refine rd_val ?_
  show rd P (Sem.bind (isAgg t) _) h = _
  rw [rd_bind, one_agg ht]
  show (cell h a).bind _ = _
  rw [hc]; rfl
/-- k cells behind an address -/
def cellsAt (h : Heap) (a : Addr) : Nat → Nat → Option (List Value)
  | _, 0 => some []
  | i, n + 1 => (cell h (a.add i)).bind fun v => (cellsAt h a (i + 1) n).map (v :: ·)
theorem rd_loadCells {P : Program} {h : Heap} {a : Addr} : ∀ (n i : Nat) (acc : Array Value) (l : List Value), cellsAt h a i n = some l → rd P (loadCellsFrom a i n acc) h = some (acc ++ l.toArray) := by
  intro n
  induction n with
  | zero => intro i acc l hl; simp only [cellsAt, Option.some.injEq] at hl; subst hl; simp [loadCellsFrom, rd_pure]
  | succ n ih =>
    intro i acc l hl
    simp only [cellsAt, Option.bind_eq_some_iff, Option.map_eq_some_iff] at hl
    obtain ⟨v, hv, l', hl', rfl⟩ := hl
    show (cell h (a.add i)).bind (fun v => rd P (loadCellsFrom a (i + 1) n (acc.push v)) h) = _
    rw [hv]
    simp only [Option.bind_some]
    rw [ih _ _ _ hl']
    simp
theorem ans_loadS {P : Program} {t : TypeId} {n : Nat} (ht : aggs P t = some n) {a : Addr} {h : Heap} {l : List Value} (hc : cellsAt h a 0 n = some l) : Ans P (.load t (.pointer (some a))) (.agg l.toArray) h := by
  obtain ⟨h1, h2⟩ := aggs_agg ht h
  refine rd_val ?_
  have h3 := rd_loadCells (P := P) n 0 #[] l hc
  simp [Instr.loadAt, Instr.sureAddr, rd_bind', rd_map, loadVar, h1, h2, loadCells, h3]

/-! nil checks, fields, indexes -/
theorem ans_nilCheck {P : Program} {a : Addr} {h : Heap} : Ans P (.nilCheck (.pointer (some a))) (.pointer (some a)) h := rfl
theorem ans_nilCheckF {P : Program} {g : FuncId} {a b : Array Value} {h : Heap} : Ans P (.nilCheck (.func (.func g) a b)) (.func (.func g) a b) h := rfl
/-- the place of a field that has cells -/
def fOff (P : Program) (s : TypeId) (i : Nat) : Option Nat := match P.underlying s with
  | some (.struct fs) => (fs[i]?).bind fun f => match (P.info? f.type).map (·.size) with
    | some (_ + 1) => some f.offset
    | _ => none
  | _ => none
theorem ans_fieldAddr {P : Program} {s : TypeId} {i o : Nat} (hf : fOff P s i = some o) {a : Addr} {h : Heap} : Ans P (.fieldAddr s (.pointer (some a)) i) (.pointer (some (a.add o))) h := by
  unfold fOff at hf
  cases hu : P.underlying s with
  | none => rw [hu] at hf; cases hf
  | some d =>
    rw [hu] at hf
    cases d <;> try (cases hf; done)
    rename_i fs
    simp only [Option.bind_eq_some_iff] at hf
    obtain ⟨f, hfs, hf⟩ := hf
    refine rd_val ?_
    cases hs : (P.info? f.type).map (·.size) with
    | none => rw [hs] at hf; cases hf
    | some n =>
      rw [hs] at hf
      cases n with
      | zero => cases hf
      | succ n =>
        have ho : f.offset = o := by simpa using hf
        have : rd P (fieldPlace a f) h = some (a.add f.offset) := by
          simp [fieldPlace, rd_bind', rd_sizeOf hs, rd_pure]
        simp [Instr.fieldAt, rd_bind', rd_map, rd_underlying hu, hfs, Instr.sureAddr, this, ho]
/-- the size in cells of a slice type's elements -/
def eSz (P : Program) (t : TypeId) : Option Nat := match P.underlying t with
  | some (.slice e) => (P.info? e).map (·.size)
  | _ => none
theorem eSz_of {P : Program} {t : TypeId} {n : Nat} (h : eSz P t = some n) : ∃ e, P.underlying t = some (.slice e) ∧ (P.info? e).map (·.size) = some n := by
  unfold eSz at h
  split at h
  · exact ⟨_, ‹_›, h⟩
  · cases h
theorem ans_indexAddr {P : Program} {t : TypeId} {n : Nat} (ht : eSz P t = some n) {a : Addr} {len cap : Nat} {k : IntKind} {i : Int} (h0 : 0 ≤ i) (h1 : i < len) {h : Heap} :
    Ans P (.indexAddr t (.slice (some a) len cap) (.int k i)) (.pointer (some (a.add (i.toNat * n)))) h := by
  obtain ⟨e, hu, hn⟩ := eSz_of ht
  refine rd_val ?_
  simp [Instr.indexAt, asIntOf, rd_bind', rd_underlying hu, rd_pure, rd_map, h0, h1, rd_sizeOf hn]

/-! tuples, choices -/
theorem ans_extract {P : Program} {vs : Array Value} {i : Nat} {v : Value} (hv : vs[i]? = some v) {h : Heap} : Ans P (.extract (.tuple vs) i) v h := by
  refine rd_val ?_
  show rd P (match vs[i]? with | some v => pure v | none => stuck _) h = _
  rw [hv]; rfl
theorem ans_pick {P : Program} {c : Bool} {a b : Value} {h : Heap} : Ans P (.pick (.bool c) a b) (if c = true then a else b) h := rfl
theorem ans_move {P : Program} {x : Value} {h : Heap} : Ans P (.move x) x h := rfl
theorem ans_not {P : Program} {b : Bool} {h : Heap} : Ans P (.un .not (.bool b)) (.bool !b) h := rfl
theorem ans_mkFunc {P : Program} {fn : Fn} {a b : List Value} {h : Heap} : Ans P (.mkFunc fn a b) (.func fn a.toArray b.toArray) h := rfl

/-! whole numbers -/
theorem ans_add {P : Program} {t : TypeId} {c d : Bool} {k : IntKind} {a b : Int} {h : Heap} : Ans P (.bin .add t c d (.int k a) (.int k b)) (.int k (k.wrap (a + b))) h := by
  refine rd_val ?_
  show rd P (binOp .add t (.int k a) (.int k b)) h = _
  simp only [binOp]; rw [if_neg (by simp)]; rfl
theorem ans_sub {P : Program} {t : TypeId} {c d : Bool} {k : IntKind} {a b : Int} {h : Heap} : Ans P (.bin .sub t c d (.int k a) (.int k b)) (.int k (k.wrap (a - b))) h := by
  refine rd_val ?_
  show rd P (binOp .sub t (.int k a) (.int k b)) h = _
  simp only [binOp]; rw [if_neg (by simp)]; rfl
theorem ans_mul {P : Program} {t : TypeId} {c d : Bool} {k : IntKind} {a b : Int} {h : Heap} : Ans P (.bin .mul t c d (.int k a) (.int k b)) (.int k (k.wrap (a * b))) h := by
  refine rd_val ?_
  show rd P (binOp .mul t (.int k a) (.int k b)) h = _
  simp only [binOp]; rw [if_neg (by simp)]; rfl
theorem ans_lss {P : Program} {t : TypeId} {c d : Bool} {k : IntKind} {a b : Int} {h : Heap} : Ans P (.bin .lss t c d (.int k a) (.int k b)) (.bool (decide (a < b))) h := by
  refine rd_val ?_
  show rd P (binOp .lss t (.int k a) (.int k b)) h = _
  simp only [binOp]; rw [if_neg (by simp)]; rfl
theorem ans_leq {P : Program} {t : TypeId} {c d : Bool} {k : IntKind} {a b : Int} {h : Heap} : Ans P (.bin .leq t c d (.int k a) (.int k b)) (.bool (decide (a ≤ b))) h := by
  refine rd_val ?_
  show rd P (binOp .leq t (.int k a) (.int k b)) h = _
  simp only [binOp]; rw [if_neg (by simp)]; rfl
theorem ans_gtr {P : Program} {t : TypeId} {c d : Bool} {k : IntKind} {a b : Int} {h : Heap} : Ans P (.bin .gtr t c d (.int k a) (.int k b)) (.bool (decide (b < a))) h := by
  refine rd_val ?_
  show rd P (binOp .gtr t (.int k a) (.int k b)) h = _
  simp only [binOp]; rw [if_neg (by simp)]; rfl
theorem ans_geq {P : Program} {t : TypeId} {c d : Bool} {k : IntKind} {a b : Int} {h : Heap} : Ans P (.bin .geq t c d (.int k a) (.int k b)) (.bool (decide (b ≤ a))) h := by
  refine rd_val ?_
  show rd P (binOp .geq t (.int k a) (.int k b)) h = _
  simp only [binOp]; rw [if_neg (by simp)]; rfl
theorem ans_eql {P : Program} {t : TypeId} {c d : Bool} {k : IntKind} {a b : Int} {h : Heap} : Ans P (.bin .eql t c d (.int k a) (.int k b)) (.bool (a == b)) h := by
  refine rd_val ?_
  show rd P (binOp .eql t (.int k a) (.int k b)) h = _
  simp only [binOp]; rw [if_neg (by simp)]; rfl
theorem ans_neq {P : Program} {t : TypeId} {c d : Bool} {k : IntKind} {a b : Int} {h : Heap} : Ans P (.bin .neq t c d (.int k a) (.int k b)) (.bool (a != b)) h := by
  refine rd_val ?_
  show rd P (binOp .neq t (.int k a) (.int k b)) h = _
  simp only [binOp]; rw [if_neg (by simp)]; rfl

/-! lengths -/
theorem ans_lenSlice {P : Program} {t ty : TypeId} {c : Bool} {n0 : Nat} (ht : eSz P t = some n0) {a : Option Addr} {n k : Nat} {h : Heap} : Ans P (.builtin .len #[t] ty [c] [.slice a n k]) (.int .i64 n) h := by
  obtain ⟨e, hu, _⟩ := eSz_of ht
  show rd P (S.val (Builtin.len_ #[t] ty [Value.slice a n k].toArray)) h = _
  refine rd_val ?_
  simp [Builtin.len_, rd_bind', rd_underlying hu, rd_pure, goInt]
theorem ans_capSlice {P : Program} {t ty : TypeId} {c : Bool} {n0 : Nat} (ht : eSz P t = some n0) {a : Option Addr} {n k : Nat} {h : Heap} : Ans P (.builtin .cap #[t] ty [c] [.slice a n k]) (.int .i64 k) h := by
  obtain ⟨e, hu, _⟩ := eSz_of ht
  show rd P (S.val (Builtin.cap_ #[t] ty [Value.slice a n k].toArray)) h = _
  refine rd_val ?_
  simp [Builtin.cap_, rd_bind', rd_underlying hu, rd_pure, goInt]

/-! a part of a slice -/
theorem ans_slice {P : Program} {t : TypeId} {sz : Nat} (ht : eSz P t = some sz) {ao : Option Addr} {n c : Nat} {lo hi : Option Value} {l m : Nat}
    (hlo : lo = none ∧ l = 0 ∨ ∃ k, lo = some (.int k (l : Int))) (hhi : hi = none ∧ m = n ∨ ∃ k, hi = some (.int k (m : Int))) (h1 : l ≤ m) (h2 : m ≤ c) {h : Heap} :
    Ans P (.slice t (.slice ao n c) lo hi none) (.slice (if c = l then ao else ao.map (·.add (l * sz))) (m - l) (c - l)) h := by
  obtain ⟨e, hu, hn⟩ := eSz_of ht
  refine rd_val ?_
  have hb : rd P (Instr.sliceBounds true n c lo hi none) h = some (l, m, c) := by
    rcases hlo with ⟨rfl, rfl⟩ | ⟨k, rfl⟩ <;> rcases hhi with ⟨rfl, rfl⟩ | ⟨k', rfl⟩ <;>
      simp [Instr.sliceBounds, rd_bind', rd_pure, Instr.sliceBound, asIntOf, h1, h2]
  simp [Instr.sliceAt, rd_bind', rd_underlying hu, Instr.slice, hb, rd_pure, rd_map, rd_sizeOf hn]
end Go.Hv
namespace Go.Hv

/-! ### heaps: what has turned -/
/-- of the old blocks those in S alone may have turned -/
structure Chg (S : Nat → Prop) (h h' : Heap) : Prop where
  size : h.size ≤ h'.size
  get : ∀ b, b < h.size → ¬ S b → h'[b]? = h[b]?
theorem Chg.refl (S : Nat → Prop) (h : Heap) : Chg S h h := ⟨Nat.le_refl _, fun _ _ _ => rfl⟩
theorem Chg.trans {S : Nat → Prop} {a b c : Heap} (x : Chg S a b) (y : Chg S b c) : Chg S a c :=
  ⟨Nat.le_trans x.size y.size, fun i hi hs => (y.get i (Nat.lt_of_lt_of_le hi x.size) hs).trans (x.get i hi hs)⟩
theorem Chg.mono {S S' : Nat → Prop} {a b : Heap} (x : Chg S a b) (hs : ∀ i, i < a.size → S i → S' i) : Chg S' a b :=
  ⟨x.size, fun i hi hn => x.get i hi fun h => hn (hs i hi h)⟩
/-- below n nothing has turned -/
structure Old (n : Nat) (h h' : Heap) : Prop where
  size : h.size ≤ h'.size
  get : ∀ b, b < n → h'[b]? = h[b]?
theorem Old.refl (n : Nat) (h : Heap) : Old n h h := ⟨Nat.le_refl _, fun _ _ => rfl⟩
theorem Old.trans {n : Nat} {a b c : Heap} (x : Old n a b) (y : Old n b c) : Old n a c := ⟨Nat.le_trans x.size y.size, fun i hi => (y.get i hi).trans (x.get i hi)⟩
theorem Old.mono {n m : Nat} {a b : Heap} (x : Old n a b) (h : m ≤ n) : Old m a b := ⟨x.size, fun i hi => x.get i (Nat.lt_of_lt_of_le hi h)⟩
theorem Old.chg {n : Nat} {S : Nat → Prop} {a b c : Heap} (x : Old n a b) (y : Chg S b c) (hn : n ≤ b.size) (hs : ∀ i, i < n → ¬ S i) : Old n a c :=
  ⟨Nat.le_trans x.size y.size, fun i hi => (y.get i (Nat.lt_of_lt_of_le hi hn) (hs i hi)).trans (x.get i hi)⟩
theorem Chg.old {n : Nat} {S : Nat → Prop} {b c : Heap} (y : Chg S b c) (hn : n ≤ b.size) (hs : ∀ i, i < n → ¬ S i) : Old n b c := (Old.refl n b).chg y hn hs
theorem Old.toChg {n : Nat} {S : Nat → Prop} {b c : Heap} (y : Old n b c) (hs : ∀ i, i < b.size → ¬ S i → i < n) : Chg S b c := ⟨y.size, fun i hi hn => y.get i (hs i hi hn)⟩
theorem Old.grow {S : Nat → Prop} {b c : Heap} (y : Old b.size b c) : Chg S b c := y.toChg fun _ hi _ => hi

/-- a new block -/
theorem chg_push (S : Nat → Prop) (h : Heap) (o : Obj) : Chg S h (h.push o) := ⟨by simp, fun b hb _ => by rw [Array.getElem?_push, if_neg (by omega)]⟩
theorem old_push {n : Nat} (h : Heap) (o : Obj) (hn : n ≤ h.size) : Old n h (h.push o) := (chg_push (fun _ => False) h o).old hn fun _ _ x => x
@[simp] theorem get_push_new (h : Heap) (o : Obj) : (h.push o)[h.size]? = some o := by simp
theorem get_push_old (h : Heap) (o : Obj) {b : Nat} (hb : b < h.size) : (h.push o)[b]? = h[b]? := by rw [Array.getElem?_push, if_neg (by omega)]
theorem setC_size (h : Heap) (a : Addr) (v : Value) : (setC h a v).size = h.size := by simp [setC]
theorem setC_get_ne (h : Heap) (a : Addr) (v : Value) {b : Nat} (hb : b ≠ a.block) : (setC h a v)[b]? = h[b]? := by
  simp only [setC, Array.getElem?_modify]; rw [if_neg (by omega)]
theorem setC_get (h : Heap) {b i : Nat} {arr : Array Value} {e : TypeId} {fr : Nat × Nat} (v : Value) (hb : h[b]? = some (.cells arr e fr)) : (setC h ⟨b, i, none⟩ v)[b]? = some (.cells (arr.setIfInBounds i v) e fr) := by
  simp [setC, Array.getElem?_modify, hb]
theorem chg_setC (h : Heap) (a : Addr) (v : Value) : Chg (fun b => b = a.block) h (setC h a v) := ⟨by rw [setC_size]; exact Nat.le_refl _, fun b _ hs => setC_get_ne h a v hs⟩

theorem lt_of_get {h : Heap} {b : Nat} {o : Obj} (hb : h[b]? = some o) : b < h.size := (Array.getElem?_eq_some_iff.1 hb).1

/-! ### rows of cells -/
/-- block b is a row of cap cells of type e, of which the first are xs -/
def Row (h : Heap) (b e cap : Nat) (xs : List Value) : Prop := ∃ arr : Array Value, h[b]? = some (.cells arr e (0, 0)) ∧ arr.size = cap ∧ arr.toList.take xs.length = xs
theorem Row.lt {h : Heap} {b e cap : Nat} {xs : List Value} (r : Row h b e cap xs) : b < h.size := let ⟨_, hb, _⟩ := r; lt_of_get hb
theorem Row.le {h : Heap} {b e cap : Nat} {xs : List Value} (r : Row h b e cap xs) : xs.length ≤ cap := by
  obtain ⟨arr, _, hs, ht⟩ := r
  have := congrArg List.length ht
  simp at this; omega
theorem Row.keep {h h' : Heap} {b e cap : Nat} {xs : List Value} (r : Row h b e cap xs) (hk : h'[b]? = h[b]?) : Row h' b e cap xs := by
  obtain ⟨arr, hb, hs, ht⟩ := r; exact ⟨arr, hk.trans hb, hs, ht⟩
theorem Row.cell {h : Heap} {b e cap : Nat} {xs : List Value} (r : Row h b e cap xs) {i : Nat} {x : Value} (hx : xs[i]? = some x) : cell h ⟨b, i, none⟩ = some x := by
  obtain ⟨arr, hb, hs, ht⟩ := r
  have : arr[i]? = some x := by
    rw [← ht] at hx
    rw [List.getElem?_take] at hx
    split at hx
    · simpa using hx
    · cases hx
  simp [Hv.cell, hb, this]
theorem Row.mk' {h : Heap} {b e : Nat} {xs : List Value} (hb : h[b]? = some (.cells xs.toArray e (0, 0))) : Row h b e xs.length xs := ⟨_, hb, by simp, by simp⟩
theorem Row.take {h : Heap} {b e cap : Nat} {xs : List Value} (r : Row h b e cap xs) (n : Nat) : Row h b e cap (xs.take n) := by
  obtain ⟨arr, hb, hs, ht⟩ := r
  refine ⟨arr, hb, hs, ?_⟩
  have h1 : arr.toList.take xs.length = xs := ht
  calc arr.toList.take (xs.take n).length = (arr.toList.take xs.length).take (xs.take n).length := by rw [List.take_take]; congr 1; simp
    _ = xs.take (xs.take n).length := by rw [h1]
    _ = xs.take n := by simp [List.take_eq_take_iff]
theorem Row.froz {h : Heap} {b e cap : Nat} {xs : List Value} (r : Row h b e cap xs) (i : Nat) (s : Option Nat) : froz h ⟨b, i, s⟩ = false := by
  obtain ⟨arr, hb, hs, ht⟩ := r
  simp [Hv.froz, hb]
theorem Row.cellEx {h : Heap} {b e cap : Nat} {xs : List Value} (r : Row h b e cap xs) {i : Nat} (hi : i < cap) : ∃ u, Hv.cell h ⟨b, i, none⟩ = some u := by
  obtain ⟨arr, hb, hs, ht⟩ := r
  exact ⟨arr[i]'(by omega), by simp [Hv.cell, hb, show i < arr.size by omega]⟩
theorem Row.set {h : Heap} {b e cap : Nat} {xs : List Value} (r : Row h b e cap xs) {i : Nat} (v : Value) : Row (setC h ⟨b, i, none⟩ v) b e cap (xs.set i v) := by
  obtain ⟨arr, hb, hs, ht⟩ := r
  refine ⟨_, setC_get h v hb, by simpa using hs, ?_⟩
  simp only [Array.toList_setIfInBounds, List.length_set]
  rw [List.take_set, ht]

/-! ### slices that are read: elements of one cell -/
def blkOf : Value → Option Nat
  | .slice (some a) _ _ => some a.block
  | _ => none
def Sl (h : Heap) (v : Value) (xs : List Value) : Prop := ∃ ao c, v = .slice ao xs.length c ∧ xs.length ≤ c ∧ (∀ a, ao = some a → a.spot = none) ∧ ∀ i x, xs[i]? = some x → ∃ a, ao = some a ∧ cell h (a.add i) = some x
theorem Sl.keep {h h' : Heap} {v : Value} {xs : List Value} (s : Sl h v xs) (hk : ∀ b, blkOf v = some b → h'[b]? = h[b]?) : Sl h' v xs := by
  obtain ⟨ao, c, rfl, hc, hs, hx⟩ := s
  refine ⟨ao, c, rfl, hc, hs, fun i x hi => ?_⟩
  obtain ⟨a, ha, hca⟩ := hx i x hi
  refine ⟨a, ha, ?_⟩
  subst ha
  have hb := hk a.block rfl
  have : (a.add i).block = a.block := by unfold Addr.add; split <;> rfl
  simp only [cell, this] at hca ⊢
  rw [hb]; exact hca
theorem Sl.nil (h : Heap) : Sl h (.slice none 0 0) [] := ⟨none, 0, rfl, Nat.le_refl _, (fun _ h => by cases h), (fun i x hx => by simp at hx)⟩
theorem Sl.len {h : Heap} {v : Value} {xs : List Value} (s : Sl h v xs) {P : Program} {t ty : TypeId} {c : Bool} {n0 : Nat} (ht : eSz P t = some n0) : Ans P (.builtin .len #[t] ty [c] [v]) (.int .i64 xs.length) h := by
  obtain ⟨ao, c, rfl, _⟩ := s; exact ans_lenSlice ht
theorem Sl.index {h : Heap} {v : Value} {xs : List Value} (s : Sl h v xs) {P : Program} {t : TypeId} (ht : eSz P t = some 1) {k : IntKind} {i : Nat} {x : Value} (hx : xs[i]? = some x) :
    ∃ a : Addr, (∀ h', Ans P (.indexAddr t v (.int k (i : Int))) (.pointer (some a)) h') ∧ cell h a = some x ∧ blkOf v = some a.block := by
  obtain ⟨ao, c, rfl, hc, hs, hxx⟩ := s
  obtain ⟨a, rfl, hca⟩ := hxx i x hx
  have hi : i < xs.length := (List.getElem?_eq_some_iff.1 hx).1
  refine ⟨a.add i, fun h' => ?_, hca, ?_⟩
  · have := ans_indexAddr (P := P) ht (a := a) (len := xs.length) (cap := c) (k := k) (i := (i : Int)) (by omega) (by omega) (h := h')
    simpa using this
  · show some a.block = some (a.add i).block
    unfold Addr.add; split <;> rfl
theorem Row.sl {h : Heap} {b e cap : Nat} {xs : List Value} (r : Row h b e cap xs) : Sl h (.slice (some ⟨b, 0, none⟩) xs.length cap) xs :=
  ⟨_, _, rfl, r.le, fun a ha => by cases ha; rfl, fun i x hx => ⟨_, rfl, by
    have := r.cell hx
    unfold Addr.add
    split
    · rename_i h0; subst h0; exact this
    · simpa using this⟩⟩

/-! ### slices of one's own -/
/-- v is nil, or the head of a row of one's own -/
def Own (h : Heap) (v : Value) (e : TypeId) (xs : List Value) : Prop :=
  (v = .slice none 0 0 ∧ xs = []) ∨ ∃ b cap, v = .slice (some ⟨b, 0, none⟩) xs.length cap ∧ Row h b e cap xs
theorem Own.sl {h : Heap} {v : Value} {e : TypeId} {xs : List Value} (o : Own h v e xs) : Sl h v xs := by
  rcases o with ⟨rfl, rfl⟩ | ⟨b, cap, rfl, r⟩
  · exact Sl.nil h
  · exact r.sl
theorem Own.keep {h h' : Heap} {v : Value} {e : TypeId} {xs : List Value} (o : Own h v e xs) (hk : ∀ b, blkOf v = some b → h'[b]? = h[b]?) : Own h' v e xs := by
  rcases o with ⟨rfl, rfl⟩ | ⟨b, cap, rfl, r⟩
  · exact .inl ⟨rfl, rfl⟩
  · exact .inr ⟨b, cap, rfl, r.keep (hk b rfl)⟩
theorem Own.nil (h : Heap) (e : TypeId) : Own h (.slice none 0 0) e [] := .inl ⟨rfl, rfl⟩
theorem Own.lt {h : Heap} {v : Value} {e : TypeId} {xs : List Value} (o : Own h v e xs) {b : Nat} (hb : blkOf v = some b) : b < h.size := by
  rcases o with ⟨rfl, rfl⟩ | ⟨b', cap, rfl, r⟩
  · cases hb
  · cases hb; exact r.lt

/-! ### what makes memory -/
theorem run_box {P : Program} {e : TypeId} {v : Value} {K : Value → Heap → Prop} {h : Heap} : run P (.box e v) K h = K (.pointer (some ⟨h.size, 0, none⟩)) (h.push (.cells v.cells e)) := rfl
theorem run_mkMap {P : Program} {t : TypeId} {K : Value → Heap → Prop} {h : Heap} : run P (.mkMap t none) K h = K (.map (some h.size)) (h.push (.map #[] 0)) := rfl
theorem run_alloc {P : Program} {e : TypeId} {z : Value} (hz : (P.info? e).map (·.zero) = some (some z)) {K : Value → Heap → Prop} {h : Heap} : run P (.alloc e) K h = K (.pointer (some ⟨h.size, 0, none⟩)) (h.push (.cells z.cells e)) := by
  have : (X.alloc e).sem = Sem.bind (zeroValue e) fun z => Sem.bind (newVar e z) fun a => pure (.value (.pointer (some a))) := by
    show S.val (Instr.alloc e true (.tuple #[])) = _
    unfold S.val Instr.alloc
    show Sem.bind (Sem.bind (zeroValue e) _) _ = _
    have assoc : ∀ {α β γ : Type} (s : Sem α) (g : α → Sem β) (k : β → Sem γ), (s.bind g).bind k = s.bind fun a => (g a).bind k := by
      intro α β γ s g k
      induction s with
      | pure a => rfl
      | load m a k ih => simp only [Sem.bind, ih]
      | store m a v k ih => simp only [Sem.bind, ih]
      | new o k ih => simp only [Sem.bind, ih]
      | shape r k ih => simp only [Sem.bind, ih]
      | freeze a n k ih => simp only [Sem.bind, ih]
      | frozen a k ih => simp only [Sem.bind, ih]
      | getObj r k ih => simp only [Sem.bind, ih]
      | setObj r o k ih => simp only [Sem.bind, ih]
      | choose q k ih => simp only [Sem.bind, ih]
      | sys c k ih => simp only [Sem.bind, ih]
      | program k ih => simp only [Sem.bind, ih]
      | mark m k ih => simp only [Sem.bind, ih]
      | halt e => rfl
    rw [assoc]; rfl
  unfold run
  rw [this]
  rw [propext (hwp_bind _ _ _ _ _ _), propext (hwp_rd_iff (rd_zero hz h) _ _)]
  rfl
theorem run_store {P : Program} {t : TypeId} (ht : one P t = true) {a : Addr} {v u : Value} {h : Heap} (hv : oneC v = true) (hu : cell h a = some u) (hf : froz h a = false) {K : Value → Heap → Prop}
    (hk : K undef (setC h a v)) : run P (.store t (.pointer (some a)) v) K h := by
  have hcs : v.cells = #[v] := by cases v <;> first | rfl | simp [oneC] at hv
  have hsz := one_size ht
  show hwp P (S.eff (Instr.storeAt t (.pointer (some a)) v)) _ _ h
  show hwp P (Sem.bind (storeVar t a v) _) _ _ h
  rw [propext (hwp_bind _ _ _ _ _ _)]
  unfold storeVar
  show hwp P (Sem.bind (sizeOf t) _) _ _ h
  rw [propext (hwp_bind _ _ _ _ _ _), propext (hwp_rd_iff (rd_sizeOf hsz h) _ _)]
  rw [hcs]
  simp only [List.size_toArray, List.length_cons, List.length_nil, Nat.zero_add, ne_eq, not_true_eq_false, if_false]
  show hwp P (storeCells a [v]) _ _ h
  refine ⟨hv, ⟨u, ?_⟩, ?_, hk⟩
  · simpa [Addr.add] using hu
  · simpa [Addr.add] using hf
end Go.Hv
namespace Go.Hv

/-! ### a row written on; append -/
theorem Addr.add_add0 (b o i : Nat) : Addr.add ⟨b, o, none⟩ i = ⟨b, o + i, none⟩ := by
  unfold Addr.add; split
  · rename_i h; subst h; rfl
  · rfl

theorem cellsAt_of {h : Heap} {a : Addr} : ∀ (ys : List Value) (i : Nat), (∀ j x, ys[j]? = some x → cell h (a.add (i + j)) = some x) → cellsAt h a i ys.length = some ys := by
  intro ys
  induction ys with
  | nil => intro i _; rfl
  | cons y ys ih =>
    intro i hc
    have h0 := hc 0 y (by simp)
    simp only [List.length_cons, cellsAt]
    rw [show a.add i = a.add (i + 0) from rfl, h0]
    rw [ih (i + 1) (fun j x hx => by have := hc (j + 1) x (by simpa using hx); rwa [show i + 1 + j = i + (j + 1) by omega])]
    rfl

/-- cells written one behind the other into a row of one's own -/
theorem hwp_storeCells {P : Program} {b e : Nat} {Q : Unit → Heap → Prop} {X : Halt → Heap → Prop} : ∀ (l : List Value) (o i : Nat) (h : Heap) (arr : Array Value),
    h[b]? = some (.cells arr e (0, 0)) → o + i + l.length ≤ arr.size → (∀ y ∈ l, oneC y = true) →
    (∀ h' (arr' : Array Value), h'.size = h.size → (∀ c, c ≠ b → h'[c]? = h[c]?) → h'[b]? = some (.cells arr' e (0, 0)) → arr'.size = arr.size → arr'.toList = arr.toList.take (o + i) ++ l ++ arr.toList.drop (o + i + l.length) → Q () h') →
    hwp P (storeCells ⟨b, o, none⟩ l i) Q X h := by
  intro l
  induction l with
  | nil =>
    intro o i h arr hb hle _ hq
    exact hq h arr rfl (fun _ _ => rfl) hb rfl (by simp)
  | cons y l ih =>
    intro o i h arr hb hle hone hq
    simp only [List.length_cons] at hle
    show hwp P (Sem.store _ _ _ _) Q X h
    rw [show (Addr.mk b o none).add i = ⟨b, o + i, none⟩ from Addr.add_add0 b o i]
    refine ⟨hone y (by simp), ⟨arr[o + i]'(by omega), by simp [cell, hb, show o + i < arr.size by omega]⟩, by simp [froz, hb], ?_⟩
    refine ih o (i + 1) _ (arr.setIfInBounds (o + i) y) (setC_get h y hb) (by simp; omega) (fun z hz => hone z (by simp [hz])) ?_
    intro h' arr' h1 h2 h3 h4 h5
    refine hq h' arr' (by rw [h1, setC_size]) (fun c hc => (h2 c hc).trans (setC_get_ne h _ y hc)) h3 (by simpa using h4) ?_
    rw [h5]
    simp only [Array.toList_setIfInBounds, List.length_cons]
    have hlt : o + i < arr.toList.length := by simp; omega
    rw [show o + (i + 1) = o + i + 1 by omega, List.take_set, List.drop_set, if_pos (by omega)]
    rw [show o + i + 1 + l.length = o + i + (l.length + 1) by omega]
    congr 1
    rw [show arr.toList.take (o + i + 1) = arr.toList.take (o + i) ++ [arr.toList[o + i]] from List.take_succ_eq_append_getElem hlt]
    rw [List.set_append_right _ _ (by simp; omega)]
    simp [show min (o + i) arr.size = o + i by omega]

structure Elem (P : Program) (t e sz bytes : Nat) (z : Value) : Prop where
  under : P.underlying t = some (.slice e)
  info : (P.info? e).map (fun i => (i.size, i.bytes, i.zero)) = some (sz, bytes, some z)
  cells : z.cells.size = sz
theorem Elem.size {P : Program} {t e sz bytes : Nat} {z : Value} (E : Elem P t e sz bytes z) : (P.info? e).map (·.size) = some sz := by
  obtain ⟨i, hi, hx⟩ := Option.map_eq_some_iff.1 E.info
  simp only [Prod.mk.injEq] at hx; rw [hi]; simp [hx.1]
theorem Elem.zero {P : Program} {t e sz bytes : Nat} {z : Value} (E : Elem P t e sz bytes z) : (P.info? e).map (·.zero) = some (some z) := by
  obtain ⟨i, hi, hx⟩ := Option.map_eq_some_iff.1 E.info
  simp only [Prod.mk.injEq] at hx; rw [hi]; simp [hx.2.2]
theorem Elem.inf {P : Program} {t e sz bytes : Nat} {z : Value} (E : Elem P t e sz bytes z) : ∃ i, P.info? e = some i ∧ i.bytes = bytes := by
  obtain ⟨i, hi, hx⟩ := Option.map_eq_some_iff.1 E.info
  simp only [Prod.mk.injEq] at hx; exact ⟨i, hi, hx.2.1⟩

def OwnN (h : Heap) (v : Value) (e sz n : Nat) (cs : List Value) : Prop :=
  (v = .slice none 0 0 ∧ n = 0 ∧ cs = []) ∨ ∃ b cap, v = .slice (some ⟨b, 0, none⟩) n cap ∧ Row h b e (cap * sz) cs ∧ cs.length = n * sz ∧ n ≤ cap
def SlN (h : Heap) (v : Value) (sz n : Nat) (cs : List Value) : Prop := ∃ ao c, v = .slice ao n c ∧ cs.length = n * sz ∧ n ≤ c ∧ ∀ i x, cs[i]? = some x → ∃ a, ao = some a ∧ cell h (a.add i) = some x
theorem Own.toN {h : Heap} {v : Value} {e : TypeId} {xs : List Value} (o : Own h v e xs) : OwnN h v e 1 xs.length xs := by
  rcases o with ⟨rfl, rfl⟩ | ⟨b, cap, rfl, r⟩
  · exact .inl ⟨rfl, rfl, rfl⟩
  · exact .inr ⟨b, cap, rfl, by simpa using r, by simp, r.le⟩
theorem OwnN.own {h : Heap} {v : Value} {e n : Nat} {xs : List Value} (o : OwnN h v e 1 n xs) : Own h v e xs ∧ n = xs.length := by
  rcases o with ⟨rfl, rfl, rfl⟩ | ⟨b, cap, rfl, r, hl, _⟩
  · exact ⟨.inl ⟨rfl, rfl⟩, rfl⟩
  · have : n = xs.length := by omega
    subst this
    exact ⟨.inr ⟨b, cap, rfl, by simpa using r⟩, rfl⟩
theorem Sl.toN {h : Heap} {v : Value} {xs : List Value} (s : Sl h v xs) : SlN h v 1 xs.length xs := by
  obtain ⟨ao, c, rfl, hc, _, hx⟩ := s; exact ⟨ao, c, rfl, by simp, hc, hx⟩

theorem growBy_le (need : Nat) : ∀ (r c : Nat), c ≤ 2 * need → 256 ≤ c → Builtin.growBy need r c ≤ 2 * need := by
  intro r
  induction r with
  | zero => intro c h _; exact h
  | succ r ih =>
    intro c h h2
    unfold Builtin.growBy
    split
    · exact h
    · exact ih _ (by omega) (by omega)
theorem nextcap_le {need cap : Nat} (h : cap < need) : Builtin.nextslicecap need cap ≤ 2 * need := by
  unfold Builtin.nextslicecap
  split
  · omega
  · split
    · omega
    · exact growBy_le need 4 cap (by omega) (by omega)

theorem run_append {P : Program} {t e sz bytes : Nat} {z : Value} (E : Elem P t e sz bytes z) {ty : TypeId} {cs : List Bool} {v w : Value} {n m : Nat} {xs ys : List Value} {h : Heap}
    (ho : OwnN h v e sz n xs) (hs : SlN h w sz m ys) (hone : ∀ y ∈ ys, oneC y = true) (hb : (n + m) * bytes ≤ 140737488355328) (hl : n + m ≤ 9223372036854775807) {K : Value → Heap → Prop}
    (hk : ∀ v' h', OwnN h' v' e sz (n + m) (xs ++ ys) → Chg (fun b => blkOf v = some b) h h' → (∀ b, blkOf v' = some b → blkOf v = some b ∨ h.size ≤ b) → (v' = .slice none 0 0 → n + m = 0) → K v' h') :
    run P (.builtin .append #[t, t] ty cs [v, w]) K h := by
  obtain ⟨ao, c, rfl, hlen, hc, hx⟩ := hs
  obtain ⟨base, cap, rfl, hbase⟩ : ∃ base cap, v = .slice base n cap ∧ ((base = none ∧ n = 0 ∧ cap = 0 ∧ xs = []) ∨ ∃ b, base = some ⟨b, 0, none⟩ ∧ Row h b e (cap * sz) xs ∧ xs.length = n * sz ∧ n ≤ cap) := by
    rcases ho with ⟨rfl, rfl, rfl⟩ | ⟨b, cap, rfl, r, h1, h2⟩
    · exact ⟨none, 0, rfl, .inl ⟨rfl, rfl, rfl, rfl⟩⟩
    · exact ⟨_, cap, rfl, .inr ⟨b, rfl, r, h1, h2⟩⟩
  -- the new cells
  have hnew : rd P (Builtin.firstCells sz m (.slice ao m c)) h = some ys.toArray := by
    cases ao with
    | none =>
      have : ys = [] := by
        cases ys with
        | nil => rfl
        | cons y ys => obtain ⟨a, ha, _⟩ := hx 0 y (by simp); cases ha
      subst this; rfl
    | some a =>
      show rd P (loadCellsFrom a 0 (m * sz) #[]) h = _
      rw [← hlen, rd_loadCells (P := P) ys.length 0 #[] ys (cellsAt_of ys 0 (fun j x hjx => by obtain ⟨a', ha', hca⟩ := hx j x hjx; cases ha'; simpa using hca))]
      simp
  have hold : rd P (Builtin.firstCells sz n (.slice base n cap)) h = some xs.toArray := by
    rcases hbase with ⟨rfl, rfl, rfl, rfl⟩ | ⟨b, rfl, r, h1, h2⟩
    · rfl
    · show rd P (loadCellsFrom _ 0 (n * sz) #[]) h = _
      rw [← h1, rd_loadCells (P := P) xs.length 0 #[] xs (cellsAt_of xs 0 (fun j x hjx => by rw [Addr.add_add0]; simpa using r.cell hjx))]
      simp
  obtain ⟨i, hi, hib⟩ := E.inf
  show hwp P (S.val (Builtin.append_ #[t, t] ty [Value.slice base n cap, Value.slice ao m c].toArray)) _ _ h
  show hwp P (Sem.bind _ _) _ _ h
  rw [propext (hwp_bind _ _ _ _ _ _)]
  unfold Builtin.append_
  simp only [List.getElem?_toArray, List.getElem?_cons_zero, List.getElem?_cons_succ]
  rw [propext (hwp_bind' _ _ _ _ _ _), propext (hwp_rd_iff (rd_underlying E.under h) _ _)]
  try dsimp only
  rw [propext (hwp_bind' _ _ _ _ _ _), propext (hwp_rd_iff (rd_sizeOf E.size h) _ _)]
  try dsimp only
  rw [propext (hwp_bind' _ _ _ _ _ _)]
  rw [propext (hwp_rd_iff (rd_underlying E.under h) _ _)]
  try dsimp only
  rw [propext (hwp_bind' _ _ _ _ _ _), propext (hwp_pure _ _ _ _ _)]
  try dsimp only
  simp only [Bool.false_eq_true, if_false]
  rw [propext (hwp_bind' _ _ _ _ _ _)]
  rw [propext (hwp_rd_iff (show rd P (Builtin.lenOf (.slice ao m c)) h = some m from rfl) _ _)]
  simp only [Bool.not_false, if_true]
  by_cases hfit : n + m ≤ cap
  · rw [if_pos hfit]
    rw [propext (hwp_bind' _ _ _ _ _ _), propext (hwp_rd_iff hnew _ _)]
    rcases hbase with ⟨rfl, rfl, rfl, rfl⟩ | ⟨b, rfl, r, h1, h2⟩
    · have hm0 : m = 0 := by omega
      subst hm0
      have : ys = [] := List.eq_nil_of_length_eq_zero (by simpa using hlen)
      subst this
      exact hk _ _ (.inl ⟨rfl, rfl, rfl⟩) (Chg.refl _ _) (fun b hb => by cases hb) (fun _ => rfl)
    · try dsimp only
      rw [propext (hwp_bind' _ _ _ _ _ _)]
      rw [Addr.add_add0]
      obtain ⟨arr, hbk, hsz, htk⟩ := r
      refine hwp_storeCells (e := e) ys _ 0 h arr hbk ?_ hone ?_
      · have hmul : (n + m) * sz ≤ cap * sz := Nat.mul_le_mul_right _ hfit
        rw [hsz, hlen]; rw [Nat.add_mul] at hmul; omega
      · intro h' arr' e1 e2 e3 e4 e5
        refine hk _ _ (.inr ⟨b, cap, rfl, ⟨arr', e3, e4.trans hsz, ?_⟩, by rw [List.length_append, h1, hlen, Nat.add_mul], hfit⟩) ⟨by omega, fun c _ hc => e2 c (fun hcb => hc (by rw [hcb]; rfl))⟩ (fun b' hb' => .inl (by simpa [blkOf] using hb')) (fun hv => by cases hv)
        rw [e5]
        have hx1 : arr.toList.take (0 + n * sz + 0) = xs := by rw [← htk]; congr 1; omega
        rw [hx1]
        rw [List.take_append_of_le_length (by simp), List.take_of_length_le (by simp)]
  · rw [if_neg hfit]
    have hneed : ¬ (((n + m : Nat) : Int) > IntKind.i64.max ∧ (False ∨ True)) := by
      intro hh; have := hh.1; simp [IntKind.max, IntKind.signed, IntKind.bits] at this; omega
    have hbig : ¬ (Builtin.nextslicecap (n + m) cap * bytes > 2 ^ 48) := by
      have h1 := nextcap_le (need := n + m) (cap := cap) (by omega)
      have h2 : Builtin.nextslicecap (n + m) cap * bytes ≤ 2 * (n + m) * bytes := Nat.mul_le_mul_right _ h1
      have h3 : 2 * (n + m) * bytes = 2 * ((n + m) * bytes) := by rw [Nat.mul_assoc]
      omega
    rw [propext (hwp_bind' _ _ _ _ _ _), propext (hwp_rd_iff (rd_typeInfo hi h) _ _), hib]
    try dsimp only
    rw [if_neg (by rintro ⟨hh, _⟩; exact hneed ⟨hh, .inr trivial⟩)]
    rw [propext (hwp_bind' _ _ _ _ _ _), propext (hwp_rd_iff (rd_typeInfo hi h) _ _), hib]
    try dsimp only
    rw [if_neg hbig]
    rw [propext (hwp_bind' _ _ _ _ _ _)]
    have hforce : (Question.appendCap (n + m) cap e).forced = false := rfl
    show if (Question.appendCap (n + m) cap e).forced then _ else _
    rw [hforce]
    simp only [Bool.false_eq_true, if_false]
    intro tt
    show hwp P (bind _ _) _ _ h
    rw [propext (hwp_bind' _ _ _ _ _ _), propext (hwp_rd_iff (rd_typeInfo hi h) _ _), hib]
    try dsimp only
    rw [propext (hwp_bind' _ _ _ _ _ _)]
    have hroom : ∀ k, rd P (askRoom k) h = some () := by
      intro k; unfold askRoom; split <;> rfl
    rw [propext (hwp_rd_iff (hroom _) _ _)]
    rw [propext (hwp_bind' _ _ _ _ _ _), propext (hwp_rd_iff hold _ _)]
    rw [propext (hwp_bind' _ _ _ _ _ _)]
    try dsimp only
    rw [propext (hwp_rd_iff hnew _ _)]
    rw [propext (hwp_bind' _ _ _ _ _ _), propext (hwp_rd_iff (rd_zero E.zero h) _ _)]
    show K (.slice (some ⟨h.size, 0, none⟩) (n + m) ((Question.appendCap (n + m) cap e).cut tt)) (h.push (.cells (xs.toArray ++ ys.toArray ++ Builtin.zeroCells z.cells ((Question.appendCap (n + m) cap e).cut tt - (n + m))) e))
    have hcap : n + m ≤ (Question.appendCap (n + m) cap e).cut tt := by
      show n + m ≤ (n + m) + tt % (2 ^ 63 - (n + m)); omega
    generalize (Question.appendCap (n + m) cap e).cut tt = nc at hcap ⊢
    have hxl : xs.length = n * sz := by
      rcases hbase with ⟨_, rfl, _, rfl⟩ | ⟨_, _, _, h1, _⟩
      · simp
      · exact h1
    refine hk _ _ (.inr ⟨h.size, nc, rfl, ⟨_, get_push_new _ _, ?_, ?_⟩, by rw [List.length_append, hxl, hlen, Nat.add_mul], hcap⟩) (chg_push _ _ _) (fun b hb => .inr ?_) (fun hv => by cases hv)
    · simp only [Array.size_append, List.size_toArray, hxl, hlen, Builtin.zeroCells, Array.size_map, Array.size_range, E.cells]
      rw [← Nat.add_mul, ← Nat.add_mul]; congr 1; omega
    · simp only [Array.toList_append]
      rw [List.take_append_of_le_length (by simp), List.take_of_length_le (by simp)]
    · have : h.size = b := by simpa [blkOf] using hb
      omega
/-- .. of one-cell elements -/
theorem run_append1 {P : Program} {t e bytes : Nat} {z : Value} (E : Elem P t e 1 bytes z) {ty : TypeId} {cs : List Bool} {v w : Value} {xs ys : List Value} {h : Heap}
    (ho : Own h v e xs) (hs : Sl h w ys) (hone : ∀ y ∈ ys, oneC y = true) (hb : (xs.length + ys.length) * bytes ≤ 140737488355328) (hl : xs.length + ys.length ≤ 9223372036854775807) {K : Value → Heap → Prop}
    (hk : ∀ v' h', Own h' v' e (xs ++ ys) → Chg (fun b => blkOf v = some b) h h' → (∀ b, blkOf v' = some b → blkOf v = some b ∨ h.size ≤ b) → K v' h') :
    run P (.builtin .append #[t, t] ty cs [v, w]) K h :=
  run_append E ho.toN hs.toN hone hb hl fun v' h' o c l _ => hk v' h' o.own.1 c l
end Go.Hv
namespace Go.Hv

theorem run_buildSlice {P : Program} {t e sz bytes : Nat} {z : Value} (E : Elem P t e sz bytes z) {n : Nat} {ps : List (Nat × Value)} {cells : Array Value} (h1 : n * sz ≤ 16777216) (h2 : 0 < n * sz)
    (hf : Instr.fill (fun i => some (i * sz, sz)) ((Array.range (n * sz)).map (fun i => z.cells[i % z.cells.size]!)) ps = some cells) {K : Value → Heap → Prop} {h : Heap}
    (hk : K (.slice (some ⟨h.size, 0, none⟩) n n) (h.push (.cells cells e))) : run P (.buildSlice t n ps) K h := by
  show hwp P (S.val (Instr.buildSlice t n ps.toArray)) _ _ h
  show hwp P (Sem.bind _ _) _ _ h
  rw [propext (hwp_bind _ _ _ _ _ _)]
  unfold Instr.buildSlice
  rw [propext (hwp_bind' _ _ _ _ _ _), propext (hwp_rd_iff (rd_underlying E.under h) _ _)]
  try dsimp only
  rw [propext (hwp_bind' _ _ _ _ _ _), propext (hwp_rd_iff (rd_sizeOf E.size h) _ _)]
  rw [if_neg (by omega)]
  rw [if_neg (by omega)]
  rw [propext (hwp_bind' _ _ _ _ _ _), propext (hwp_rd_iff (rd_zero E.zero h) _ _)]
  rw [propext (hwp_bind' _ _ _ _ _ _), propext (hwp_pure _ _ _ _ _)]
  simp only [hf]
  exact hk
theorem run_buildSlice1 {P : Program} {t e bytes : Nat} {z : Value} (E : Elem P t e 1 bytes z) {x : Value} (hx : oneC x = true) {K : Value → Heap → Prop} {h : Heap}
    (hk : K (.slice (some ⟨h.size, 0, none⟩) 1 1) (h.push (.cells #[x] e))) : run P (.buildSlice t 1 [(0, x)]) K h := by
  have hcs : x.cells = #[x] := by cases x <;> first | rfl | simp [oneC] at hx
  refine run_buildSlice E (n := 1) (cells := #[x]) (by omega) (by omega) ?_ hk
  rw [show Array.range (1 * 1) = #[0] from rfl]
  simp [Instr.fill, hcs]

theorem run_mkSlice {P : Program} {t e sz bytes : Nat} {z : Value} (E : Elem P t e sz bytes z) {k k' : IntKind} {l c : Nat} (h1 : l ≤ c) (h2 : bytes * c ≤ 281474976710656) (h3 : c ≤ 9223372036854775807) {K : Value → Heap → Prop} {h : Heap}
    (hk : ∀ arr : Array Value, arr.toList = (List.range (c * sz)).map (fun i => z.cells[i % sz]!) → K (.slice (some ⟨h.size, 0, none⟩) l c) (h.push (.cells arr e))) : run P (.mkSlice t (.int k (l : Int)) (.int k' (c : Int))) K h := by
  obtain ⟨i, hi, hib⟩ := E.inf
  show hwp P (S.val (Instr.makeSlice t (.int k l) (.int k' c))) _ _ h
  show hwp P (Sem.bind _ _) _ _ h
  rw [propext (hwp_bind _ _ _ _ _ _)]
  unfold Instr.makeSlice
  rw [propext (hwp_bind' _ _ _ _ _ _), propext (hwp_rd_iff (rd_underlying E.under h) _ _)]
  try dsimp only
  rw [propext (hwp_bind' _ _ _ _ _ _), propext (hwp_rd_iff (show rd P (asInt (.int k (l : Int))) h = some (l : Int) from rfl) _ _)]
  rw [propext (hwp_bind' _ _ _ _ _ _), propext (hwp_rd_iff (show rd P (asInt (.int k' (c : Int))) h = some (c : Int) from rfl) _ _)]
  rw [propext (hwp_bind' _ _ _ _ _ _), propext (hwp_rd_iff (rd_typeInfo hi h) _ _), hib]
  have w : ∀ n : Nat, n ≤ 9223372036854775807 → IntKind.i64.wrap (n : Int) = n := fun n hn => IntWalk.i64_in _ (by omega)
  rw [w l (by omega), w c h3]
  have hp : (2 : Int) ^ 48 = 281474976710656 := by decide
  have hm : (bytes : Int) * (c : Int) ≤ 281474976710656 := by
    have e : ((bytes * c : Nat) : Int) = (bytes : Int) * (c : Int) := Int.natCast_mul _ _
    rw [← e]; omega
  rw [if_neg (by
    intro hh
    simp only [Bool.or_eq_true, decide_eq_true_eq, hp] at hh
    generalize (bytes : Int) * (c : Int) = q at hm hh
    omega)]
  rw [propext (hwp_bind' _ _ _ _ _ _)]
  have hroom : ∀ k, rd P (askRoom k) h = some () := by
    intro k; unfold askRoom; split <;> rfl
  rw [propext (hwp_rd_iff (hroom _) _ _)]
  rw [propext (hwp_bind' _ _ _ _ _ _), propext (hwp_rd_iff (rd_sizeOf E.size h) _ _)]
  have hcn : ((c : Nat) : Int).toNat = c := Int.toNat_natCast c
  have hln : ((l : Nat) : Int).toNat = l := Int.toNat_natCast l
  rw [hcn, hln]
  have fin : ∀ arr : Array Value, arr.toList = (List.range (c * sz)).map (fun i => z.cells[i % sz]!) → hwp P (do let a ← newRow e arr; pure (Value.slice (some a) l c)) (fun a h => hwp P (pure (Next.value a)) (hnext P K) bad h) bad h := fun arr ha => hk arr ha
  by_cases h0 : c * sz = 0
  · rw [if_pos h0]
    rw [propext (hwp_bind' _ _ _ _ _ _), propext (hwp_pure _ _ _ _ _)]
    refine fin _ ?_
    rw [h0]; simp
  · rw [if_neg h0]
    rw [propext (hwp_bind' _ _ _ _ _ _), propext (hwp_rd_iff (rd_zero E.zero h) _ _)]
    rw [propext (hwp_bind' _ _ _ _ _ _), propext (hwp_pure _ _ _ _ _)]
    refine fin _ ?_
    simp [E.cells, Array.toList_range]
end Go.Hv
set_option linter.unusedSectionVars false
namespace Go.Hv

/-! ### maps -/
structure KeyEnc {α : Type} [DecidableEq α] (P : Program) (kt : TypeId) (enc : α → Value) : Prop where
  same : ∃ d, P.underlying kt = some d ∧ ∀ x y, Instr.sameNow d (enc x) (enc y) = some (decide (x = y))
  chk : ∀ b h x, rd P (Instr.checkKey b 10000 kt (enc x)) h = some ()
  bits : ∀ x, Instr.sameBits 10000 (enc x) (enc x) = true

section
variable {α : Type} [DecidableEq α]
def alook : List (α × Value) → α → Option Value
  | [], _ => none
  | (a, v) :: t, k => if k = a then some v else alook t k
def aset : List (α × Value) → α → Value → List (α × Value)
  | [], k, v => [(k, v)]
  | (a, w) :: t, k, v => if k = a then (a, v) :: t else (a, w) :: aset t k v
def lkI : List (α × Value) → α → Nat → Option (Nat × Value)
  | [], _, _ => none
  | (a, v) :: t, k, i => if k = a then some (i, v) else lkI t k (i + 1)
theorem lkI_alook (k : α) : ∀ (es : List (α × Value)) (i : Nat), (lkI es k i).map (·.2) = alook es k
  | [], _ => rfl
  | (a, v) :: t, i => by
    unfold lkI alook
    split
    · rfl
    · exact lkI_alook k t (i + 1)
theorem alook_none {k : α} : ∀ {es : List (α × Value)}, alook es k = none ↔ k ∉ es.map (·.1)
  | [] => by simp [alook]
  | (a, v) :: t => by
    unfold alook
    split
    · simp_all
    · rename_i h; simp [alook_none (es := t), h]
theorem alook_mem {k : α} {v : Value} : ∀ {es : List (α × Value)}, alook es k = some v → (k, v) ∈ es
  | [], h => by cases h
  | (a, w) :: t, h => by
    unfold alook at h
    split at h
    · rename_i e; cases h; subst e; simp
    · exact List.mem_cons_of_mem _ (alook_mem h)
theorem alook_of_mem {k : α} {v : Value} : ∀ {es : List (α × Value)}, (es.map (·.1)).Nodup → (k, v) ∈ es → alook es k = some v
  | [], _, h => by cases h
  | (a, w) :: t, hn, h => by
    simp only [List.map_cons, List.nodup_cons] at hn
    unfold alook
    cases h with
    | head => simp
    | tail _ h =>
      have : k ∈ t.map (·.1) := List.mem_map.2 ⟨_, h, rfl⟩
      rw [if_neg (fun e => hn.1 (by rw [← e]; exact this))]
      exact alook_of_mem hn.2 h
theorem aset_keys_of_mem (k : α) (v : Value) : ∀ {es : List (α × Value)}, k ∈ es.map (·.1) → (aset es k v).map (·.1) = es.map (·.1)
  | [], h => by cases h
  | (a, w) :: t, h => by
    unfold aset
    split
    · rfl
    · rename_i hne
      have h' : k ∈ t.map (·.1) := by simpa [hne] using h
      simp [aset_keys_of_mem k v h']
theorem aset_of_not_mem (k : α) (v : Value) : ∀ {es : List (α × Value)}, k ∉ es.map (·.1) → aset es k v = es ++ [(k, v)]
  | [], _ => rfl
  | (a, w) :: t, h => by
    unfold aset
    simp only [List.map_cons, List.mem_cons, not_or] at h
    rw [if_neg h.1, aset_of_not_mem k v h.2]; rfl
theorem aset_nodup (k : α) (v : Value) {es : List (α × Value)} (hn : (es.map (·.1)).Nodup) : ((aset es k v).map (·.1)).Nodup := by
  by_cases h : k ∈ es.map (·.1)
  · rw [aset_keys_of_mem k v h]; exact hn
  · rw [aset_of_not_mem k v h]
    simp only [List.map_append, List.map_cons, List.map_nil]
    exact List.nodup_append.2 ⟨hn, by simp, fun a ha b hb e => h (by simp at hb; rw [← hb, ← e]; exact ha)⟩
theorem alook_aset (k : α) (v : Value) (j : α) : ∀ (es : List (α × Value)), alook (aset es k v) j = if j = k then some v else alook es j
  | [] => by simp [aset, alook]
  | (a, w) :: t => by
    unfold aset
    split
    · rename_i e; subst e; unfold alook; split <;> rfl
    · rename_i hne
      unfold alook
      rw [alook_aset k v j t]
      by_cases h : j = a
      · subst h; rw [if_pos rfl, if_pos rfl, if_neg (fun e => hne e.symm)]
      · rw [if_neg h, if_neg h]

def kvs (arr : List MapEntry) : List (Value × Value) := arr.map fun e => (e.key, e.val)
/-- block b is a map of these entries -/
structure MapAt (h : Heap) (b : Nat) (enc : α → Value) (es : List (α × Value)) (arr : Array MapEntry) (clk : Nat) : Prop where
  get : h[b]? = some (.map arr clk)
  kv : kvs arr.toList = es.map fun p => (enc p.1, p.2)
  nodup : (es.map (·.1)).Nodup
  born : (arr.toList.map (·.born)).Pairwise (· < ·)
  clock : ∀ e ∈ arr.toList, e.born < clk
def MapR (h : Heap) (b : Nat) (enc : α → Value) (es : List (α × Value)) : Prop := ∃ arr clk, MapAt h b enc es arr clk
theorem MapR.keep {h h' : Heap} {b : Nat} {enc : α → Value} {es : List (α × Value)} (m : MapR h b enc es) (hk : h'[b]? = h[b]?) : MapR h' b enc es := by
  obtain ⟨arr, clk, m⟩ := m; exact ⟨arr, clk, hk.trans m.get, m.kv, m.nodup, m.born, m.clock⟩
theorem MapR.lt {h : Heap} {b : Nat} {enc : α → Value} {es : List (α × Value)} (m : MapR h b enc es) : b < h.size := by
  obtain ⟨arr, clk, m⟩ := m; exact lt_of_get m.get
theorem MapR.nodup {h : Heap} {b : Nat} {enc : α → Value} {es : List (α × Value)} (m : MapR h b enc es) : (es.map (·.1)).Nodup := by
  obtain ⟨arr, clk, m⟩ := m; exact m.nodup
theorem MapR.new (h : Heap) (enc : α → Value) : MapR (h.push (.map #[] 0)) h.size enc [] :=
  ⟨#[], 0, get_push_new _ _, rfl, by simp, by simp, fun e he => by simp at he⟩

theorem findNow_spec {d : TypeDesc} {enc : α → Value} (hs : ∀ x y, Instr.sameNow d (enc x) (enc y) = some (decide (x = y))) (k : α) : ∀ (l : List MapEntry) (es : List (α × Value)) (i : Nat), kvs l = es.map (fun p => (enc p.1, p.2)) →
    Instr.findNow d (enc k) l i = some (lkI es k i) := by
  intro l
  induction l with
  | nil => intro es i h; cases es with | nil => rfl | cons p es => simp [kvs] at h
  | cons e l ih =>
    intro es i h
    cases es with
    | nil => simp [kvs] at h
    | cons p es =>
      obtain ⟨a, v⟩ := p
      simp only [kvs, List.map_cons, List.cons.injEq, Prod.mk.injEq] at h
      unfold Instr.findNow lkI
      rw [h.1.1, hs]
      by_cases hk : k = a
      · simp [hk, h.1.2]
      · simp only [hk, decide_false, if_false]
        exact ih es (i + 1) h.2
theorem rd_findKey {P : Program} {kt : TypeId} {enc : α → Value} (E : KeyEnc P kt enc) {l : List MapEntry} {es : List (α × Value)} (hl : kvs l = es.map (fun p => (enc p.1, p.2))) (k : α) (h : Heap) : rd P (Instr.findKey kt (enc k) l) h = some (lkI es k 0) := by
  obtain ⟨d, hd, hs⟩ := E.same
  unfold Instr.findKey
  rw [rd_bind', rd_underlying hd]
  simp only [Option.bind_some]
  rw [findNow_spec hs k l es 0 hl]; rfl

/-- what a look-up hands back -/
def lkV (z : Value) (o : Option Value) (ok : Bool) : Value := match o with
  | some v => if ok = true then .tuple #[v, .bool true] else v
  | none => if ok = true then .tuple #[z, .bool false] else z
structure MapT (P : Program) (t kt et : TypeId) (z : Value) : Prop where
  under : P.underlying t = some (.map kt et)
  zero : (P.info? et).map (·.zero) = some (some z)
theorem MapR.lookup {P : Program} {t kt et : TypeId} {z : Value} (T : MapT P t kt et z) {enc : α → Value} (E : KeyEnc P kt enc) {h : Heap} {b : Nat} {es : List (α × Value)} (m : MapR h b enc es) (k : α) (ok : Bool) :
    Ans P (.lookup t (.map (some b)) (enc k) ok) (lkV z (alook es k) ok) h := by
  obtain ⟨arr, clk, m⟩ := m
  have hg : rd P (getObj b) h = some (.map arr clk) := by
    simp only [getObj, rd, m.get]
  refine rd_val ?_
  unfold Instr.lookup
  rw [rd_bind', rd_underlying T.under]
  simp only [Option.bind_some]
  rw [rd_bind', hg]
  simp only [Option.bind_some]
  rw [rd_bind', rd_pure]
  simp only [Option.bind_some]
  rw [rd_bind', E.chk]
  simp only [Option.bind_some]
  rw [rd_bind', rd_findKey E m.kv k]
  simp only [Option.bind_some]
  have hlk := lkI_alook k es 0
  cases hl : lkI es k 0 with
  | none =>
    rw [hl] at hlk
    simp only [Option.map_none] at hlk
    rw [← hlk]
    simp only
    rw [rd_bind', rd_zero T.zero]
    rfl
  | some p =>
    obtain ⟨i, v⟩ := p
    rw [hl] at hlk
    simp only [Option.map_some] at hlk
    rw [← hlk]
    rfl
theorem ans_lookupNil {P : Program} {t kt et : TypeId} {z : Value} (T : MapT P t kt et z) {enc : α → Value} (E : KeyEnc P kt enc) {h : Heap} (k : α) (ok : Bool) :
    Ans P (.lookup t (.map none) (enc k) ok) (lkV z none ok) h := by
  refine rd_val ?_
  unfold Instr.lookup
  rw [rd_bind', rd_underlying T.under]
  simp only [Option.bind_some]
  rw [rd_bind', rd_pure]
  simp only [Option.bind_some]
  rw [rd_bind', E.chk]
  simp only [Option.bind_some]
  rw [rd_bind', rd_findKey E (es := []) rfl k]
  simp only [Option.bind_some, lkI]
  rw [rd_bind', rd_zero T.zero]
  rfl
theorem MapR.len {P : Program} {t kt et : TypeId} (hu : P.underlying t = some (.map kt et)) {enc : α → Value} {h : Heap} {b : Nat} {es : List (α × Value)} (m : MapR h b enc es) {ty : TypeId} {c : Bool} :
    Ans P (.builtin .len #[t] ty [c] [.map (some b)]) (.int .i64 es.length) h := by
  obtain ⟨arr, clk, m⟩ := m
  have hg : rd P (getObj b) h = some (.map arr clk) := by
    simp only [getObj, rd, m.get]
  have hl : arr.size = es.length := by
    have := congrArg List.length m.kv
    simpa [kvs] using this
  show rd P (S.val (Builtin.len_ #[t] ty [Value.map (some b)].toArray)) h = _
  refine rd_val ?_
  simp [Builtin.len_, rd_bind', rd_underlying hu, hg, rd_pure, goInt, hl]

theorem kvs_modify (k : α) (v : Value) {enc : α → Value} : ∀ (l : List MapEntry) (es : List (α × Value)) (i j : Nat) (u : Value), kvs l = es.map (fun p => (enc p.1, p.2)) → lkI es k j = some (j + i, u) →
    kvs (l.modify i fun e => { e with key := enc k, val := v }) = (aset es k v).map (fun p => (enc p.1, p.2)) ∧ (l[i]?).map (·.key) = some (enc k) := by
  intro l
  induction l with
  | nil => intro es i j u h hk; cases es with | nil => cases hk | cons p es => simp [kvs] at h
  | cons e l ih =>
    intro es i j u h hk
    cases es with
    | nil => simp [kvs] at h
    | cons p es =>
      obtain ⟨a, w⟩ := p
      simp only [kvs, List.map_cons, List.cons.injEq, Prod.mk.injEq] at h
      unfold lkI at hk
      unfold aset
      split at hk
      · rename_i e'
        have : i = 0 := by have := (Option.some.inj hk); simp at this; omega
        subst this
        subst e'
        simp [kvs, h.1.1]
        exact h.2
      · rename_i hne
        have hge : ∀ (es : List (α × Value)) (j : Nat) (q : Nat × Value), lkI es k j = some q → j ≤ q.1 := by
          intro es
          induction es with
          | nil => intro j q h; cases h
          | cons p es ih =>
            intro j q h
            obtain ⟨a, w⟩ := p
            unfold lkI at h
            split at h
            · cases h; exact Nat.le_refl _
            · have := ih _ _ h; omega
        have hi : 1 ≤ i := by have := hge _ _ _ hk; simp at this; omega
        obtain ⟨i, rfl⟩ : ∃ m, i = m + 1 := ⟨i - 1, by omega⟩
        have hh := ih es i (j + 1) u h.2 (by rw [hk]; congr 2; omega)
        rw [if_neg hne]
        simp only [List.modify_succ_cons, List.map_cons, List.getElem?_cons_succ]
        refine ⟨?_, hh.2⟩
        simp only [kvs, List.map_cons]
        rw [show List.map (fun e => (e.key, e.val)) (l.modify i fun e => { e with key := enc k, val := v }) = _ from hh.1]
        simp [h.1.1, h.1.2]
theorem born_modify (f : MapEntry → MapEntry) (hf : ∀ e, (f e).born = e.born) (l : List MapEntry) (i : Nat) : (l.modify i f).map (·.born) = l.map (·.born) := by
  induction l generalizing i with
  | nil => cases i <;> rfl
  | cons e l ih => cases i with
    | zero => simp [hf]
    | succ i => simp [ih]

/-- m[k] = v -/
theorem run_mapUpdate {P : Program} {t kt et : TypeId} {z : Value} (T : MapT P t kt et z) {enc : α → Value} (E : KeyEnc P kt enc) {h : Heap} {b : Nat} {es : List (α × Value)} {arr : Array MapEntry} {clk : Nat} (m : MapAt h b enc es arr clk) (k : α) (v : Value) {K : Value → Heap → Prop}
    (hk : ∀ h' arr' clk', MapAt h' b enc (aset es k v) arr' clk' → Chg (fun c => c = b) h h' → h'.size = h.size → (k ∈ es.map (·.1) → clk' = clk ∧ ∃ i, arr' = arr.modify i (fun e => { e with key := enc k, val := v }) ∧ (arr[i]?).map (·.key) = some (enc k)) → K undef h') :
    run P (.mapUpdate t (.map (some b)) (enc k) v) K h := by
  have hg : rd P (getObj b) h = some (.map arr clk) := by
    simp only [getObj, rd, m.get]
  have hnc : ∃ o, h[b]? = some o ∧ ∀ c e f, o ≠ Obj.cells c e f := ⟨_, m.get, fun _ _ _ hh => by cases hh⟩
  have hset : ∀ o : Obj, Chg (fun c => c = b) h (h.setIfInBounds b o) ∧ (h.setIfInBounds b o)[b]? = some o := fun o =>
    ⟨⟨by simp, fun c _ hc => by simp only [Array.getElem?_setIfInBounds]; rw [if_neg (fun e => hc e.symm)]⟩, by simp [lt_of_get m.get]⟩
  show hwp P (S.eff (Instr.mapUpdate t (.map (some b)) (enc k) v)) _ _ h
  show hwp P (Sem.bind _ _) _ _ h
  rw [propext (hwp_bind _ _ _ _ _ _)]
  unfold Instr.mapUpdate
  rw [propext (hwp_bind' _ _ _ _ _ _), propext (hwp_rd_iff (rd_underlying T.under h) _ _)]
  try dsimp only
  rw [propext (hwp_bind' _ _ _ _ _ _), propext (hwp_rd_iff hg _ _)]
  try dsimp only
  rw [propext (hwp_bind' _ _ _ _ _ _), propext (hwp_rd_iff (E.chk false h k) _ _)]
  rw [propext (hwp_bind' _ _ _ _ _ _), propext (hwp_rd_iff (rd_findKey E m.kv k h) _ _)]
  have hlk := lkI_alook k es 0
  cases hl : lkI es k 0 with
  | none =>
    rw [hl] at hlk
    have hnm : k ∉ es.map (·.1) := alook_none.1 hlk.symm
    try dsimp only
    refine ⟨hnc, hk _ _ _ ⟨(hset _).2, ?_, aset_nodup k v m.nodup, ?_, ?_⟩ (hset _).1 (by simp) (fun h => absurd h hnm)⟩
    · rw [aset_of_not_mem k v hnm]; simp only [Array.toList_push, kvs, List.map_append, List.map_cons, List.map_nil]
      rw [show List.map (fun e => (e.key, e.val)) arr.toList = _ from m.kv]
    · simp only [Array.toList_push, List.map_append, List.map_cons, List.map_nil]
      refine List.pairwise_append.2 ⟨m.born, by simp, ?_⟩
      intro x hx y hy
      obtain ⟨e, he, rfl⟩ := List.mem_map.1 hx
      simp at hy; subst hy
      exact m.clock e he
    · intro e he
      simp only [Array.toList_push, List.mem_append, List.mem_singleton] at he
      rcases he with he | rfl
      · have := m.clock e he; omega
      · simp
  | some p =>
    obtain ⟨i, u⟩ := p
    rw [hl] at hlk
    have hmem : k ∈ es.map (·.1) := List.mem_map.2 ⟨(k, u), alook_mem hlk.symm, rfl⟩
    have hmod := kvs_modify k v arr.toList es i 0 u m.kv (by simpa using hl)
    try dsimp only
    rw [propext (hwp_bind' _ _ _ _ _ _)]
    have hkey : (Option.map (fun x => x.key) arr[i]?).getD (enc k) = enc k := by
      have := hmod.2
      simp only [Array.getElem?_toList] at this
      rw [this]; rfl
    rw [hkey]
    have hst : rd P (Instr.keyThatStays (enc k) (enc k)) h = some (enc k) := by
      unfold Instr.keyThatStays
      rw [if_pos (E.bits k)]; rfl
    rw [propext (hwp_rd_iff hst _ _)]
    refine ⟨hnc, hk _ _ _ ⟨(hset _).2, ?_, aset_nodup k v m.nodup, ?_, ?_⟩ (hset _).1 (by simp) (fun _ => ⟨rfl, i, rfl, by simpa using hmod.2⟩)⟩
    · simpa using hmod.1
    · rw [Array.toList_modify, born_modify (fun e => { e with key := enc k, val := v }) (fun e => rfl)]; exact m.born
    · intro e he
      have hb : e.born ∈ (arr.modify i fun e => { e with key := enc k, val := v }).toList.map (·.born) := List.mem_map.2 ⟨e, he, rfl⟩
      rw [Array.toList_modify, born_modify (fun e => { e with key := enc k, val := v }) (fun e => rfl)] at hb
      obtain ⟨e', he', hbe⟩ := List.mem_map.1 hb
      have := m.clock e' he'
      omega
theorem MapR.update {P : Program} {t kt et : TypeId} {z : Value} (T : MapT P t kt et z) {enc : α → Value} (E : KeyEnc P kt enc) {h : Heap} {b : Nat} {es : List (α × Value)} (m : MapR h b enc es) (k : α) (v : Value) {K : Value → Heap → Prop}
    (hk : ∀ h', MapR h' b enc (aset es k v) → Chg (fun c => c = b) h h' → h'.size = h.size → K undef h') : run P (.mapUpdate t (.map (some b)) (enc k) v) K h := by
  obtain ⟨arr, clk, m⟩ := m
  exact run_mapUpdate T E m k v fun h' arr' clk' m' c hs _ => hk h' ⟨arr', clk', m'⟩ c hs
end
end Go.Hv
set_option linter.unusedSectionVars false
namespace Go.Hv

/-! ### calls -/
def hasBody (P : Program) (g : FuncId) : Bool := match P.funcs[g]? with
  | some fn => fn.body.isSome && !(fn.name == "runtime.NumGoroutine")
  | none => false
theorem rd_callFunc {P : Program} {g : FuncId} (hg : hasBody P g = true) (args : Array Value) (h : Heap) : rd P (callFunc g args) h = some (.enter g args) := by
  unfold hasBody at hg
  cases hf : P.funcs[g]? with
  | none => rw [hf] at hg; simp at hg
  | some fn =>
    rw [hf] at hg
    simp only [Bool.and_eq_true, Bool.not_eq_true'] at hg
    unfold callFunc
    show rd P (match P.funcs[g]? with | none => _ | some fn => _) h = _
    rw [hf]
    simp only [hg.2, Bool.false_eq_true, if_false]
    have : fn.body.isNone = false := by cases hb : fn.body <;> simp_all
    simp only [this, Bool.false_eq_true, if_false]
    rfl
theorem run_callF {P : Program} {g : FuncId} (hg : hasBody P g = true) {args : List Value} {K : Value → Heap → Prop} {h : Heap} (hc : HCalls P g args.toArray h K) : run P (.callF g args) K h := by
  show hwp P (callFunc g args.toArray) _ _ h
  rw [propext (hwp_rd_iff (rd_callFunc hg args.toArray h) _ _)]
  exact hc
theorem still_callF {P : Program} {g : FuncId} (hg : hasBody P g = true) {args : List Value} {K : Value → Prop} {h : Heap} (v : Value) (hc : HCalls P g args.toArray h fun u h' => u = v ∧ h' = h) (hk : K v) : still P (.callF g args) K h := by
  refine ⟨v, ?_, hk⟩
  rw [show rd P (X.callF g args).sem h = _ from rd_callFunc hg args.toArray h]
  exact hc
theorem rd_dyn {P : Program} {g : FuncId} (hg : hasBody P g = true) {a b : Array Value} {args : List Value} {h : Heap} : rd P (X.dyn (.func (.func g) a b) args).sem h = some (.enter g (a ++ args.toArray ++ b)) := by
  show rd P (S.dyn (.func (.func g) a b) args) h = _
  show rd P (Sem.bind (Sem.pure _) _) h = _
  simp only [Sem.bind, invoke]
  exact rd_callFunc hg _ h
theorem run_dyn {P : Program} {g : FuncId} (hg : hasBody P g = true) {a b : Array Value} {args : List Value} {K : Value → Heap → Prop} {h : Heap} (hc : HCalls P g (a ++ args.toArray ++ b) h K) : run P (.dyn (.func (.func g) a b) args) K h := by
  unfold run
  rw [propext (hwp_rd_iff (rd_dyn hg) _ _)]
  exact hc
theorem still_dyn {P : Program} {g : FuncId} (hg : hasBody P g = true) {a b : Array Value} {args : List Value} {K : Value → Prop} {h : Heap} (v : Value) (hc : HCalls P g (a ++ args.toArray ++ b) h fun u h' => u = v ∧ h' = h) (hk : K v) : still P (.dyn (.func (.func g) a b) args) K h := by
  refine ⟨v, ?_, hk⟩
  rw [rd_dyn hg]
  exact hc

/-! ### ranging over a map -/
section
variable {α : Type} [DecidableEq α]
/-- block r ranges over the map in block b; the entries 'todo' are still to come -/
structure ItAt (h : Heap) (r b : Nat) (enc : α → Value) (todo : List (α × Value)) (arr : Array MapEntry) (clk : Nat) : Prop where
  it : ∃ since seen stepped, h[r]? = some (.mapIter (some b) since seen stepped) ∧ (∀ e ∈ arr.toList, e.born < since) ∧ since ≤ stepped ∧ kvs (arr.toList.filter fun e => !seen.contains e.born) = todo.map fun p => (enc p.1, p.2)
def ItR (h : Heap) (r b : Nat) (enc : α → Value) (es todo : List (α × Value)) : Prop := ∃ arr clk, MapAt h b enc es arr clk ∧ ItAt h r b enc todo arr clk ∧ (∀ e ∈ arr.toList, e.born < clk) ∧ ∃ since seen stepped, h[r]? = some (.mapIter (some b) since seen stepped) ∧ since ≤ clk
theorem ItR.map {h : Heap} {r b : Nat} {enc : α → Value} {es todo : List (α × Value)} (m : ItR h r b enc es todo) : MapR h b enc es := by
  obtain ⟨arr, clk, m, _⟩ := m; exact ⟨arr, clk, m⟩
theorem ItR.keep {h h' : Heap} {r b : Nat} {enc : α → Value} {es todo : List (α × Value)} (m : ItR h r b enc es todo) (hr : h'[r]? = h[r]?) (hb : h'[b]? = h[b]?) : ItR h' r b enc es todo := by
  obtain ⟨arr, clk, m, ⟨⟨s, se, st, h1, h2⟩⟩, h3, s', se', st', h4, h5⟩ := m
  exact ⟨arr, clk, ⟨hb.trans m.get, m.kv, m.nodup, m.born, m.clock⟩, ⟨⟨s, se, st, hr.trans h1, h2⟩⟩, h3, s', se', st', hr.trans h4, h5⟩
theorem ItR.lt {h : Heap} {r b : Nat} {enc : α → Value} {es todo : List (α × Value)} (m : ItR h r b enc es todo) : r < h.size := by
  obtain ⟨arr, clk, m, ⟨⟨s, se, st, h1, h2⟩⟩, _⟩ := m; exact lt_of_get h1
theorem ItR.ne {h : Heap} {r b : Nat} {enc : α → Value} {es todo : List (α × Value)} (m : ItR h r b enc es todo) : r ≠ b := by
  obtain ⟨arr, clk, m, ⟨⟨s, se, st, h1, h2⟩⟩, _⟩ := m
  intro e; subst e; rw [m.get] at h1; cases h1

theorem run_range {P : Program} {t kt et : TypeId} (hu : P.underlying t = some (.map kt et)) {enc : α → Value} {h : Heap} {b : Nat} {es : List (α × Value)} (m : MapR h b enc es) {K : Value → Heap → Prop}
    (hk : ∀ h', ItR h' h.size b enc es es → Chg (fun _ => False) h h' → h'.size = h.size + 1 → K (.pointer (some ⟨h.size, 0, none⟩)) h') : run P (.range t (.map (some b))) K h := by
  obtain ⟨arr, clk, m⟩ := m
  have hg : rd P (getObj b) h = some (.map arr clk) := by simp only [getObj, rd, m.get]
  show hwp P (S.val (Instr.range t (.map (some b)))) _ _ h
  show hwp P (Sem.bind _ _) _ _ h
  rw [propext (hwp_bind _ _ _ _ _ _)]
  unfold Instr.range
  rw [propext (hwp_bind' _ _ _ _ _ _), propext (hwp_rd_iff (rd_underlying hu h) _ _)]
  try dsimp only
  rw [propext (hwp_bind' _ _ _ _ _ _), propext (hwp_rd_iff hg _ _)]
  try dsimp only
  rw [propext (hwp_bind' _ _ _ _ _ _), propext (hwp_pure _ _ _ _ _)]
  have hlt := lt_of_get m.get
  refine hk _ ⟨arr, clk, ⟨(get_push_old _ _ hlt).trans m.get, m.kv, m.nodup, m.born, m.clock⟩, ⟨⟨clk, #[], clk, get_push_new _ _, m.clock, Nat.le_refl _, ?_⟩⟩, m.clock, clk, #[], clk, get_push_new _ _, Nat.le_refl _⟩ (chg_push _ _ _) (by simp)
  rw [show (arr.toList.filter fun e => !(#[] : Array Nat).contains e.born) = arr.toList from by simp]
  exact m.kv

theorem find_born {e : MapEntry} : ∀ {l : List MapEntry}, (l.map (·.born)).Pairwise (· < ·) → e ∈ l → l.find? (fun x => x.born == e.born) = some e
  | [], _, h => by cases h
  | x :: l, hp, h => by
    simp only [List.map_cons, List.pairwise_cons] at hp
    cases h with
    | head => simp
    | tail _ hm =>
      have := hp.1 e.born (List.mem_map.2 ⟨_, hm, rfl⟩)
      rw [List.find?_cons_of_neg (by simp; omega)]
      exact find_born hp.2 hm
theorem map_eraseIdx {β γ : Type} (f : β → γ) : ∀ (l : List β) (i : Nat), (l.eraseIdx i).map f = (l.map f).eraseIdx i
  | [], _ => rfl
  | _ :: _, 0 => rfl
  | x :: l, i + 1 => by simp [map_eraseIdx f l i]
theorem kvs_nil {enc : α → Value} {todo : List (α × Value)} {l : List MapEntry} (h : kvs l = todo.map fun p => (enc p.1, p.2)) : l = [] ↔ todo = [] := by
  have := congrArg List.length h
  simp only [kvs, List.length_map] at this
  constructor
  · intro e; subst e; exact List.eq_nil_of_length_eq_zero this.symm
  · intro e; subst e; exact List.eq_nil_of_length_eq_zero this
theorem kvs_get {enc : α → Value} {todo : List (α × Value)} {l : List MapEntry} (h : kvs l = todo.map fun p => (enc p.1, p.2)) {i : Nat} {e : MapEntry} (he : l[i]? = some e) : ∃ p, todo[i]? = some p ∧ e.key = enc p.1 ∧ e.val = p.2 := by
  have h1 := congrArg (·[i]?) h
  simp only [kvs, List.getElem?_map, he, Option.map_some] at h1
  cases ht : todo[i]? with
  | none => rw [ht] at h1; cases h1
  | some p => rw [ht] at h1; simp only [Option.map_some, Option.some.injEq, Prod.mk.injEq] at h1; exact ⟨p, rfl, h1.1, h1.2⟩

theorem filter_born_erase {l : List MapEntry} (hp : (l.map (·.born)).Pairwise (· < ·)) {i : Nat} {e : MapEntry} (he : l[i]? = some e) : l.filter (fun x => !(x.born == e.born)) = l.eraseIdx i := by
  induction l generalizing i with
  | nil => cases he
  | cons x l ih =>
    simp only [List.map_cons, List.pairwise_cons] at hp
    cases i with
    | zero =>
      simp only [List.getElem?_cons_zero, Option.some.injEq] at he
      subst he
      have : l.filter (fun y => !(y.born == x.born)) = l := List.filter_eq_self.2 fun y hy => by
        have := hp.1 y.born (List.mem_map.2 ⟨y, hy, rfl⟩)
        simp; omega
      simp [this]
    | succ i =>
      have he' : l[i]? = some e := by simpa using he
      have hmem : e ∈ l := List.mem_of_getElem? he'
      have hne := hp.1 e.born (List.mem_map.2 ⟨e, hmem, rfl⟩)
      rw [List.filter_cons, if_pos (by simp; omega), ih hp.2 he']
      rfl

theorem pairwise_filter_born {l : List MapEntry} (hp : (l.map (·.born)).Pairwise (· < ·)) (q : MapEntry → Bool) : ((l.filter q).map (·.born)).Pairwise (· < ·) :=
  List.Pairwise.sublist (List.Sublist.map _ List.filter_sublist) hp

/-- the next entry, whichever it is -/
theorem run_next {P : Program} {enc : α → Value} {h : Heap} {r b : Nat} {es todo : List (α × Value)} (m : ItR h r b enc es todo) {ty : TypeId} {K : Value → Heap → Prop}
    (hend : todo = [] → K (.tuple #[.bool false]) h)
    (hk : ∀ h' k v i, todo[i]? = some (k, v) → ItR h' r b enc es (todo.eraseIdx i) → Chg (fun c => c = r) h h' → h'.size = h.size → Ans P (.entry (.pointer (some ⟨r, 0, none⟩))) (.tuple #[enc k, v]) h' → K (.tuple #[.bool true, enc k, v]) h') :
    run P (.next (.pointer (some ⟨r, 0, none⟩)) false ty) K h := by
  obtain ⟨arr, clk, m, ⟨⟨since, seen, stepped, hr, hs, hss, htodo⟩⟩, hclk, s', se', st', h4, h5⟩ := m
  rw [hr] at h4; cases h4
  have hrne : r ≠ b := by intro e; subst e; rw [m.get] at hr; cases hr
  have hg : rd P (getObj b) h = some (.map arr clk) := by simp only [getObj, rd, m.get]
  have hgr : rd P (getObj r) h = some (.mapIter (some b) since seen stepped) := by simp only [getObj, rd, hr]
  show hwp P (S.val (Instr.next (.pointer (some ⟨r, 0, none⟩)) false ty)) _ _ h
  show hwp P (Sem.bind _ _) _ _ h
  rw [propext (hwp_bind _ _ _ _ _ _)]
  unfold Instr.next
  show hwp P (getObj r >>= _) _ _ h
  rw [propext (hwp_bind' _ _ _ _ _ _), propext (hwp_rd_iff hgr _ _)]
  try dsimp only
  rw [propext (hwp_bind' _ _ _ _ _ _), propext (hwp_rd_iff hg _ _)]
  try dsimp only
  have hnot : ¬ ((!seen.isEmpty && !arr.isEmpty && arr.all fun x => decide (x.born ≥ stepped)) = true) := by
    intro hh
    simp only [Bool.and_eq_true, Bool.not_eq_true'] at hh
    have hne : arr.size ≠ 0 := by
      have := hh.1.2
      intro e; simp [Array.isEmpty, e] at this
    have h0 : arr[0]'(by omega) ∈ arr.toList := by simp
    have h1 := Array.all_eq_true.1 hh.2 0 (by omega)
    have h2 := hs _ h0
    simp only [decide_eq_true_eq] at h1
    omega
  rw [if_neg hnot]
  have hold : (arr.filter fun e => !seen.contains e.born).filter (fun e => decide (e.born < since)) = arr.filter fun e => !seen.contains e.born := by
    rw [Array.filter_eq_self]
    intro e he
    have := (Array.mem_filter.1 he).1
    simpa using hs e (by simpa using this)
  have hnew : (arr.filter fun e => !seen.contains e.born).filter (fun e => decide (e.born ≥ since)) = #[] := by
    rw [Array.filter_eq_empty_iff]
    intro e he
    have := (Array.mem_filter.1 he).1
    have := hs e (by simpa using this)
    simp; omega
  rw [hold, hnew]
  simp only [Array.append_empty]
  generalize hL : (arr.filter fun e => !seen.contains e.born) = L at *
  have hLl : L.toList = arr.toList.filter fun e => !seen.contains e.born := by rw [← hL]; simp
  rw [← hLl] at htodo
  have hpw : (L.toList.map (·.born)).Pairwise (· < ·) := by rw [hLl]; exact pairwise_filter_born m.born _
  rw [propext (hwp_bind' _ _ _ _ _ _)]
  by_cases hemp : L.toList = []
  · have hL0 : L = #[] := by simpa using hemp
    subst hL0
    have ht : todo = [] := (kvs_nil htodo).1 rfl
    have hc : (((if (#[] : Array MapEntry).isEmpty = true then #[none] else #[]) : Array (Option MapEntry)) ++ Array.map some (#[] : Array MapEntry)) = #[none] := by simp
    rw [hc]
    show if (Question.mapNext 1).forced then _ else _
    rw [show (Question.mapNext 1).forced = true from rfl]
    exact hend ht
  · have hne : L.isEmpty = false := by
      cases hb : L.isEmpty with
      | false => rfl
      | true => exact absurd (by simpa using hb) (fun e : L = #[] => hemp (by rw [e]))
    simp only [hne, Bool.false_eq_true, if_false, Array.empty_append]
    have step : ∀ k, k < L.size → hwp P (match (L.map some)[k]? with
        | some (some e) => do
          setObj r (.mapIter (some b) since (seen.push e.born) clk)
          pure (.tuple #[.bool true, e.key, e.val])
        | some none => pure (.tuple #[.bool false])
        | none => stuck "Next: no such candidate") (fun a h => hwp P (pure (Next.value a)) (hnext P K) bad h) bad h := by
      intro k hkL
      have hLk : L[k]? = some L[k] := Array.getElem?_eq_getElem hkL
      rw [Array.getElem?_map, hLk]
      simp only [Option.map_some]
      refine ⟨⟨_, hr, fun _ _ _ hh => by cases hh⟩, ?_⟩
      obtain ⟨⟨kk, vv⟩, hp1, hp2, hp3⟩ := kvs_get htodo (i := k) (e := L[k]) (by rw [Array.getElem?_toList]; exact hLk)
      show K (.tuple #[.bool true, L[k].key, L[k].val]) (h.setIfInBounds r _)
      rw [hp2, hp3]
      have hget : (h.setIfInBounds r (Obj.mapIter (some b) since (seen.push L[k].born) clk))[r]? = some (.mapIter (some b) since (seen.push L[k].born) clk) := by simp [lt_of_get hr]
      have hgetb : (h.setIfInBounds r (Obj.mapIter (some b) since (seen.push L[k].born) clk))[b]? = h[b]? := by simp only [Array.getElem?_setIfInBounds]; rw [if_neg hrne]
      have hmemL : L[k] ∈ arr.toList := by
        have : L[k] ∈ L.toList := by simp
        rw [hLl] at this
        exact (List.mem_filter.1 this).1
      refine hk _ kk vv k hp1 ⟨arr, clk, ⟨hgetb.trans m.get, m.kv, m.nodup, m.born, m.clock⟩, ⟨⟨since, _, clk, hget, hs, h5, ?_⟩⟩, hclk, since, _, clk, hget, h5⟩ ⟨by simp, fun c _ hc => by simp only [Array.getElem?_setIfInBounds]; rw [if_neg (fun e => hc e.symm)]⟩ (by simp) ?_
      · have hfil : (arr.toList.filter fun e => !(seen.push L[k].born).contains e.born) = L.toList.eraseIdx k := by
          rw [← filter_born_erase hpw (by rw [Array.getElem?_toList]; exact hLk), hLl, List.filter_filter]
          refine List.filter_congr fun e _ => ?_
          by_cases he : e.born = L[k].born <;> simp [he]
        rw [hfil]
        have := congrArg (·.eraseIdx k) htodo
        simp only [kvs] at this ⊢
        rw [map_eraseIdx, this, ← map_eraseIdx]
      · refine rd_val ?_
        unfold Instr.entry
        show rd P (getObj r >>= _) _ = _
        have hg1 : rd P (getObj r) (h.setIfInBounds r (Obj.mapIter (some b) since (seen.push L[k].born) clk)) = some (.mapIter (some b) since (seen.push L[k].born) clk) := by simp only [getObj, rd, hget]
        have hg2 : rd P (getObj b) (h.setIfInBounds r (Obj.mapIter (some b) since (seen.push L[k].born) clk)) = some (.map arr clk) := by simp only [getObj, rd, hgetb, m.get]
        rw [rd_bind', hg1]
        simp only [Option.bind_some, Array.back?_push]
        rw [rd_bind', hg2]
        simp only [Option.bind_some]
        rw [if_neg (by simp)]
        have hfind : arr.find? (fun x => x.born == L[k].born) = some L[k] := by
          have h6 := find_born m.born hmemL
          simpa using h6
        rw [hfind]
        simp only [hp2, hp3]
        rfl
    show if (Question.mapNext (L.map some).size).forced then _ else _
    simp only [Array.size_map]
    split
    · rename_i hf
      have : L.size ≤ 1 := by simpa [Question.forced] using hf
      have hpos : 0 < L.size := by
        rcases Nat.eq_zero_or_pos L.size with h0 | h0
        · exact absurd (by simpa using Array.eq_empty_of_size_eq_zero h0) hemp
        · exact h0
      exact step 0 hpos
    · intro t
      have hpos : 0 < L.size := by
        rcases Nat.eq_zero_or_pos L.size with h0 | h0
        · exact absurd (by simpa using Array.eq_empty_of_size_eq_zero h0) hemp
        · exact h0
      exact step (t % L.size) (Nat.mod_lt _ hpos)
end
end Go.Hv
set_option linter.unusedSectionVars false
namespace Go.Hv

/-- what a reading operation answers, where that hangs on the heap -/
def AnsO (P : Program) (x : X) (o : Option Value) (h : Heap) : Prop := rd P x.sem h = o.map .value
theorem AnsO.run {P : Program} {x : X} {o : Option Value} {h : Heap} (e : AnsO P x o h) (K : Value → Heap → Prop) : (oget o fun v => K v h) → Hv.run P x K h := by
  rintro ⟨v, rfl, hk⟩
  rw [Ans.run (show Ans P x v h from e)]; exact hk
theorem load_run {P : Program} {t : TypeId} (ht : one P t = true) {a : Addr} {h : Heap} {v : Value} (hc : cell h a = some v) (K : Value → Heap → Prop) : run P (.load t (.pointer (some a))) K h = K v h := (ans_load ht hc).run K
theorem load_still {P : Program} {t : TypeId} (ht : one P t = true) {a : Addr} {h : Heap} {v : Value} (hc : cell h a = some v) (K : Value → Prop) : still P (.load t (.pointer (some a))) K h = K v := (ans_load ht hc).still K
theorem load_headq {P : Program} {t : TypeId} (ht : one P t = true) {a : Addr} {h : Heap} {v : Value} (hc : cell h a = some v) (K : Value → Prop) : headq P (.load t (.pointer (some a))) K h = K v := (ans_load ht hc).headq K

theorem br_bool {b : Bool} {A B : Prop} : br (.bool b) A B = (if b = true then A else B) := propext ⟨fun ⟨t, ht, hh⟩ => by cases ht; exact hh, fun hh => ⟨b, rfl, hh⟩⟩
theorem gw_bool {b w : Bool} : gw (.bool b) w = (b == w) := by cases b <;> cases w <;> rfl
theorem when_t {X : (Value → Heap → Prop) → Heap → Prop} {K : Value → Heap → Prop} {h : Heap} : when true X K h = X K h := rfl
theorem when_f {X : (Value → Heap → Prop) → Heap → Prop} {K : Value → Heap → Prop} {h : Heap} : when false X K h = K undef h := rfl
theorem whenq_t {X : (Value → Prop) → Heap → Prop} {K : Value → Prop} {h : Heap} : whenq true X K h = X K h := rfl
theorem whenq_f {X : (Value → Prop) → Heap → Prop} {K : Value → Prop} {h : Heap} : whenq false X K h = K undef := rfl
theorem whent_t {X : (Value → Prop) → Heap → Prop} {K : Value → Prop} {St : Heap → Prop} {h : Heap} : whent true X K St h = X K h := rfl
theorem whent_f {X : (Value → Prop) → Heap → Prop} {K : Value → Prop} {St : Heap → Prop} {h : Heap} : whent false X K St h = (St h ∧ K undef) := rfl
theorem U_nil (f : F) : U f [] = f := rfl
theorem U_cons (f : F) (i : Nat) (v : Value) (l : List (Nat × Value)) : U f ((i, v) :: l) = U (upd f i v) l := rfl
theorem upd_at (f : F) (i : Nat) (v : Value) (j : Nat) : upd f i v j = if j = i then v else f j := rfl

/-- the three ways of a plain operation -/
theorem three {P : Program} {x : X} {v : Value} (e : ∀ h, Ans P x v h) : (∀ K h, run P x K h = K v h) ∧ (∀ K h, still P x K h = K v) ∧ (∀ K h, headq P x K h = K v) := ⟨fun K h => (e h).run K, fun K h => (e h).still K, fun K h => (e h).headq K⟩
/-- the plain operations -/
theorem ops (P : Program) :
    (∀ (a : Addr) K h, run P (.nilCheck (.pointer (some a))) K h = K (.pointer (some a)) h) ∧ (∀ (a : Addr) K h, still P (.nilCheck (.pointer (some a))) K h = K (.pointer (some a))) ∧ (∀ (a : Addr) K h, headq P (.nilCheck (.pointer (some a))) K h = K (.pointer (some a))) ∧
    (∀ g a b K h, run P (.nilCheck (.func (.func g) a b)) K h = K (.func (.func g) a b) h) ∧ (∀ g a b K h, still P (.nilCheck (.func (.func g) a b)) K h = K (.func (.func g) a b)) ∧
    (∀ v K h, run P (.move v) K h = K v h) ∧ (∀ v K h, still P (.move v) K h = K v) ∧ (∀ v K h, headq P (.move v) K h = K v) ∧
    (∀ a b K h, run P (.extract (.tuple #[a, b]) 0) K h = K a h) ∧ (∀ a b K h, run P (.extract (.tuple #[a, b]) 1) K h = K b h) ∧
    (∀ a b K h, still P (.extract (.tuple #[a, b]) 0) K h = K a) ∧ (∀ a b K h, still P (.extract (.tuple #[a, b]) 1) K h = K b) ∧
    (∀ a b c K h, run P (.extract (.tuple #[a, b, c]) 0) K h = K a h) ∧ (∀ a b c K h, run P (.extract (.tuple #[a, b, c]) 1) K h = K b h) ∧ (∀ a b c K h, run P (.extract (.tuple #[a, b, c]) 2) K h = K c h) ∧
    (∀ a K h, run P (.extract (.tuple #[a]) 0) K h = K a h) ∧
    (∀ c a b K h, run P (.pick (.bool c) a b) K h = K (if c = true then a else b) h) ∧ (∀ c a b K h, still P (.pick (.bool c) a b) K h = K (if c = true then a else b)) ∧ (∀ c a b K h, headq P (.pick (.bool c) a b) K h = K (if c = true then a else b)) ∧
    (∀ b K h, run P (.un .not (.bool b)) K h = K (.bool !b) h) ∧ (∀ b K h, still P (.un .not (.bool b)) K h = K (.bool !b)) ∧ (∀ b K h, headq P (.un .not (.bool b)) K h = K (.bool !b)) ∧
    (∀ fn a b K h, run P (.mkFunc fn a b) K h = K (.func fn a.toArray b.toArray) h) ∧
    (∀ t c d k a b K h, run P (.bin .add t c d (.int k a) (.int k b)) K h = K (.int k (k.wrap (a + b))) h) ∧ (∀ t c d k a b K h, still P (.bin .add t c d (.int k a) (.int k b)) K h = K (.int k (k.wrap (a + b)))) ∧ (∀ t c d k a b K h, headq P (.bin .add t c d (.int k a) (.int k b)) K h = K (.int k (k.wrap (a + b)))) ∧
    (∀ t c d k a b K h, run P (.bin .sub t c d (.int k a) (.int k b)) K h = K (.int k (k.wrap (a - b))) h) ∧ (∀ t c d k a b K h, still P (.bin .sub t c d (.int k a) (.int k b)) K h = K (.int k (k.wrap (a - b)))) ∧ (∀ t c d k a b K h, headq P (.bin .sub t c d (.int k a) (.int k b)) K h = K (.int k (k.wrap (a - b)))) ∧
    (∀ t c d k a b K h, run P (.bin .mul t c d (.int k a) (.int k b)) K h = K (.int k (k.wrap (a * b))) h) ∧ (∀ t c d k a b K h, still P (.bin .mul t c d (.int k a) (.int k b)) K h = K (.int k (k.wrap (a * b)))) ∧
    (∀ t c d k a b K h, run P (.bin .lss t c d (.int k a) (.int k b)) K h = K (.bool (decide (a < b))) h) ∧ (∀ t c d k a b K h, still P (.bin .lss t c d (.int k a) (.int k b)) K h = K (.bool (decide (a < b)))) ∧
    (∀ t c d k a b K h, run P (.bin .leq t c d (.int k a) (.int k b)) K h = K (.bool (decide (a ≤ b))) h) ∧ (∀ t c d k a b K h, still P (.bin .leq t c d (.int k a) (.int k b)) K h = K (.bool (decide (a ≤ b)))) ∧
    (∀ t c d k a b K h, run P (.bin .gtr t c d (.int k a) (.int k b)) K h = K (.bool (decide (b < a))) h) ∧ (∀ t c d k a b K h, still P (.bin .gtr t c d (.int k a) (.int k b)) K h = K (.bool (decide (b < a)))) ∧
    (∀ t c d k a b K h, run P (.bin .geq t c d (.int k a) (.int k b)) K h = K (.bool (decide (b ≤ a))) h) ∧ (∀ t c d k a b K h, still P (.bin .geq t c d (.int k a) (.int k b)) K h = K (.bool (decide (b ≤ a)))) ∧
    (∀ t c d k a b K h, run P (.bin .eql t c d (.int k a) (.int k b)) K h = K (.bool (a == b)) h) ∧ (∀ t c d k a b K h, still P (.bin .eql t c d (.int k a) (.int k b)) K h = K (.bool (a == b))) ∧
    (∀ t c d k a b K h, run P (.bin .neq t c d (.int k a) (.int k b)) K h = K (.bool (a != b)) h) ∧ (∀ t c d k a b K h, still P (.bin .neq t c d (.int k a) (.int k b)) K h = K (.bool (a != b))) ∧
    (∀ (b : Bool) A B, br (.bool b) A B = (if b = true then A else B)) ∧ (∀ (b w : Bool), gw (.bool b) w = (b == w)) ∧
    (∀ X K h, when true X K h = X K h) ∧ (∀ X K h, when false X K h = K undef h) ∧ (∀ X K h, whenq true X K h = X K h) ∧ (∀ X K h, whenq false X K h = K undef) ∧ (∀ X K St h, whent true X K St h = X K h) ∧ (∀ X K St h, whent false X K St h = (St h ∧ K undef)) := by
  refine ⟨?_, ?_, ?_, ?_, ?_, ?_, ?_, ?_, ?_, ?_, ?_, ?_, ?_, ?_, ?_, ?_, ?_, ?_, ?_, ?_, ?_, ?_, ?_, ?_, ?_, ?_, ?_, ?_, ?_, ?_, ?_, ?_, ?_, ?_, ?_, ?_, ?_, ?_, ?_, ?_, ?_, ?_, ?_, ?_, ?_, fun _ _ _ => rfl, fun _ _ _ => rfl, fun _ _ _ => rfl, fun _ _ _ => rfl, fun _ _ _ _ => rfl, fun _ _ _ _ => rfl⟩
  · exact fun a => (three fun _ => ans_nilCheck).1
  · exact fun a => (three fun _ => ans_nilCheck).2.1
  · exact fun a => (three fun _ => ans_nilCheck).2.2
  · exact fun g a b => (three fun _ => ans_nilCheckF).1
  · exact fun g a b => (three fun _ => ans_nilCheckF).2.1
  · exact fun v => (three fun _ => ans_move).1
  · exact fun v => (three fun _ => ans_move).2.1
  · exact fun v => (three fun _ => ans_move).2.2
  · exact fun a b => (three fun _ => ans_extract rfl).1
  · exact fun a b => (three fun _ => ans_extract rfl).1
  · exact fun a b => (three fun _ => ans_extract rfl).2.1
  · exact fun a b => (three fun _ => ans_extract rfl).2.1
  · exact fun a b c => (three fun _ => ans_extract rfl).1
  · exact fun a b c => (three fun _ => ans_extract rfl).1
  · exact fun a b c => (three fun _ => ans_extract rfl).1
  · exact fun a => (three fun _ => ans_extract rfl).1
  · exact fun c a b => (three fun _ => ans_pick).1
  · exact fun c a b => (three fun _ => ans_pick).2.1
  · exact fun c a b => (three fun _ => ans_pick).2.2
  · exact fun b => (three fun _ => ans_not).1
  · exact fun b => (three fun _ => ans_not).2.1
  · exact fun b => (three fun _ => ans_not).2.2
  · exact fun fn a b => (three fun _ => ans_mkFunc).1
  · exact fun t c d k a b => (three fun _ => ans_add).1
  · exact fun t c d k a b => (three fun _ => ans_add).2.1
  · exact fun t c d k a b => (three fun _ => ans_add).2.2
  · exact fun t c d k a b => (three fun _ => ans_sub).1
  · exact fun t c d k a b => (three fun _ => ans_sub).2.1
  · exact fun t c d k a b => (three fun _ => ans_sub).2.2
  · exact fun t c d k a b => (three fun _ => ans_mul).1
  · exact fun t c d k a b => (three fun _ => ans_mul).2.1
  · exact fun t c d k a b => (three fun _ => ans_lss).1
  · exact fun t c d k a b => (three fun _ => ans_lss).2.1
  · exact fun t c d k a b => (three fun _ => ans_leq).1
  · exact fun t c d k a b => (three fun _ => ans_leq).2.1
  · exact fun t c d k a b => (three fun _ => ans_gtr).1
  · exact fun t c d k a b => (three fun _ => ans_gtr).2.1
  · exact fun t c d k a b => (three fun _ => ans_geq).1
  · exact fun t c d k a b => (three fun _ => ans_geq).2.1
  · exact fun t c d k a b => (three fun _ => ans_eql).1
  · exact fun t c d k a b => (three fun _ => ans_eql).2.1
  · exact fun t c d k a b => (three fun _ => ans_neq).1
  · exact fun t c d k a b => (three fun _ => ans_neq).2.1
  · exact fun b A B => br_bool
  · exact fun b w => gw_bool

/-! a struct of no cells -/
theorem run_store0 {P : Program} {t : TypeId} (ht : aggs P t = some 0) {a : Addr} {K : Value → Heap → Prop} {h : Heap} (hk : K undef h) : run P (.store t (.pointer (some a)) (.agg #[])) K h := by
  obtain ⟨_, h2⟩ := aggs_agg ht h
  show hwp P (S.eff (Instr.storeAt t (.pointer (some a)) (.agg #[]))) _ _ h
  show hwp P (Sem.bind (storeVar t a (.agg #[])) _) _ _ h
  rw [propext (hwp_bind _ _ _ _ _ _)]
  unfold storeVar
  show hwp P (Sem.bind (sizeOf t) _) _ _ h
  rw [propext (hwp_bind _ _ _ _ _ _), propext (hwp_rd_iff h2 _ _)]
  exact hk
/-- the parameters' slots -/
theorem fr : (∀ a, frame0 #[a] 0 = a) ∧ (∀ a b, frame0 #[a, b] 0 = a) ∧ (∀ a b, frame0 #[a, b] 1 = b) ∧ (∀ a b c, frame0 #[a, b, c] 0 = a) ∧ (∀ a b c, frame0 #[a, b, c] 1 = b) ∧ (∀ a b c, frame0 #[a, b, c] 2 = c) ∧
    (∀ a b c d, frame0 #[a, b, c, d] 0 = a) ∧ (∀ a b c d, frame0 #[a, b, c, d] 1 = b) ∧ (∀ a b c d, frame0 #[a, b, c, d] 2 = c) ∧ (∀ a b c d, frame0 #[a, b, c, d] 3 = d) ∧
    (∀ a b c d e, frame0 #[a, b, c, d, e] 0 = a) ∧ (∀ a b c d e, frame0 #[a, b, c, d, e] 1 = b) ∧ (∀ a b c d e, frame0 #[a, b, c, d, e] 2 = c) ∧ (∀ a b c d e, frame0 #[a, b, c, d, e] 3 = d) ∧ (∀ a b c d e, frame0 #[a, b, c, d, e] 4 = e) :=
  ⟨fun _ => rfl, fun _ _ => rfl, fun _ _ => rfl, fun _ _ _ => rfl, fun _ _ _ => rfl, fun _ _ _ => rfl, fun _ _ _ _ => rfl, fun _ _ _ _ => rfl, fun _ _ _ _ => rfl, fun _ _ _ _ => rfl, fun _ _ _ _ _ => rfl, fun _ _ _ _ _ => rfl, fun _ _ _ _ _ => rfl, fun _ _ _ _ _ => rfl, fun _ _ _ _ _ => rfl⟩
/-- reading a frame -/
theorem rdU : (∀ f : F, U f [] = f) ∧ (∀ (f : F) i v l, U f ((i, v) :: l) = U (upd f i v) l) ∧ (∀ (f : F) i v j, upd f i v j = if j = i then v else f j) := ⟨fun _ => rfl, fun _ _ _ _ => rfl, fun _ _ _ _ => rfl⟩
/-- one result -/
theorem post_ret1 {t : Nat} {R : Value → Heap → Prop} {f : F} {h : Heap} (hr : R (f t) h) : post [.tmp t] R .ret f h := ⟨[f t], rfl, hr⟩
theorem post_ret2 {t u : Nat} {R : Value → Heap → Prop} {f : F} {h : Heap} (hr : R (.tuple #[f t, f u]) h) : post [.tmp t, .tmp u] R .ret f h := ⟨[f t, f u], rfl, hr⟩
theorem post_ret3 {t u w : Nat} {R : Value → Heap → Prop} {f : F} {h : Heap} (hr : R (.tuple #[f t, f u, f w]) h) : post [.tmp t, .tmp u, .tmp w] R .ret f h := ⟨[f t, f u, f w], rfl, hr⟩
theorem post_ret0 {R : Value → Heap → Prop} {f : F} {h : Heap} (hr : R (.tuple #[]) h) : post [] R .ret f h := ⟨[], rfl, hr⟩
theorem post_end0 {R : Value → Heap → Prop} {f : F} {h : Heap} (hr : R (.tuple #[]) h) : post [] R .normal f h := ⟨[], rfl, hr⟩

/-! keys of an integer's kind -/
theorem key_int {P : Program} {kt : TypeId} {k : IntKind} (hu : P.underlying kt = some (.int k)) : KeyEnc P kt (fun n : Nat => Value.int k (n : Int)) where
  same := ⟨_, hu, fun x y => by
    simp only [Instr.sameNow, if_true]
    congr 1
    by_cases e : x = y
    · subst e; simp
    · have : ¬ ((x : Int) = (y : Int)) := by omega
      simp [e, this]⟩
  chk := fun b h x => by
    unfold Instr.checkKey
    rw [rd_bind', rd_underlying hu]; rfl
  bits := fun x => by simp [Instr.sameBits]
end Go.Hv
namespace Go.Hv
/-- a loop by an invariant; where it goes on, and where it leaves -/
theorem lp_of {B : (Exit → F → Heap → Prop) → F → Heap → Prop} {Q : Exit → F → Heap → Prop} {f : F} {h : Heap} (I : Nat → F → Heap → Prop) (k : Nat) (init : I k f h)
    (step : ∀ k f h (Q' : Exit → F → Heap → Prop), I k f h → (∀ k' f' h', k' < k → I k' f' h' → Q' .normal f' h') → (∀ e f h, e ≠ .normal → Q e f h → Q' e f h) → B Q' f h) : lp B Q f h :=
  ⟨I, ⟨k, init⟩, fun k f h i => step k f h _ i (fun k' f' h' hk hi => ⟨k', hk, hi⟩) (fun e f h he hq => by cases e <;> first | exact absurd rfl he | exact hq)⟩
/-- a loop that counts up to n -/
theorem lp_up {B : (Exit → F → Heap → Prop) → F → Heap → Prop} {Q : Exit → F → Heap → Prop} {f : F} {h : Heap} (n : Nat) (I : Nat → F → Heap → Prop) (init : I 0 f h)
    (step : ∀ j f h (Q' : Exit → F → Heap → Prop), j ≤ n → I j f h → (∀ f' h', j < n → I (j + 1) f' h' → Q' .normal f' h') → (∀ e f h, e ≠ .normal → Q e f h → Q' e f h) → B Q' f h) : lp B Q f h :=
  lp_of (fun k f h => k ≤ n ∧ I (n - k) f h) n ⟨Nat.le_refl _, by simpa using init⟩ fun k f h Q' ⟨hk, i⟩ on out =>
    step (n - k) f h Q' (Nat.sub_le _ _) i (fun f' h' hj i' => on (k - 1) f' h' (by omega) ⟨by omega, by
      rw [show n - (k - 1) = n - k + 1 by omega]; exact i'⟩) out
theorem ex : (∀ n Q (f : F) (h : Heap), inB n Q (.exit n) f h = Q .normal f h) ∧ (∀ K Q (f : F) (h : Heap), thenQ K Q .normal f h = K f h) ∧ (∀ n K Q (f : F) (h : Heap), thenQ K Q (.exit n) f h = Q (.exit n) f h) ∧ (∀ K Q (f : F) (h : Heap), thenQ K Q .ret f h = Q .ret f h) ∧ (∀ n Q (f : F) (h : Heap), inB n Q .ret f h = Q .ret f h) ∧ (∀ n Q (f : F) (h : Heap), inB n Q .normal f h = Q .normal f h) :=
  ⟨fun n Q f h => by simp [inB], fun _ _ _ _ => rfl, fun _ _ _ _ _ => rfl, fun _ _ _ _ => rfl, fun _ _ _ _ => rfl, fun _ _ _ _ => rfl⟩
/-- .. answers the same in whatever heap -/
theorem Ans.tf {P : Program} {x : X} {v : Value} (e : ∀ h, Ans P x v h) (K : Value → Prop) : Hv.tf P x K = K v := propext ⟨fun ⟨u, hu, hk⟩ => by
    have h1 := hu #[]
    rw [show rd P x.sem #[] = some (.value v) from e #[]] at h1
    cases h1; exact hk, fun hk => ⟨v, e, hk⟩⟩
theorem ans_quo {P : Program} {t : TypeId} {c d : Bool} {k : IntKind} {a b : Int} {h : Heap} (hb : b ≠ 0) : Ans P (.bin .quo t c d (.int k a) (.int k b)) (.int k (k.wrap (a.tdiv b))) h := by
  refine rd_val ?_
  show rd P (binOp .quo t (.int k a) (.int k b)) h = _
  simp only [binOp]; rw [if_neg (by simp)]
  simp only [Op.intDiv]; rw [if_neg hb]; rfl
theorem ans_rem {P : Program} {t : TypeId} {c d : Bool} {k : IntKind} {a b : Int} {h : Heap} (hb : b ≠ 0) : Ans P (.bin .rem t c d (.int k a) (.int k b)) (.int k (a.tmod b)) h := by
  refine rd_val ?_
  show rd P (binOp .rem t (.int k a) (.int k b)) h = _
  simp only [binOp]; rw [if_neg (by simp)]
  simp only [Op.intDiv]; rw [if_neg hb]; rfl
theorem ans_and {P : Program} {t : TypeId} {c d : Bool} {k : IntKind} {a b : Int} {h : Heap} : Ans P (.bin .and t c d (.int k a) (.int k b)) (.int k (k.wrap (BitVec.ofInt k.bits a &&& BitVec.ofInt k.bits b).toNat)) h := by
  refine rd_val ?_
  show rd P (binOp .and t (.int k a) (.int k b)) h = _
  simp only [binOp]; rw [if_neg (by simp)]; rfl
theorem ans_xor {P : Program} {t : TypeId} {c d : Bool} {k : IntKind} {a b : Int} {h : Heap} : Ans P (.bin .xor t c d (.int k a) (.int k b)) (.int k (k.wrap (BitVec.ofInt k.bits a ^^^ BitVec.ofInt k.bits b).toNat)) h := by
  refine rd_val ?_
  show rd P (binOp .xor t (.int k a) (.int k b)) h = _
  simp only [binOp]; rw [if_neg (by simp)]; rfl
theorem ans_shl {P : Program} {t : TypeId} {c d : Bool} {k j : IntKind} {a b : Int} {h : Heap} (hb : 0 ≤ b) : Ans P (.bin .shl t c d (.int k a) (.int j b)) (.int k (k.wrap (a * 2 ^ min b.toNat k.bits))) h := by
  refine rd_val ?_
  show rd P (binOp .shl t (.int k a) (.int j b)) h = _
  simp only [binOp, Op.shift]; rw [if_neg (by omega)]; rfl
theorem ans_shr {P : Program} {t : TypeId} {c d : Bool} {k j : IntKind} {a b : Int} {h : Heap} (hb : 0 ≤ b) : Ans P (.bin .shr t c d (.int k a) (.int j b)) (.int k (a.fdiv (2 ^ min b.toNat k.bits))) h := by
  refine rd_val ?_
  show rd P (binOp .shr t (.int k a) (.int j b)) h = _
  simp only [binOp, Op.shift]; rw [if_neg (by omega)]; rfl
theorem opsf (P : Program) : (∀ v K, tf P (.move v) K = K v) ∧ (∀ c a b K, tf P (.pick (.bool c) a b) K = K (if c = true then a else b)) ∧ (∀ b K, tf P (.un .not (.bool b)) K = K (.bool !b)) ∧
    (∀ t c d k a b K, tf P (.bin .add t c d (.int k a) (.int k b)) K = K (.int k (k.wrap (a + b)))) ∧ (∀ t c d k a b K, tf P (.bin .sub t c d (.int k a) (.int k b)) K = K (.int k (k.wrap (a - b)))) ∧
    (∀ t c d k a b K h, headq P (.bin .lss t c d (.int k a) (.int k b)) K h = K (.bool (decide (a < b)))) ∧ (∀ t c d k a b K h, headq P (.bin .leq t c d (.int k a) (.int k b)) K h = K (.bool (decide (a ≤ b)))) ∧
    (∀ t c d k a b K h, headq P (.bin .gtr t c d (.int k a) (.int k b)) K h = K (.bool (decide (b < a)))) ∧ (∀ t c d k a b K h, headq P (.bin .geq t c d (.int k a) (.int k b)) K h = K (.bool (decide (b ≤ a)))) ∧
    (∀ t c d k a b K h, headq P (.bin .mul t c d (.int k a) (.int k b)) K h = K (.int k (k.wrap (a * b)))) ∧
    (∀ a b K h, headq P (.extract (.tuple #[a, b]) 0) K h = K a) ∧ (∀ a b K h, headq P (.extract (.tuple #[a, b]) 1) K h = K b) ∧ (∀ a b K, tf P (.extract (.tuple #[a, b]) 0) K = K a) ∧ (∀ a b K, tf P (.extract (.tuple #[a, b]) 1) K = K b) ∧
    (∀ (a : Addr) K, tf P (.nilCheck (.pointer (some a))) K = K (.pointer (some a))) ∧
    (∀ X K, whenf true X K = X K) ∧ (∀ X K, whenf false X K = K undef) := by
  refine ⟨?_, ?_, ?_, ?_, ?_, ?_, ?_, ?_, ?_, ?_, ?_, ?_, ?_, ?_, ?_, fun _ _ => rfl, fun _ _ => rfl⟩
  · exact fun v => Ans.tf fun _ => ans_move
  · exact fun c a b => Ans.tf fun _ => ans_pick
  · exact fun b => Ans.tf fun _ => ans_not
  · exact fun t c d k a b => Ans.tf fun _ => ans_add
  · exact fun t c d k a b => Ans.tf fun _ => ans_sub
  · exact fun t c d k a b K h => (ans_lss (h := h)).headq K
  · exact fun t c d k a b K h => (ans_leq (h := h)).headq K
  · exact fun t c d k a b K h => (ans_gtr (h := h)).headq K
  · exact fun t c d k a b K h => (ans_geq (h := h)).headq K
  · exact fun t c d k a b K h => (ans_mul (h := h)).headq K
  · exact fun a b K h => (ans_extract (h := h) rfl).headq K
  · exact fun a b K h => (ans_extract (h := h) rfl).headq K
  · exact fun a b => Ans.tf fun _ => ans_extract rfl
  · exact fun a b => Ans.tf fun _ => ans_extract rfl
  · exact fun a => Ans.tf fun _ => ans_nilCheck
end Go.Hv
