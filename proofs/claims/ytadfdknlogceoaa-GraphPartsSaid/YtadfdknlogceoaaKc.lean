import Derived.RangeFuncLeaves
import Derived.RangeFuncIn
import Derived.Laws.Externs
import Derived.Test.YtadfdknlogceoaaKb
set_option linter.all false
namespace Go.Hv
/-! ### ranges over functions: rounds -/
/-- the machine's rules on code, in a frame of a plain make or in a round's -/
def Fw (ro : Option Nat) : Fence := { fn := fun _ => True, depth := none, alive := false, round := ro }
theorem callsFw {k : Nat} {P : Program} {ro : Option Nat} {g : FuncId} {args : Array Value} {w : World} {R : Ending → World → Prop} (h : Calls P g args w R) : CallsIn (Fw ro) k P g args w R := callsIn_wide.2 h
def HRound (P : Program) (l : Nat) (fn : FuncId) (tmps : Array Value) (assign body : Code) (h : Heap) (K : Value → Heap → Prop) : Prop :=
  ∀ E w, At E h w → ∀ k, RoundIn (Fw none) k P l fn tmps assign body w fun e w' => ∃ v h', e = .returned v ∧ At E h' w' ∧ K v h'
def hnextR (P : Program) (K : Value → Heap → Prop) : Next → Heap → Prop
  | .value v, h => K v h
  | .skip, h => K undef h
  | .enter g args, h => HCalls P g args h K
  | .round l fn tmps assign body, h => HRound P l fn tmps assign body h K
  | _, _ => False
def runR (P : Program) (x : X) (K : Value → Heap → Prop) (h : Heap) : Prop := hwp P x.sem (hnextR P K) bad h
theorem runR_of {P : Program} {x : X} {K : Value → Heap → Prop} {h : Heap} (hh : run P x K h) : runR P x K h :=
  hwp_mono hh (fun a h x => by cases a <;> first | exact x | exact x.elim) fun _ _ x => x

structure FitsD (ds : List Deferred) (n : Nat) (f : F) (a : Act) : Prop where
  fits : Fits n f { tmps := a.tmps, defers := [] }
  defers : a.defers = ds
theorem FitsD.eval {ds : List Deferred} {n : Nat} {f : F} {a : Act} (h : FitsD ds n f a) : a.eval = ev f := by
  rw [← h.fits.eval]; funext x; cases x <;> rfl
theorem FitsD.put {ds : List Deferred} {n : Nat} {f : F} {a : Act} (h : FitsD ds n f a) {d : Option Tmp} (hd : dstOk n d = true) (v : Value) : FitsD ds n (put f d v) (a.put d v) := by
  have := h.fits.put hd v
  cases d with
  | none => exact h
  | some d => exact ⟨this, h.defers⟩
theorem FitsD.wants {ds : List Deferred} {n : Nat} {f : F} {a : Act} (h : FitsD ds n f a) {ops : Array Oper} (ho : opsOk n ops = true) (o : Oper) : Region.wanted o (yielded ops a.tmps) = wants ops f o := h.fits.wants ho o
def liftD (ds : List Deferred) (E : Env) (n : Nat) (Q : Exit → F → Heap → Prop) (e : Exit) (a : Act) (w : World) : Prop := ∃ f h, FitsD ds n f a ∧ At E h w ∧ Q e f h

theorem runR_sound {P : Program} {ro : Option Nat} {k : Nat} {o : Oper} {a : Act} {E : Env} {K : Value → Heap → Prop} {h : Heap} {w : World} {next : Act → World → Prop} {Q : Exit → Act → World → Prop} (hx : xopOk o = true)
    (hh : hwp P (execOp a.eval o) (hnextR P K) bad h) (ha : At E h w) (hK : ∀ v h' w', At E h' w' → K v h' → next (a.put o.dst v) w') : o.wpIn (Fw ro) k P a w next Q := by
  refine ⟨fun _ _ => trivial, ?_⟩
  rw [show (Fw ro).round = ro from rfl, Oper.semAt_eq ro a.eval o (fun c hc => by unfold xopOk at hx; rw [hc] at hx; cases hx)]
  have hs := hwp_sound hh ha
  cases hr : (execOp a.eval o).run P w with
  | halt e w' =>
    rw [hr] at hs
    obtain ⟨h', ha', hb⟩ := hs
    exact hb.elim
  | ok x w' =>
    rw [hr] at hs
    obtain ⟨h', ha', hb⟩ := hs
    cases x <;> try exact hb.elim
    · exact hK _ _ _ ha' hb
    · exact hK _ _ _ ha' hb
    · rename_i g args
      refine ⟨fun h => (by cases h), callsFw ((hb E w' ha').mono ?_)⟩
      intro e w'' hx
      obtain ⟨v, h'', rfl, ha'', r⟩ := hx
      exact hK _ _ _ ha'' r
    · rename_i l fn tmps assign body
      refine ⟨fun h => (by cases h), ?_⟩
      refine RoundIn.mono (F := Fw ro) (show RoundIn (Fw ro) (k - 1) P l fn tmps assign body w' _ from hb E w' ha' (k - 1)) ?_
      intro e w'' hx
      obtain ⟨v, h'', rfl, ha'', r⟩ := hx
      exact hK _ _ _ ha'' r

def stpR (P : Program) (x : X) (K : Value → Heap → Prop) (h : Heap) : Prop :=
  match x with
  | .move v => K v h
  | x => runR P x K h
noncomputable def hopsR (P : Program) (ops : Array Oper) (Q : F → Heap → Prop) (l : List Oper) : F → Heap → Prop :=
  List.rec (motive := fun _ => F → Heap → Prop) (fun f h => Q f h)
    (fun o _ ih f h => match o.guard with
      | none => stpR P (xop (ev f) o) (fun v h' => ih (put f o.dst v) h') h
      | some _ => False) l
theorem hopsR_cons (P : Program) (ops : Array Oper) (Q : F → Heap → Prop) (o : Oper) (rest : List Oper) (f : F) (h : Heap) : hopsR P ops Q (o :: rest) f h =
    match o.guard with
    | none => stpR P (xop (ev f) o) (fun v h' => hopsR P ops Q rest (put f o.dst v) h') h
    | some _ => False := rfl
theorem stpR_run {P : Program} {x : X} {K : Value → Heap → Prop} {h : Heap} (hh : stpR P x K h) : runR P x K h := by
  cases x <;> exact hh
theorem hopsR_sound {P : Program} {ro : Option Nat} {k : Nat} {ops : Array Oper} {ds : List Deferred} {n : Nat} {E : Env} {Q : Exit → F → Heap → Prop} (hall : opsOk n ops = true) :
    ∀ (l : List Oper), l.all (operOk n) = true → ∀ {f h a w}, hopsR P ops (Q .normal) l f h → FitsD ds n f a → At E h w → wpListIn (Fw ro) k P ops (liftD ds E n Q) l a w := by
  intro l
  induction l with
  | nil => intro _ f h a w hh hf ha; exact ⟨f, h, hf, ha, hh⟩
  | cons o rest ih =>
    intro hl f h a w hh hf ha
    simp only [List.all_cons, Bool.and_eq_true] at hl
    rw [hopsR_cons] at hh
    cases hg : o.guard with
    | some g => rw [hg] at hh; exact hh.elim
    | none =>
      rw [hg] at hh
      unfold wpListIn
      rw [if_pos (by simp [Region.wanted, hg])]
      have hx : xopOk o = true := (Bool.and_eq_true _ _ ▸ hl.1).2
      refine runR_sound (E := E) (K := fun v h' => hopsR P ops (Q .normal) rest (Hv.put f o.dst v) h') hx ?_ ha ?_
      · rw [hf.eval, ← operOk.xop hl.1 f]; exact stpR_run hh
      · intro v h' w' ha' hk; exact ih hl.2 hk (hf.put (operOk.dst hl.1) _) ha'

/-- the code's meaning over plain heaps, regions that draw left out -/
noncomputable def hcodeR (P : Program) (c : Code) : (Exit → F → Heap → Prop) → F → Heap → Prop :=
  Code.rec (motive := fun _ => (Exit → F → Heap → Prop) → F → Heap → Prop)
    (fun Q f h => Q .normal f h)
    (fun _ ops draw Q f h => match draw with | false => hopsR P ops (Q .normal) ops.toList f h | true => False)
    (fun _ _ A B Q f h => A (thenQ (B Q) Q) f h)
    (fun c _ _ A B Q f h => br (ev f c) (A Q f h) (B Q f h))
    (fun id _ A Q f h => A (inB id Q) f h)
    (fun _ A Q f h => lp A Q f h)
    (fun _ _ _ _ _ _ _ _ _ => False)
    (fun id Q f h => Q (.exit id) f h)
    (fun _ _ _ _ _ => False)
    (fun _ Q f h => Q .normal f h)
    (fun _ _ _ _ => False)
    (fun Q f h => Q .ret f h)
    (fun _ _ _ _ => False)
    c
def codeOkR (n : Nat) : Code → Bool
  | .region _ ops draw => opsOk n ops && !draw
  | .seq a b | .cond _ a b => codeOkR n a && codeOkR n b
  | .block _ c | .loop c => codeOkR n c
  | _ => true
theorem liftD_mono {ds : List Deferred} {E : Env} {n : Nat} {Q Q' : Exit → F → Heap → Prop} (h : ∀ e f h, Q e f h → Q' e f h) (e : Exit) (a : Act) (w : World) (hl : liftD ds E n Q e a w) : liftD ds E n Q' e a w :=
  let ⟨f, hp, h1, h2, h3⟩ := hl; ⟨f, hp, h1, h2, h _ _ _ h3⟩
theorem wpIn_loop_rank {P : Program} {ro : Option Nat} {n : Nat} {Q : Exit → Act → World → Prop} {c : Code} (I : Nat → Act → World → Prop) {a : Act} {w : World} {k0 : Nat} (h₀ : I k0 a w)
    (round : ∀ k a w, I k a w → c.wpIn (Fw ro) n P (Exit.then (fun a' w' => ∃ k', k' < k ∧ I k' a' w') Q) a w) : (Code.loop c).wpIn (Fw ro) n P Q a w := by
  intro b k cs hro hb hr
  have key : ∀ m a w, I m a w →
      ∃ e a' w', Q e a' w' ∧ ArrivesIn (Machine.fenced P (Fw ro)) P (lone (b.atR a (.code c :: .inLoop c :: k)) cs w) b k cs e a' w' := by
    intro m
    induction m using Nat.strongRecOn with
    | _ m ih =>
      intro a w hI
      obtain ⟨e, a₁, w₁, hq, harr⟩ := round m a w hI b (.inLoop c :: k) cs hro hb hr
      cases e with
      | normal =>
        obtain ⟨n', hlt, hI₁⟩ := hq
        obtain ⟨e₂, a₂, w₂, hq₂, harr₂⟩ := ih n' hlt a₁ w₁ hI₁
        exact ⟨e₂, a₂, w₂, hq₂, .of_steps (StepsIn.trans harr (.one (fenced_calm hb hr rfl) stepR_inLoop)) harr₂⟩
      | exit id => exact ⟨_, a₁, w₁, hq, .pass (x := .inLoop c) rfl (fun _ _ => .inl (by simp)) harr⟩
      | goto l => exact ⟨_, a₁, w₁, hq, .pass (x := .inLoop c) rfl (fun _ _ => .inl (by simp)) harr⟩
      | ret => exact ⟨_, a₁, w₁, hq, .pass (x := .inLoop c) rfl (fun _ _ => .inl (by simp)) harr⟩
      | panic ch => exact ⟨_, a₁, w₁, hq, .pass (x := .inLoop c) rfl (fun _ _ => .inl (by simp)) harr⟩
      | outgrown => exact ⟨_, a₁, w₁, hq, .pass (x := .inLoop c) rfl (fun _ _ => .inl (by simp)) harr⟩
  obtain ⟨e, a', w', hq, harr⟩ := key _ a w h₀
  exact ⟨e, a', w', hq, .of_steps (.one (fenced_calm hb hr rfl) stepR_loop) harr⟩
theorem hcodeR_sound {P : Program} {ro : Option Nat} {k : Nat} {ds : List Deferred} {n : Nat} {E : Env} (c : Code) : codeOkR n c = true →
    ∀ {Q f h a w}, hcodeR P c Q f h → FitsD ds n f a → At E h w → c.wpIn (Fw ro) k P (liftD ds E n Q) a w := by
  induction c with
  | skip => intro _ Q f h a w hh hf ha; exact wpIn_skip ⟨f, h, hf, ha, hh⟩
  | region id ops draw =>
    intro hok Q f h a w hh hf ha
    simp only [codeOkR, Bool.and_eq_true, Bool.not_eq_true'] at hok
    obtain ⟨hops, rfl⟩ := hok
    exact wpIn_region_list (hopsR_sound hops _ hops hh hf ha)
  | seq x y ihx ihy =>
    intro hok Q f h a w hh hf ha
    simp only [codeOkR, Bool.and_eq_true] at hok
    refine wpIn_seq (wpIn_mono (ihx hok.1 hh hf ha) ?_)
    rintro e a' w' ⟨f', h', hf', ha', hq⟩
    cases e with
    | normal => exact ihy hok.2 hq hf' ha'
    | _ => exact ⟨f', h', hf', ha', hq⟩
  | cond c x y ihx ihy =>
    intro hok Q f h a w hh hf ha
    simp only [codeOkR, Bool.and_eq_true] at hok
    obtain ⟨t, ht, hh⟩ := hh
    refine wpIn_cond (t := t) (by rw [hf.eval]; exact ht) ?_
    cases t with
    | true => exact ihx hok.1 hh hf ha
    | false => exact ihy hok.2 hh hf ha
  | block id c ih =>
    intro hok Q f h a w hh hf ha
    refine wpIn_block (wpIn_mono (ih hok hh hf ha) ?_)
    rintro e a' w' ⟨f', h', hf', ha', hq⟩
    cases e with
    | exit i =>
      simp only [inB] at hq
      simp only [Exit.inBlock]
      split at hq
      · rename_i he; rw [if_pos he]; exact ⟨f', h', hf', ha', hq⟩
      · rename_i he; rw [if_neg he]; exact ⟨f', h', hf', ha', hq⟩
    | _ => exact ⟨f', h', hf', ha', hq⟩
  | loop c ih =>
    intro hok Q f h a w hh hf ha
    obtain ⟨I, ⟨k0, hi⟩, hst⟩ := hh
    refine wpIn_loop_rank (fun k a w => ∃ f h, FitsD ds n f a ∧ At E h w ∧ I k f h) ⟨f, h, hf, ha, hi⟩ ?_
    rintro m a w ⟨f, h, hf, ha, hi⟩
    refine wpIn_mono (ih hok (hst m f h hi) hf ha) ?_
    rintro e a' w' ⟨f', h', hf', ha', hq⟩
    cases e with
    | normal =>
      obtain ⟨k', hk', hi'⟩ := hq
      exact ⟨k', hk', f', h', hf', ha', hi'⟩
    | _ => exact ⟨f', h', hf', ha', hq⟩
  | rangeFunc => intro _ Q f h a w hh; exact hh.elim
  | exit id => intro _ Q f h a w hh hf ha; exact wpIn_exit ⟨f, h, hf, ha, hh⟩
  | scope => intro _ Q f h a w hh; exact hh.elim
  | label l => intro _ Q f h a w hh hf ha; exact wpIn_label ⟨f, h, hf, ha, hh⟩
  | goto l => intro _ Q f h a w hh; exact hh.elim
  | ret => intro _ Q f h a w hh hf ha; exact wpIn_ret ⟨f, h, hf, ha, hh⟩
  | refuse => intro _ Q f h a w hh; exact hh.elim

/-- a function that calls what was handed in (yield, too) -/
theorem hcallsR {P : Program} {g : FuncId} {fn : Func} {args : Array Value} {h : Heap} {R : Value → Heap → Prop} {top : (Exit → F → Heap → Prop) → F → Heap → Prop} {rs : List ResultVar}
    (hf : P.funcs[g]? = some fn) (hc : top = hcodeR P (fn.body.getD .skip)) (hb : fn.body.isSome = true) (hn : Nat.ble args.size fn.ntmps = true) (hok : codeOkR fn.ntmps (fn.body.getD .skip) = true) (hrs : fn.results.toList = rs) (hr : resOk P rs = true)
    (hh : top (post rs R) (frame0 args) h) : HCalls P g args h R := by
  subst hc; subst hrs
  intro E w ha
  obtain ⟨c, hb⟩ : ∃ c, fn.body = some c := by cases hbb : fn.body with | none => rw [hbb] at hb; simp at hb | some c => exact ⟨c, rfl⟩
  rw [hb] at hh hok
  refine calls_of_wp hf hb ?_
  have hfit : Fits fn.ntmps (frame0 args) { tmps := args ++ Array.replicate (fn.ntmps - args.size) undef, defers := [] } := by
    refine ⟨?_, ?_, rfl⟩
    · have := Nat.le_of_ble_eq_true hn; simp; omega
    · intro i
      simp only [frame0]
      by_cases hi : i < args.size
      · simp [Array.getD, hi]; intro h; omega
      · simp only [Array.getD, hi, dite_false]
        split
        · rename_i hlt
          simp [Array.getElem_append, hi]
        · rfl
  refine (wpIn_wide (n := 0)).1 (wpIn_mono (hcodeR_sound (P := P) (ro := none) (k := 0) (ds := []) (E := E) (n := fn.ntmps) c hok hh ⟨hfit, rfl⟩ ha) ?_)
  rintro e a w' ⟨f, h', hf', ha', hq⟩
  have hfin : ∀ rs, fn.results.toList = rs → fin R f h' rs → a.defers = [] ∧ ∃ v, (results fn a.tmps).run P w' = .ok v w' ∧ ∃ v' h', Ending.returned v = .returned v' ∧ At E h' w' ∧ R v' h' := by
    rintro rs rfl ⟨l, hl, hR⟩
    obtain ⟨rfl, h2, h3, h4⟩ := ha'
    exact ⟨hf'.defers, _, run_of_rd' (results_rd hf'.fits hr hl), _, _, rfl, ⟨rfl, h2, h3, h4⟩, hR⟩
  cases e with
  | normal => exact hfin _ rfl hq
  | ret => exact hfin _ rfl hq
  | _ => exact hq.elim

/-- a call of yield -/
theorem runR_yield {P : Program} {l : Nat} {r : Loop} {v : Value} {t : Tmp} {K : Value → Heap → Prop} {h : Heap} (hl : h[l]? = some (.loop r)) (hp : r.params = #[t])
    (hr : HRound P l r.fn (r.tmps.setIfInBounds t v) r.assign r.body h K) : runR P (.dyn (.func (.yield l) #[] #[]) [v]) K h := by
  have hg : rd P (getObj l) h = some (.loop r) := by simp only [getObj, rd, hl]
  have hrd : rd P (X.dyn (.func (.yield l) #[] #[]) [v]).sem h = some (.round l r.fn (r.tmps.setIfInBounds t v) r.assign r.body) := by
    show rd P (Instr.yield l #[v]) h = _
    unfold Instr.yield Instr.getLoop
    rw [rd_bind', rd_bind', hg]
    simp only [Option.bind_some]
    rw [show rd P (pure r : Sem Loop) h = some r from rfl]
    simp only [Option.bind_some, hp]
    rw [if_neg (by simp), rd_pure]
    simp
  unfold runR
  rw [propext (hwp_rd_iff hrd _ _)]
  exact hr
theorem runR_yield2 {P : Program} {l : Nat} {r : Loop} {v u : Value} {t s : Tmp} {K : Value → Heap → Prop} {h : Heap} (hl : h[l]? = some (.loop r)) (hp : r.params = #[t, s])
    (hr : HRound P l r.fn ((r.tmps.setIfInBounds t v).setIfInBounds s u) r.assign r.body h K) : runR P (.dyn (.func (.yield l) #[] #[]) [v, u]) K h := by
  have hg : rd P (getObj l) h = some (.loop r) := by simp only [getObj, rd, hl]
  have hrd : rd P (X.dyn (.func (.yield l) #[] #[]) [v, u]).sem h = some (.round l r.fn ((r.tmps.setIfInBounds t v).setIfInBounds s u) r.assign r.body) := by
    show rd P (Instr.yield l #[v, u]) h = _
    unfold Instr.yield Instr.getLoop
    rw [rd_bind', rd_bind', hg]
    simp only [Option.bind_some]
    rw [show rd P (pure r : Sem Loop) h = some r from rfl]
    simp only [Option.bind_some, hp]
    rw [if_neg (by simp), rd_pure]
    simp
  unfold runR
  rw [propext (hwp_rd_iff hrd _ _)]
  exact hr

theorem hwp_setLoop {P : Program} {l : Nat} {r : Loop} {h : Heap} (hl : h[l]? = some (.loop r)) {α : Type} {r' : Loop} {k : Sem α} {Q : α → Heap → Prop} {X : Halt → Heap → Prop} (hk : hwp P k Q X (h.setIfInBounds l (.loop r'))) : hwp P (setObj l (.loop r') >>= fun _ => k) Q X h :=
  ⟨⟨_, hl, fun _ _ _ hh => by cases hh⟩, hk⟩
theorem hwp_getLoop {P : Program} {l : Nat} {r : Loop} {h : Heap} (hl : h[l]? = some (.loop r)) {α : Type} {k : Loop → Sem α} {Q : α → Heap → Prop} {X : Halt → Heap → Prop} (hk : hwp P (k r) Q X h) : hwp P (Instr.getLoop l >>= k) Q X h :=
  ⟨_, hl, fun _ _ _ hh => (by cases hh), hk⟩
/-- what a run of reading and writing comes to -/
theorem run_of_hwp {α : Type} {P : Program} {s : Sem α} {a : α} {h h' : Heap} {E : Env} {w : World} (hh : hwp P s (fun b k => b = a ∧ k = h') bad h) (ha : At E h w) : ∃ w', s.run P w = .ok a w' ∧ At E h' w' := by
  have hs := hwp_sound hh ha
  cases hr : s.run P w with
  | halt e w' => rw [hr] at hs; obtain ⟨_, _, hb⟩ := hs; exact hb.elim
  | ok x w' => rw [hr] at hs; obtain ⟨_, ha', rfl, rfl⟩ := hs; exact ⟨w', rfl, ha'⟩
/-- one round, its body left at its end -/
theorem hround {P : Program} {l : Nat} {r : Loop} {fn : FuncId} {tmps : Array Value} {n : Nat} {f : F} {h : Heap} {K : Value → Heap → Prop} (hl : h[l]? = some (.loop r)) (hrdy : r.state = .ready) (hpn : r.pending = none)
    (hfit : Fits n f { tmps, defers := [] }) (hok1 : codeOkR n r.assign = true) (hok2 : codeOkR n r.body = true)
    (hh : hcodeR P r.assign (fun e f1 h1 => e = .normal ∧ h1[l]? = some (.loop r) ∧ hcodeR P r.body (fun e f2 h2 => e = .normal ∧ h2[l]? = some (.loop { r with state := .busy }) ∧ K (.bool true) (h2.setIfInBounds l (.loop r))) f1 (h1.setIfInBounds l (.loop { r with state := .busy }))) f h) : HRound P l fn tmps r.assign r.body h K := by
  intro E w ha k
  refine roundIn_of_wpIn (F := Fw none) trivial ?_
  have hF : (Fw none).inRound l = Fw (some l) := rfl
  rw [hF]
  refine wpIn_mono (hcodeR_sound (P := P) (ro := some l) (k := k) (ds := []) (E := E) (n := n) r.assign hok1 hh ⟨hfit, rfl⟩ ha) ?_
  rintro e a1 w1 ⟨f1, h1, hf1, ha1, rfl, hl1, hb⟩
  obtain ⟨w2, hrun, ha2⟩ := run_of_hwp (P := P) (s := Instr.beginRound l) (a := ()) (h' := h1.setIfInBounds l (.loop { r with state := .busy })) (E := E) (w := w1) (by
    unfold Instr.beginRound
    refine hwp_getLoop hl1 (hwp_setLoop hl1 ?_)
    rw [hrdy]
    exact ⟨rfl, rfl⟩) ha1
  refine ⟨w2, hrun, ?_⟩
  refine wpIn_mono (hcodeR_sound (P := P) (ro := some l) (k := k) (ds := []) (E := E) (n := n) r.body hok2 hb hf1 ha2) ?_
  rintro e a3 w3 ⟨f3, h3, hf3, ha3, rfl, hl3, hK⟩
  obtain ⟨w4, hrun4, ha4⟩ := run_of_hwp (P := P) (s := Instr.endRound l none) (a := .bool true) (h' := h3.setIfInBounds l (.loop r)) (E := E) (w := w3) (by
    unfold Instr.endRound
    refine hwp_getLoop hl3 (hwp_setLoop hl3 ?_)
    refine ⟨rfl, ?_⟩
    have : ({ r with state := (if (none : Option Code).isNone = true then LoopState.ready else LoopState.done), pending := none } : Loop) = r := by
      cases r; simp_all
    exact congrArg (fun x => h3.setIfInBounds l (Obj.loop x)) this) ha3
  exact ⟨_, w4, hrun4, _, _, rfl, ha4, hK⟩

/-- the record of a range over a function, as it is laid -/
structure LoopOk (n : Nat) (f : F) (ps : Array Tmp) (assign body : Code) (r : Loop) : Prop where
  ready : r.state = .ready
  none' : r.pending = none
  fits : Fits n f { tmps := r.tmps, defers := [] }
  ps : r.params = ps
  assign : r.assign = assign
  body : r.body = body
/-- 'for .. := range g': what is asked, the body being left at its end each time -/
def hrange (P : Program) (n : Nat) (g : Value) (ps : Array Tmp) (assign body : Code) (Q : F → Heap → Prop) (f : F) (h : Heap) : Prop :=
  ∃ gf la lb, g = .func (.func gf) la lb ∧ hasBody P gf = true ∧ ∀ r, LoopOk n f ps assign body r →
    HCalls P gf (la ++ #[.func (.yield (h.size + 1)) #[] #[]] ++ lb) ((h.push (.deferred (some []))).push (.loop r)) fun _ h2 =>
      ∃ r2, h2[h.size + 1]? = some (.loop r2) ∧ r2.state ≠ .busy ∧ r2.pending = none ∧ Q f (h2.setIfInBounds (h.size + 1) (.loop { r2 with state := .exhausted }))
theorem hrange_sound {P : Program} {n k : Nat} {g : Operand} {ps : Array Tmp} {assign body : Code} {Q : F → Heap → Prop} {f : F} {h : Heap} {a : Act} {w : World} {E : Env}
    (hh : hrange P n (ev f g) ps assign body Q f h) (hf : FitsD [] n f a) (ha : At E h w) :
    (Code.rangeFunc g ps assign body).wpIn (Fw none) k P (liftD [{ target := .collected h.size, args := #[] }] E n (fun e f h => e = .normal ∧ Q f h)) a w := by
  obtain ⟨gf, la, lb, hg, hgb, hcall⟩ := hh
  refine wpIn_rangeFunc fun fn _ => ?_
  let r0 : Loop := { state := .ready, pending := none, fn, tmps := a.tmps, params := ps, assign, body, defers := h.size }
  obtain ⟨w1, hrun, ha1⟩ := run_of_hwp (P := P) (s := Instr.enterLoop fn a.tmps ps assign body (Fw none).round) (a := (h.size + 1, [{ target := .collected h.size, args := #[] }])) (h' := (h.push (.deferred (some []))).push (.loop r0)) (E := E) (w := w) (by
    show _ = _ ∧ _
    refine ⟨?_, rfl⟩
    simp) ha
  have hres : (resolve a.eval (rangeCall g (h.size + 1)) 0).run P w1 = .ok { target := .fn (.func gf) lb, args := la ++ #[.func (.yield (h.size + 1)) #[] #[]] } w1 := by
    unfold resolve
    simp only [rangeCall]
    rw [hf.eval, hg]
    simp [Deferred.ofValue, ev]
  have hinv : (invoke (.fn (.func gf) lb) (la ++ #[.func (.yield (h.size + 1)) #[] #[]])).run P w1 = .ok (.enter gf (la ++ #[.func (.yield (h.size + 1)) #[] #[]] ++ lb)) w1 := by
    show (callFunc gf _).run P w1 = _
    exact run_of_rd' (rd_callFunc hgb _ w1.heap)
  refine ⟨h.size + 1, _, w1, _, w1, gf, _, w1, hrun, hres, fun _ _ => trivial, hinv, fun h => (by cases h), ?_⟩
  refine callsFw ((hcall r0 ⟨rfl, rfl, hf.fits, rfl, rfl, rfl⟩ E w1 ha1).mono ?_)
  rintro e w3 ⟨v, h3, rfl, ha3, r2, hl2, hb2, hp2, hq⟩
  obtain ⟨w4, hrun4, ha4⟩ := run_of_hwp (P := P) (s := Instr.endLoop (h.size + 1)) (a := none) (h' := h3.setIfInBounds (h.size + 1) (.loop { r2 with state := .exhausted })) (E := E) (w := w3) (by
    unfold Instr.endLoop
    refine hwp_getLoop hl2 ?_
    rw [if_neg (by cases hs : r2.state <;> simp_all [BEq.beq])]
    refine hwp_setLoop hl2 ?_
    rw [hp2]
    exact ⟨rfl, rfl⟩) ha3
  refine ⟨none, w4, hrun4, ?_⟩
  exact ⟨f, _, ⟨hf.fits, by rw [show a.defers = [] from hf.defers]; rfl⟩, ha4, rfl, hq⟩

/-- .. its codes by their names -/
theorem hroundC {P : Program} {l : Nat} {r : Loop} {A B : Code} {fn : FuncId} {tmps : Array Value} {n : Nat} {f : F} {h : Heap} {K : Value → Heap → Prop} (hl : h[l]? = some (.loop r)) (hrdy : r.state = .ready) (hpn : r.pending = none) (hA : r.assign = A) (hB : r.body = B)
    (hfit : Fits n f { tmps, defers := [] }) (hok1 : codeOkR n A = true) (hok2 : codeOkR n B = true)
    (hh : hcodeR P A (fun e f1 h1 => e = .normal ∧ h1[l]? = some (.loop r) ∧ hcodeR P B (fun e f2 h2 => e = .normal ∧ h2[l]? = some (.loop { r with state := .busy }) ∧ K (.bool true) (h2.setIfInBounds l (.loop r))) f1 (h1.setIfInBounds l (.loop { r with state := .busy }))) f h) : HRound P l fn tmps r.assign r.body h K := by
  subst hA hB
  exact hround hl hrdy hpn hfit hok1 hok2 hh
/-! a function whose body holds such a range -/
def marks : Option Nat → List Deferred
  | none => []
  | some D => [{ target := .collected D, args := #[] }]
def thenM (K : Option Nat → F → Heap → Prop) (Q : Exit → Option Nat → F → Heap → Prop) : Exit → Option Nat → F → Heap → Prop
  | .normal, m, f, h => K m f h
  | e, m, f, h => Q e m f h
def inBM (id : Nat) (Q : Exit → Option Nat → F → Heap → Prop) : Exit → Option Nat → F → Heap → Prop
  | .exit id', m, f, h => if id' = id then Q .normal m f h else Q (.exit id') m f h
  | e, m, f, h => Q e m f h
noncomputable def hcodeM (P : Program) (n : Nat) (c : Code) : (Exit → Option Nat → F → Heap → Prop) → Option Nat → F → Heap → Prop :=
  Code.rec (motive := fun _ => (Exit → Option Nat → F → Heap → Prop) → Option Nat → F → Heap → Prop)
    (fun Q m f h => Q .normal m f h)
    (fun _ ops draw Q m f h => match draw with | false => hopsR P ops (Q .normal m) ops.toList f h | true => False)
    (fun _ _ A B Q m f h => A (thenM (B Q) Q) m f h)
    (fun c _ _ A B Q m f h => br (ev f c) (A Q m f h) (B Q m f h))
    (fun id _ A Q m f h => A (inBM id Q) m f h)
    (fun _ _ _ _ _ _ => False)
    (fun g ps assign body _ _ Q m f h => m = none ∧ hrange P n (ev f g) ps assign body (fun f h' => Q .normal (some h.size) f h') f h)
    (fun id Q m f h => Q (.exit id) m f h)
    (fun _ _ _ _ _ _ => False)
    (fun _ Q m f h => Q .normal m f h)
    (fun _ _ _ _ _ => False)
    (fun Q m f h => Q .ret m f h)
    (fun _ _ _ _ _ => False)
    c
def codeOkM (n : Nat) : Code → Bool
  | .region _ ops draw => opsOk n ops && !draw
  | .seq a b | .cond _ a b => codeOkM n a && codeOkM n b
  | .block _ c => codeOkM n c
  | _ => true
def liftM (E : Env) (n : Nat) (Q : Exit → Option Nat → F → Heap → Prop) (e : Exit) (a : Act) (w : World) : Prop := ∃ m f h, FitsD (marks m) n f a ∧ At E h w ∧ Q e m f h
theorem hcodeM_sound {P : Program} {k : Nat} {n : Nat} {E : Env} (c : Code) : codeOkM n c = true →
    ∀ {Q m f h a w}, hcodeM P n c Q m f h → FitsD (marks m) n f a → At E h w → c.wpIn (Fw none) k P (liftM E n Q) a w := by
  induction c with
  | skip => intro _ Q m f h a w hh hf ha; exact wpIn_skip ⟨m, f, h, hf, ha, hh⟩
  | region id ops draw =>
    intro hok Q m f h a w hh hf ha
    simp only [codeOkM, Bool.and_eq_true, Bool.not_eq_true'] at hok
    obtain ⟨hops, rfl⟩ := hok
    refine wpIn_mono (wpIn_region_list (hopsR_sound (Q := fun e f h => Q e m f h) hops _ hops hh hf ha)) ?_
    rintro e a' w' ⟨f', h', hf', ha', hq⟩
    exact ⟨m, f', h', hf', ha', hq⟩
  | seq x y ihx ihy =>
    intro hok Q m f h a w hh hf ha
    simp only [codeOkM, Bool.and_eq_true] at hok
    refine wpIn_seq (wpIn_mono (ihx hok.1 hh hf ha) ?_)
    rintro e a' w' ⟨m', f', h', hf', ha', hq⟩
    cases e with
    | normal => exact ihy hok.2 hq hf' ha'
    | _ => exact ⟨m', f', h', hf', ha', hq⟩
  | cond c x y ihx ihy =>
    intro hok Q m f h a w hh hf ha
    simp only [codeOkM, Bool.and_eq_true] at hok
    obtain ⟨t, ht, hh⟩ := hh
    refine wpIn_cond (t := t) (by rw [hf.eval]; exact ht) ?_
    cases t with
    | true => exact ihx hok.1 hh hf ha
    | false => exact ihy hok.2 hh hf ha
  | block id c ih =>
    intro hok Q m f h a w hh hf ha
    refine wpIn_block (wpIn_mono (ih hok hh hf ha) ?_)
    rintro e a' w' ⟨m', f', h', hf', ha', hq⟩
    cases e with
    | exit i =>
      simp only [inBM] at hq
      simp only [Exit.inBlock]
      split at hq
      · rename_i he; rw [if_pos he]; exact ⟨m', f', h', hf', ha', hq⟩
      · rename_i he; rw [if_neg he]; exact ⟨m', f', h', hf', ha', hq⟩
    | _ => exact ⟨m', f', h', hf', ha', hq⟩
  | loop c ih => intro _ Q m f h a w hh; exact hh.elim
  | rangeFunc g ps assign body _ _ =>
    intro hok Q m f h a w hh hf ha
    obtain ⟨rfl, hh⟩ := hh
    refine wpIn_mono (hrange_sound hh hf ha) ?_
    rintro e a' w' ⟨f', h', hf', ha', rfl, hq⟩
    exact ⟨some h.size, f', h', hf', ha', hq⟩
  | exit id => intro _ Q m f h a w hh hf ha; exact wpIn_exit ⟨m, f, h, hf, ha, hh⟩
  | scope => intro _ Q m f h a w hh; exact hh.elim
  | label l => intro _ Q m f h a w hh hf ha; exact wpIn_label ⟨m, f, h, hf, ha, hh⟩
  | goto l => intro _ Q m f h a w hh; exact hh.elim
  | ret => intro _ Q m f h a w hh hf ha; exact wpIn_ret ⟨m, f, h, hf, ha, hh⟩
  | refuse => intro _ Q m f h a w hh; exact hh.elim
/-- at the end: the mark is taken -/
def postM (rs : List ResultVar) (R : Value → Heap → Prop) : Exit → Option Nat → F → Heap → Prop
  | .normal, some D, f, h | .ret, some D, f, h => h[D]? = some (.deferred (some [])) ∧ fin R f (h.setIfInBounds D (.deferred none)) rs
  | _, _, _, _ => False
theorem hcallsM {P : Program} {g : FuncId} {fn : Func} {args : Array Value} {h : Heap} {R : Value → Heap → Prop} {top : (Exit → Option Nat → F → Heap → Prop) → Option Nat → F → Heap → Prop} {rs : List ResultVar}
    (hf : P.funcs[g]? = some fn) (hc : top = hcodeM P fn.ntmps (fn.body.getD .skip)) (hb : fn.body.isSome = true) (hn : Nat.ble args.size fn.ntmps = true) (hok : codeOkM fn.ntmps (fn.body.getD .skip) = true) (hrs : fn.results.toList = rs) (hr : resOk P rs = true)
    (hh : top (postM rs R) none (frame0 args) h) : HCalls P g args h R := by
  subst hc; subst hrs
  intro E w ha
  obtain ⟨c, hb⟩ : ∃ c, fn.body = some c := by cases hbb : fn.body with | none => rw [hbb] at hb; simp at hb | some c => exact ⟨c, rfl⟩
  rw [hb] at hh hok
  refine (callsIn_wide (n := 0)).1 (callsIn_of_wp_marks hf hb trivial ?_)
  have hfit : Fits fn.ntmps (frame0 args) { tmps := args ++ Array.replicate (fn.ntmps - args.size) undef, defers := [] } := by
    refine ⟨?_, ?_, rfl⟩
    · have := Nat.le_of_ble_eq_true hn; simp; omega
    · intro i
      simp only [frame0]
      by_cases hi : i < args.size
      · simp [Array.getD, hi]; intro h; omega
      · simp only [Array.getD, hi, dite_false]
        split
        · rename_i hlt
          simp [Array.getElem_append, hi]
        · rfl
  refine wpIn_mono (hcodeM_sound (P := P) (k := 0) (E := E) (n := fn.ntmps) c hok hh ⟨hfit, rfl⟩ ha) ?_
  rintro e a w' ⟨m, f, h', hf', ha', hq⟩
  have hfin : ∀ D, m = some D → h'[D]? = some (.deferred (some [])) ∧ fin R f (h'.setIfInBounds D (.deferred none)) fn.results.toList → LeavesInM (Fw none) 0 P fn a.tmps (fun e w' => ∃ v h', e = .returned v ∧ At E h' w' ∧ R v h') a.defers .returning w' := by
    rintro D rfl ⟨hD, l, hl, hR⟩
    rw [hf'.defers]
    obtain ⟨w2, hrun, ha2⟩ := run_of_hwp (P := P) (s := Instr.takeDeferred D) (a := []) (h' := h'.setIfInBounds D (.deferred none)) (E := E) (w := w') (by
      unfold Instr.takeDeferred
      exact ⟨_, hD, fun _ _ _ hh => (by cases hh), ⟨_, hD, fun _ _ _ hh => (by cases hh)⟩, rfl, rfl⟩) ha'
    refine ⟨by simp, .inl ⟨D, w2, rfl, hrun, ?_⟩⟩
    obtain ⟨h1, h2, h3, h4⟩ := ha2
    rw [← h1] at hl hR
    exact ⟨_, run_of_rd' (results_rd hf'.fits hr hl), _, w2.heap, rfl, ⟨rfl, h2, h3, h4⟩, hR⟩
  cases e with
  | normal => cases m with
    | none => exact hq.elim
    | some D => exact hfin D rfl hq
  | ret => cases m with
    | none => exact hq.elim
    | some D => exact hfin D rfl hq
  | _ => cases m <;> exact hq.elim
/-- the two codes of the one range over a function -/
def rfAB : Code → Code × Code
  | .rangeFunc _ _ a b => (a, b)
  | .seq a b => match rfAB a with
    | (.skip, .skip) => rfAB b
    | p => p
  | .block _ c => rfAB c
  | _ => (.skip, .skip)
end Go.Hv
namespace Go.Hv
/-- clear, of the end of a row -/
theorem run_clearTail {P : Program} {t e bytes : Nat} {z : Value} (E : Elem P t e 1 bytes z) (hz : oneC z = true) {ty : TypeId} {cs : List Bool} {b o n c cap : Nat} {xs : List Value} {h : Heap} (r : Row h b e cap xs) (ho : o ≤ xs.length) (hn : o + n ≤ cap) {K : Value → Heap → Prop}
    (hk : ∀ h', h'.size = h.size → (∀ d, d ≠ b → h'[d]? = h[d]?) → Row h' b e cap (xs.take o) → K (.tuple #[]) h') :
    run P (.builtin .clear #[t] ty cs [.slice (some ⟨b, o, none⟩) n c]) K h := by
  obtain ⟨arr, hb, hs, hx⟩ := r
  show hwp P (S.builtin .clear #[t] ty cs [.slice (some ⟨b, o, none⟩) n c]) _ _ h
  have hcz : z.cells = #[z] := by cases z <;> first | rfl | simp [oneC] at hz
  have main : hwp P (Builtin.clear_ #[t] ty #[.slice (some ⟨b, o, none⟩) n c]) (fun v h' => K v h') bad h := by
    unfold Builtin.clear_
    simp only [List.getElem?_toArray, List.getElem?_cons_zero]
    show hwp P (bind (underlying t) _) _ _ h
    rw [propext (hwp_bind' _ _ _ _ _ _), propext (hwp_rd_iff (rd_underlying E.under h) _ _)]
    cases n with
    | zero =>
      exact hk h rfl (fun _ _ => rfl) ⟨arr, hb, hs, by rw [List.length_take, Nat.min_eq_left ho, ← hx, List.take_take, Nat.min_eq_left ho]⟩
    | succ n =>
      show hwp P (bind (zeroValue e) fun z' => bind (storeCells ⟨b, o, none⟩ (Builtin.zeroCells z'.cells (n + 1)).toList) fun _ => pure (Value.tuple #[])) _ _ h
      rw [propext (hwp_bind' _ _ _ _ _ _), propext (hwp_rd_iff (rd_zero E.zero h) _ _), propext (hwp_bind' _ _ _ _ _ _)]
      have hzc : (Builtin.zeroCells z.cells (n + 1)).toList = List.replicate (n + 1) z := by
        rw [hcz]
        unfold Builtin.zeroCells
        apply List.ext_getElem
        · simp
        · intro i h1 h2; simp [Nat.mod_one]
      refine hwp_storeCells _ o 0 h arr hb (by rw [hzc]; simp; omega) (fun y hy => by rw [hzc] at hy; rw [List.eq_of_mem_replicate hy]; exact hz) fun h' arr' h1 h2 h3 h4 h5 => ?_
      refine hk h' h1 h2 ⟨arr', h3, by omega, ?_⟩
      rw [h5, List.length_take, Nat.min_eq_left ho, Nat.add_zero, List.append_assoc, List.take_append_of_le_length (by simp; omega), List.take_take, Nat.min_self, ← hx, List.take_take, Nat.min_eq_left ho]
  show hwp P (Sem.bind _ _) _ _ h
  rw [propext (hwp_bind _ _ _ _ _ _)]
  exact main
end Go.Hv
namespace Go.Hv
section
variable {α : Type} [DecidableEq α]
theorem filter_modify_out {f : MapEntry → MapEntry} (hf : ∀ e, (f e).born = e.born) {q : Nat → Bool} : ∀ (l : List MapEntry) (i : Nat), (∀ e, l[i]? = some e → q e.born = false) → (l.modify i f).filter (fun e => q e.born) = l.filter fun e => q e.born
  | [], i, _ => by cases i <;> rfl
  | e :: l, 0, h => by
    have := h e rfl
    simp [hf, this]
  | e :: l, i + 1, h => by
    have ih := filter_modify_out hf (q := q) l i (fun e' he => h e' (by simpa using he))
    show List.filter (fun e => q e.born) (e :: l.modify i f) = _
    rw [List.filter_cons, List.filter_cons, ih]
/-- a key whose entry has come already may get another value -/
theorem ItR.update {P : Program} {kt : TypeId} {enc : α → Value} (E : KeyEnc P kt enc) {h h' : Heap} {r b : Nat} {es todo : List (α × Value)} {arr arr' : Array MapEntry} {clk clk' : Nat} {k : α} {v : Value}
    (m : MapAt h b enc es arr clk) (it : ItAt h r b enc todo arr clk) (hb : ∀ e ∈ arr.toList, e.born < clk) (hsc : ∃ since seen stepped, h[r]? = some (.mapIter (some b) since seen stepped) ∧ since ≤ clk)
    (m' : MapAt h' b enc (aset es k v) arr' clk') (hclk : clk' = clk) {i : Nat} (ha : arr' = arr.modify i (fun e => { e with key := enc k, val := v })) (hi : (arr[i]?).map (·.key) = some (enc k)) (hr : h'[r]? = h[r]?) (hk : k ∉ todo.map (·.1)) : ItR h' r b enc (aset es k v) todo := by
  subst hclk ha
  obtain ⟨since, seen, stepped, h1, h2, h3, h4⟩ := it.it
  have hinj : ∀ x y, enc x = enc y → x = y := by
    intro x y hxy
    obtain ⟨d, _, hs⟩ := E.same
    have e1 := hs x y
    rw [hxy, hs y y] at e1
    simp at e1
    exact e1.symm ▸ rfl
  have hborn : ∀ e : MapEntry, e ∈ (arr.modify i (fun e => { e with key := enc k, val := v })).toList → ∃ e' ∈ arr.toList, e'.born = e.born := by
    intro e he
    rw [Array.toList_modify] at he
    obtain ⟨j, hj, rfl⟩ := List.mem_iff_getElem.1 he
    simp only [List.getElem_modify]
    simp only [List.length_modify] at hj
    refine ⟨arr.toList[j], List.getElem_mem _, ?_⟩
    split <;> rfl
  have hkv : kvs ((arr.modify i (fun e => { e with key := enc k, val := v })).toList.filter fun e => !seen.contains e.born) = todo.map fun p => (enc p.1, p.2) := by
    rw [Array.toList_modify, filter_modify_out (f := fun e => { e with key := enc k, val := v }) (fun _ => rfl) (q := fun n => !seen.contains n)]
    · exact h4
    · intro e he
      rw [Array.getElem?_toList] at he
      rw [he] at hi
      simp only [Option.map_some, Option.some.injEq] at hi
      refine Classical.byContradiction fun hne => hk ?_
      have hun : (!seen.contains e.born) = true := by simpa using hne
      have hm : e ∈ arr.toList.filter fun e => !seen.contains e.born := List.mem_filter.2 ⟨Array.mem_toList_iff.2 (Array.mem_of_getElem? he), hun⟩
      have hm2 : (e.key, e.val) ∈ kvs (arr.toList.filter fun e => !seen.contains e.born) := List.mem_map.2 ⟨e, hm, rfl⟩
      rw [h4] at hm2
      obtain ⟨p, hp, hpe⟩ := List.mem_map.1 hm2
      simp only [Prod.mk.injEq] at hpe
      have : p.1 = k := hinj _ _ (hpe.1.trans hi)
      exact List.mem_map.2 ⟨p, hp, this⟩
  refine ⟨_, _, m', ⟨since, seen, stepped, hr.trans h1, fun e he => ?_, h3, hkv⟩, fun e he => ?_, ?_⟩
  · obtain ⟨e', he', hbe⟩ := hborn e he
    rw [← hbe]; exact h2 e' he'
  · obtain ⟨e', he', hbe⟩ := hborn e he
    rw [← hbe]; exact hb e' he'
  · obtain ⟨s, se, st, q1, q2⟩ := hsc
    exact ⟨s, se, st, hr.trans q1, q2⟩
end
end Go.Hv
namespace Go.Hv
/-- a struct is stored -/
theorem run_storeS {P : Program} {t : TypeId} {n : Nat} (ht : aggs P t = some n) {b o e : Nat} {arr : Array Value} {l : List Value} {h : Heap} (hb : h[b]? = some (.cells arr e (0, 0))) (hl : l.length = n) (ho : o + n ≤ arr.size) (hone : ∀ y ∈ l, oneC y = true) {K : Value → Heap → Prop}
    (hk : ∀ h' (arr' : Array Value), h'.size = h.size → (∀ c, c ≠ b → h'[c]? = h[c]?) → h'[b]? = some (.cells arr' e (0, 0)) → arr'.size = arr.size → arr'.toList = arr.toList.take o ++ l ++ arr.toList.drop (o + n) → K undef h') :
    run P (.store t (.pointer (some ⟨b, o, none⟩)) (.agg l.toArray)) K h := by
  obtain ⟨_, h2⟩ := aggs_agg ht h
  show hwp P (S.eff (Instr.storeAt t (.pointer (some ⟨b, o, none⟩)) (.agg l.toArray))) _ _ h
  show hwp P (Sem.bind (storeVar t ⟨b, o, none⟩ (.agg l.toArray)) _) _ _ h
  rw [propext (hwp_bind _ _ _ _ _ _)]
  unfold storeVar
  show hwp P (Sem.bind (sizeOf t) _) _ _ h
  rw [propext (hwp_bind _ _ _ _ _ _), propext (hwp_rd_iff h2 _ _)]
  rw [if_neg (by show ¬ (l.toArray.size ≠ n); simp [hl])]
  refine hwp_storeCells l o 0 h arr hb (by omega) hone fun h' arr' h1 h2 h3 h4 h5 => hk h' arr' h1 h2 h3 h4 ?_
  rw [h5, Nat.add_zero, hl]
end Go.Hv
namespace Go.Hv
/-! ### rows that begin in a block's midst: cells of one -/
def RowO (h : Heap) (b e o cap : Nat) (xs : List Value) : Prop := ∃ arr : Array Value, h[b]? = some (.cells arr e (0, 0)) ∧ o + cap ≤ arr.size ∧ (arr.toList.drop o).take xs.length = xs
theorem RowO.lt {h : Heap} {b e o cap : Nat} {xs : List Value} (r : RowO h b e o cap xs) : b < h.size := let ⟨_, hb, _⟩ := r; lt_of_get hb
theorem RowO.keep {h h' : Heap} {b e o cap : Nat} {xs : List Value} (r : RowO h b e o cap xs) (hk : h'[b]? = h[b]?) : RowO h' b e o cap xs := let ⟨arr, hb, r'⟩ := r; ⟨arr, hk.trans hb, r'⟩
theorem RowO.cell {h : Heap} {b e o cap : Nat} {xs : List Value} (r : RowO h b e o cap xs) {i : Nat} {x : Value} (hx : xs[i]? = some x) : cell h ⟨b, o + i, none⟩ = some x := by
  obtain ⟨arr, hb, hc, ht⟩ := r
  have hi : i < xs.length := (List.getElem?_eq_some_iff.1 hx).1
  have : arr[o + i]? = some x := by
    rw [← hx, ← ht, List.getElem?_take_of_lt hi, List.getElem?_drop, Array.getElem?_toList]
  unfold Hv.cell
  simp [hb, this]
def OwnO (h : Heap) (v : Value) (e : TypeId) (xs : List Value) : Prop :=
  (v = .slice none 0 0 ∧ xs = []) ∨ ∃ b o cap, v = .slice (some ⟨b, o, none⟩) xs.length cap ∧ RowO h b e o cap xs ∧ xs.length ≤ cap
theorem OwnO.keep {h h' : Heap} {v : Value} {e : TypeId} {xs : List Value} (o : OwnO h v e xs) (hk : ∀ b, blkOf v = some b → h'[b]? = h[b]?) : OwnO h' v e xs := by
  rcases o with h0 | ⟨b, o, cap, rfl, r, h2⟩
  · exact .inl h0
  · exact .inr ⟨b, o, cap, rfl, r.keep (hk b rfl), h2⟩
theorem OwnO.lt {h : Heap} {v : Value} {e : TypeId} {xs : List Value} (o : OwnO h v e xs) {b : Nat} (hb : blkOf v = some b) : b < h.size := by
  rcases o with ⟨rfl, _⟩ | ⟨b', o, cap, rfl, r, _⟩
  · cases hb
  · cases hb; exact r.lt
theorem OwnO.sl {h : Heap} {v : Value} {e : TypeId} {xs : List Value} (o : OwnO h v e xs) : Sl h v xs := by
  rcases o with ⟨rfl, rfl⟩ | ⟨b, o, cap, rfl, r, h2⟩
  · exact Sl.nil h
  · refine ⟨_, cap, rfl, h2, fun a ha => by cases ha; rfl, fun i x hx => ⟨_, rfl, ?_⟩⟩
    rw [Addr.add_add0]; exact r.cell hx
theorem Own.o {h : Heap} {v : Value} {e : TypeId} {xs : List Value} (o : Own h v e xs) : OwnO h v e xs := by
  rcases o with h0 | ⟨b, cap, rfl, r⟩
  · exact .inl h0
  · obtain ⟨arr, hb, hc, ht⟩ := r
    refine .inr ⟨b, 0, cap, rfl, ⟨arr, hb, by omega, by simpa using ht⟩, ?_⟩
    have := congrArg List.length ht
    rw [List.length_take] at this
    simp at this; omega
theorem OwnO.one {h : Heap} {v : Value} {e : TypeId} {xs : List Value} (o : OwnO h v e xs) : oneC v = true := by
  rcases o with ⟨rfl, _⟩ | ⟨_, _, _, rfl, _⟩ <;> rfl
/-- s[1:] -/
theorem OwnO.tail {P : Program} {t : TypeId} (ht : eSz P t = some 1) {h : Heap} {v x : Value} {e : TypeId} {xs : List Value} (o : OwnO h v e (x :: xs)) {k : IntKind} :
    ∃ w, (∀ K h', run P (.slice t v (some (.int k 1)) none none) K h' = K w h') ∧ OwnO h w e xs ∧ ∀ c, blkOf w = some c → blkOf v = some c := by
  rcases o with ⟨_, h0⟩ | ⟨b, o, cap, rfl, ⟨arr, hb, hc, htk⟩, h2⟩
  · cases h0
  · refine ⟨_, fun K h' => (ans_slice (P := P) ht (ao := some ⟨b, o, none⟩) (n := (x :: xs).length) (c := cap) (lo := some (.int k 1)) (hi := none) (l := 1) (m := (x :: xs).length) (.inr ⟨k, rfl⟩) (.inl ⟨rfl, rfl⟩) (by simp) h2 (h := h')).run K, ?_, ?_⟩
    · simp only [List.length_cons] at h2
      by_cases h1 : cap = 1
      · subst h1
        have : xs = [] := List.eq_nil_of_length_eq_zero (by omega)
        subst this
        refine .inr ⟨b, o, 0, by simp, ⟨arr, hb, by omega, by simp⟩, by simp⟩
      · rw [if_neg h1]
        refine .inr ⟨b, o + 1, cap - 1, by simp [Addr.add_add0], ⟨arr, hb, by omega, ?_⟩, by omega⟩
        rw [List.length_cons] at htk
        have h3 : (arr.toList.drop o).drop 1 = arr.toList.drop (o + 1) := by rw [List.drop_drop]
        rw [← h3]
        have h4 : ((arr.toList.drop o).take (xs.length + 1)).drop 1 = xs := by rw [htk]; rfl
        rw [List.drop_take] at h4
        simpa using h4
    · intro c hc'
      have hblk : ∀ (a : Addr) i, (a.add i).block = a.block := fun a i => by unfold Addr.add; split <;> rfl
      split at hc' <;> simpa [blkOf, hblk] using hc'
/-- append, in a row's midst too -/
theorem run_appendO {P : Program} {t e bytes : Nat} {z : Value} (E : Elem P t e 1 bytes z) {ty : TypeId} {cs : List Bool} {v w : Value} {xs ys : List Value} {h : Heap}
    (ho : OwnO h v e xs) (hs : Sl h w ys) (hone : ∀ y ∈ ys, oneC y = true) (hb : (xs.length + ys.length) * bytes ≤ 140737488355328) (hl : xs.length + ys.length ≤ 9223372036854775807) {K : Value → Heap → Prop}
    (hk : ∀ v' h', OwnO h' v' e (xs ++ ys) → Chg (fun b => blkOf v = some b) h h' → (∀ b, blkOf v' = some b → blkOf v = some b ∨ h.size ≤ b) → K v' h') :
    run P (.builtin .append #[t, t] ty cs [v, w]) K h := by
  have hs0 := hs
  obtain ⟨ao, c, rfl, hc, _, hx⟩ := hs
  obtain ⟨base, cap, rfl, hbase⟩ : ∃ base cap, v = .slice base xs.length cap ∧ ((base = none ∧ cap = 0 ∧ xs = []) ∨ ∃ b o, base = some ⟨b, o, none⟩ ∧ RowO h b e o cap xs ∧ xs.length ≤ cap) := by
    rcases ho with ⟨rfl, rfl⟩ | ⟨b, o, cap, rfl, r, h2⟩
    · exact ⟨none, 0, rfl, .inl ⟨rfl, rfl, rfl⟩⟩
    · exact ⟨_, cap, rfl, .inr ⟨b, o, rfl, r, h2⟩⟩
  have hnew : rd P (Builtin.firstCells 1 ys.length (.slice ao ys.length c)) h = some ys.toArray := by
    cases ao with
    | none =>
      have : ys = [] := by
        cases ys with
        | nil => rfl
        | cons y ys => obtain ⟨a, ha, _⟩ := hx 0 y (by simp); cases ha
      subst this; rfl
    | some a =>
      show rd P (loadCellsFrom a 0 (ys.length * 1) #[]) h = _
      rw [Nat.mul_one, rd_loadCells (P := P) ys.length 0 #[] ys (cellsAt_of ys 0 (fun j x hjx => by obtain ⟨a', ha', hca⟩ := hx j x hjx; cases ha'; simpa using hca))]
      simp
  have hold : rd P (Builtin.firstCells 1 xs.length (.slice base xs.length cap)) h = some xs.toArray := by
    rcases hbase with ⟨rfl, rfl, rfl⟩ | ⟨b, o, rfl, r, h2⟩
    · rfl
    · show rd P (loadCellsFrom _ 0 (xs.length * 1) #[]) h = _
      rw [Nat.mul_one, rd_loadCells (P := P) xs.length 0 #[] xs (cellsAt_of xs 0 (fun j x hjx => by rw [Addr.add_add0]; simpa using r.cell hjx))]
      simp
  obtain ⟨i, hi, hib⟩ := E.inf
  show hwp P (S.val (Builtin.append_ #[t, t] ty [Value.slice base xs.length cap, Value.slice ao ys.length c].toArray)) _ _ h
  show hwp P (Sem.bind _ _) _ _ h
  rw [propext (hwp_bind _ _ _ _ _ _)]
  unfold Builtin.append_
  simp only [List.getElem?_toArray, List.getElem?_cons_zero, List.getElem?_cons_succ]
  rw [propext (hwp_bind' _ _ _ _ _ _), propext (hwp_rd_iff (rd_underlying E.under h) _ _)]
  try dsimp only
  rw [propext (hwp_bind' _ _ _ _ _ _), propext (hwp_rd_iff (rd_sizeOf E.size h) _ _)]
  try dsimp only
  rw [propext (hwp_bind' _ _ _ _ _ _)]
  rw [propext (hwp_rd_iff (rd_underlying E.under h) _ _)]
  try dsimp only
  rw [propext (hwp_bind' _ _ _ _ _ _), propext (hwp_pure _ _ _ _ _)]
  try dsimp only
  simp only [Bool.false_eq_true, if_false]
  rw [propext (hwp_bind' _ _ _ _ _ _)]
  rw [propext (hwp_rd_iff (show rd P (Builtin.lenOf (.slice ao ys.length c)) h = some ys.length from rfl) _ _)]
  simp only [Bool.not_false, if_true]
  by_cases hfit : xs.length + ys.length ≤ cap
  · rw [if_pos hfit]
    rw [propext (hwp_bind' _ _ _ _ _ _), propext (hwp_rd_iff hnew _ _)]
    rcases hbase with ⟨rfl, rfl, rfl⟩ | ⟨b, o, rfl, r, h2⟩
    · have : ys = [] := List.eq_nil_of_length_eq_zero (by simpa using hfit)
      subst this
      exact hk _ _ (.inl ⟨rfl, rfl⟩) (Chg.refl _ _) (fun b hb => by cases hb)
    · try dsimp only
      rw [propext (hwp_bind' _ _ _ _ _ _)]
      rw [Addr.add_add0]
      obtain ⟨arr, hbk, hsz, htk⟩ := r
      refine hwp_storeCells (e := e) ys _ 0 h arr hbk ?_ hone ?_
      · omega
      · intro h' arr' e1 e2 e3 e4 e5
        refine hk _ _ (.inr ⟨b, o, cap, by simp, ⟨arr', e3, by omega, ?_⟩, by simp; omega⟩) ⟨by omega, fun c _ hc => e2 c (fun hcb => hc (by rw [hcb]; rfl))⟩ (fun b' hb' => .inl (by simpa [blkOf] using hb'))
        rw [e5]
        have hlen : o + xs.length + ys.length ≤ arr.toList.length := by simp; omega
        rw [Nat.mul_one, Nat.add_zero]
        have h1 : arr.toList.take (o + xs.length) = arr.toList.take o ++ xs := by
          rw [List.take_add, htk]
        rw [h1, List.append_assoc, List.append_assoc]
        rw [List.drop_append_of_le_length (by simp; omega), List.drop_eq_nil_of_le (by simp; omega), List.nil_append, ← List.append_assoc]
        rw [List.take_append_of_le_length (by simp), List.take_of_length_le (by simp)]
  · rw [if_neg hfit]
    have hneed : ¬ (((xs.length + ys.length : Nat) : Int) > IntKind.i64.max ∧ (False ∨ True)) := by
      intro hh; have := hh.1; simp [IntKind.max, IntKind.signed, IntKind.bits] at this; omega
    have hbig : ¬ (Builtin.nextslicecap (xs.length + ys.length) cap * bytes > 2 ^ 48) := by
      have h1 := nextcap_le (need := xs.length + ys.length) (cap := cap) (by omega)
      have h2 : Builtin.nextslicecap (xs.length + ys.length) cap * bytes ≤ 2 * (xs.length + ys.length) * bytes := Nat.mul_le_mul_right _ h1
      have h3 : 2 * (xs.length + ys.length) * bytes = 2 * ((xs.length + ys.length) * bytes) := by rw [Nat.mul_assoc]
      omega
    rw [propext (hwp_bind' _ _ _ _ _ _), propext (hwp_rd_iff (rd_typeInfo hi h) _ _), hib]
    try dsimp only
    rw [if_neg (by rintro ⟨hh, _⟩; exact hneed ⟨hh, .inr trivial⟩)]
    rw [propext (hwp_bind' _ _ _ _ _ _), propext (hwp_rd_iff (rd_typeInfo hi h) _ _), hib]
    try dsimp only
    rw [if_neg hbig]
    rw [propext (hwp_bind' _ _ _ _ _ _)]
    have hforce : (Question.appendCap (xs.length + ys.length) cap e).forced = false := rfl
    show if (Question.appendCap (xs.length + ys.length) cap e).forced then _ else _
    rw [hforce]
    simp only [Bool.false_eq_true, if_false]
    intro tt
    show hwp P (bind _ _) _ _ h
    rw [propext (hwp_bind' _ _ _ _ _ _), propext (hwp_rd_iff (rd_typeInfo hi h) _ _), hib]
    try dsimp only
    rw [propext (hwp_bind' _ _ _ _ _ _)]
    have hroom : ∀ k, rd P (askRoom k) h = some () := by
      intro k; unfold askRoom; split <;> rfl
    rw [propext (hwp_rd_iff (hroom _) _ _)]
    rw [propext (hwp_bind' _ _ _ _ _ _), propext (hwp_rd_iff hold _ _)]
    rw [propext (hwp_bind' _ _ _ _ _ _)]
    try dsimp only
    rw [propext (hwp_rd_iff hnew _ _)]
    rw [propext (hwp_bind' _ _ _ _ _ _), propext (hwp_rd_iff (rd_zero E.zero h) _ _)]
    show K (.slice (some ⟨h.size, 0, none⟩) (xs.length + ys.length) ((Question.appendCap (xs.length + ys.length) cap e).cut tt)) (h.push (.cells (xs.toArray ++ ys.toArray ++ Builtin.zeroCells z.cells ((Question.appendCap (xs.length + ys.length) cap e).cut tt - (xs.length + ys.length))) e))
    have hcap : xs.length + ys.length ≤ (Question.appendCap (xs.length + ys.length) cap e).cut tt := by
      show xs.length + ys.length ≤ (xs.length + ys.length) + tt % (2 ^ 63 - (xs.length + ys.length)); omega
    generalize (Question.appendCap (xs.length + ys.length) cap e).cut tt = nc at hcap ⊢
    refine hk _ _ (.inr ⟨h.size, 0, nc, by simp, ⟨_, get_push_new _ _, ?_, ?_⟩, by simpa using hcap⟩) (chg_push _ _ _) (fun b hb => .inr ?_)
    · simp only [Array.size_append, List.size_toArray, Builtin.zeroCells, Array.size_map, Array.size_range, E.cells]
      omega
    · simp only [Array.toList_append, List.drop_zero]
      rw [List.take_append_of_le_length (by simp), List.take_of_length_le (by simp)]
    · have : h.size = b := by simpa [blkOf] using hb
      omega
/-- append(s, make(..)..), where there is no room: a new row, zeros at its end -/
theorem run_appendZ {P : Program} {t e bytes : Nat} {z : Value} (E : Elem P t e 1 bytes z) {it : TypeId} {k : IntKind} (hit : P.underlying it = some (.int k)) {ty : TypeId} {cs : List Bool} {xs : List Value} {b o cap m : Nat} {h : Heap}
    (r : RowO h b e o cap xs) (hcap : xs.length ≤ cap) (hno : cap < xs.length + m) (hb : (xs.length + m) * bytes ≤ 140737488355328) (hl : xs.length + m ≤ 9223372036854775807) {K : Value → Heap → Prop}
    (hk : ∀ nc (arr : Array Value), xs.length + m ≤ nc → arr.size = nc → arr.toList.take xs.length = xs → K (.slice (some ⟨h.size, 0, none⟩) (xs.length + m) nc) (h.push (.cells arr e))) :
    run P (.builtin .append #[t, it] ty cs [.slice (some ⟨b, o, none⟩) xs.length cap, .int .i64 (m : Int)]) K h := by
  have hold : rd P (Builtin.firstCells 1 xs.length (.slice (some ⟨b, o, none⟩) xs.length cap)) h = some xs.toArray := by
    show rd P (loadCellsFrom _ 0 (xs.length * 1) #[]) h = _
    rw [Nat.mul_one, rd_loadCells (P := P) xs.length 0 #[] xs (cellsAt_of xs 0 (fun j x hjx => by rw [Addr.add_add0]; simpa using r.cell hjx))]
    simp
  obtain ⟨i, hi, hib⟩ := E.inf
  show hwp P (S.val (Builtin.append_ #[t, it] ty [Value.slice (some ⟨b, o, none⟩) xs.length cap, .int .i64 (m : Int)].toArray)) _ _ h
  show hwp P (Sem.bind _ _) _ _ h
  rw [propext (hwp_bind _ _ _ _ _ _)]
  unfold Builtin.append_
  simp only [List.getElem?_toArray, List.getElem?_cons_zero, List.getElem?_cons_succ]
  rw [propext (hwp_bind' _ _ _ _ _ _), propext (hwp_rd_iff (rd_underlying E.under h) _ _)]
  try dsimp only
  rw [propext (hwp_bind' _ _ _ _ _ _), propext (hwp_rd_iff (rd_sizeOf E.size h) _ _)]
  try dsimp only
  rw [propext (hwp_bind' _ _ _ _ _ _)]
  rw [propext (hwp_rd_iff (rd_underlying hit h) _ _)]
  try dsimp only
  rw [propext (hwp_bind' _ _ _ _ _ _), propext (hwp_pure _ _ _ _ _)]
  try dsimp only
  simp only [if_true]
  have hwr : IntKind.i64.wrap (m : Int) = (m : Int) := by
    simp only [IntKind.wrap]
    simp [IntKind.signed, IntKind.bits]
    omega
  have hbig0 : ¬ ((m : Int) * (bytes : Int) > 2 ^ 48) := by
    have h1 : m * bytes ≤ (xs.length + m) * bytes := Nat.mul_le_mul_right _ (by omega)
    have h2 : ((m * bytes : Nat) : Int) = (m : Int) * (bytes : Int) := Int.natCast_mul _ _
    rw [← h2]
    have h3 : ((m * bytes : Nat) : Int) ≤ 140737488355328 := Int.ofNat_le.2 (Nat.le_trans h1 hb)
    intro h4
    have h5 : (2 : Int) ^ 48 = 281474976710656 := by decide
    omega
  rw [propext (hwp_bind' _ _ _ _ _ _), propext (hwp_rd_iff (show rd P (asInt (Value.int IntKind.i64 (m : Int))) h = some (m : Int) from rfl) _ _)]
  try dsimp only
  rw [hwr, if_neg (show ¬ ((m : Int) < 0) by omega)]
  rw [propext (hwp_bind' _ _ _ _ _ _), propext (hwp_rd_iff (rd_typeInfo hi h) _ _), hib]
  try dsimp only
  rw [if_neg hbig0]
  rw [propext (hwp_bind' _ _ _ _ _ _), propext (hwp_pure _ _ _ _ _)]
  try dsimp only
  simp only [Int.toNat_natCast]
  rw [if_neg (show ¬ (xs.length + m ≤ cap) by omega)]
  rw [propext (hwp_bind' _ _ _ _ _ _), propext (hwp_rd_iff (rd_typeInfo hi h) _ _), hib]
  try dsimp only
  have hneed : ¬ (((xs.length + m : Nat) : Int) > IntKind.i64.max ∧ (True ∨ bytes = 0)) := by
    intro hh; have := hh.1; simp [IntKind.max, IntKind.signed, IntKind.bits] at this; omega
  have hbig : ¬ (Builtin.nextslicecap (xs.length + m) cap * bytes > 2 ^ 48) := by
    have h1 := nextcap_le (need := xs.length + m) (cap := cap) (by omega)
    have h2 : Builtin.nextslicecap (xs.length + m) cap * bytes ≤ 2 * (xs.length + m) * bytes := Nat.mul_le_mul_right _ h1
    have h3 : 2 * (xs.length + m) * bytes = 2 * ((xs.length + m) * bytes) := by rw [Nat.mul_assoc]
    omega
  rw [if_neg hneed]
  rw [propext (hwp_bind' _ _ _ _ _ _), propext (hwp_rd_iff (rd_typeInfo hi h) _ _), hib]
  try dsimp only
  rw [if_neg hbig]
  rw [propext (hwp_bind' _ _ _ _ _ _)]
  have hforce : (Question.appendCap (xs.length + m) cap e).forced = false := rfl
  show if (Question.appendCap (xs.length + m) cap e).forced then _ else _
  rw [hforce]
  simp only [Bool.false_eq_true, if_false]
  intro tt
  show hwp P (bind _ _) _ _ h
  rw [propext (hwp_bind' _ _ _ _ _ _), propext (hwp_rd_iff (rd_typeInfo hi h) _ _), hib]
  try dsimp only
  rw [propext (hwp_bind' _ _ _ _ _ _)]
  have hroom : ∀ k, rd P (askRoom k) h = some () := by
    intro k; unfold askRoom; split <;> rfl
  rw [propext (hwp_rd_iff (hroom _) _ _)]
  rw [propext (hwp_bind' _ _ _ _ _ _), propext (hwp_rd_iff hold _ _)]
  rw [propext (hwp_bind' _ _ _ _ _ _)]
  try dsimp only
  simp only [Bool.not_true, Bool.false_eq_true, if_false]
  rw [if_neg (show ¬ (m * 1 = 0) by omega)]
  rw [propext (hwp_bind' _ _ _ _ _ _), propext (hwp_rd_iff (rd_zero E.zero h) _ _)]
  rw [propext (hwp_pure _ _ _ _ _)]
  try dsimp only
  rw [propext (hwp_bind' _ _ _ _ _ _), propext (hwp_rd_iff (rd_zero E.zero h) _ _)]
  have hcapn : xs.length + m ≤ (Question.appendCap (xs.length + m) cap e).cut tt := by
    show xs.length + m ≤ (xs.length + m) + tt % (2 ^ 63 - (xs.length + m)); omega
  show K (.slice (some ⟨h.size, 0, none⟩) (xs.length + m) ((Question.appendCap (xs.length + m) cap e).cut tt)) (h.push (.cells (xs.toArray ++ Builtin.zeroCells z.cells m ++ Builtin.zeroCells z.cells ((Question.appendCap (xs.length + m) cap e).cut tt - (xs.length + m))) e))
  generalize (Question.appendCap (xs.length + m) cap e).cut tt = nc at hcapn ⊢
  refine hk nc _ hcapn ?_ ?_
  · simp only [Array.size_append, List.size_toArray, Builtin.zeroCells, Array.size_map, Array.size_range, E.cells]
    omega
  · simp only [Array.toList_append, List.append_assoc]
    rw [List.take_append_of_le_length (by simp), List.take_of_length_le (by simp)]
/-- copy, of cells of one -/
theorem run_copy {P : Program} {t e bytes : Nat} {z : Value} (E : Elem P t e 1 bytes z) {ty : TypeId} {cs : List Bool} {b o dl dc sl sc ee : Nat} {arr : Array Value} {ao : Option Addr} {ys : List Value} {h : Heap}
    (hb : h[b]? = some (.cells arr ee (0, 0))) (hl : ys.length = min sl dl) (hx : ∀ i x, ys[i]? = some x → ∃ a, ao = some a ∧ cell h (a.add i) = some x) (hone : ∀ y ∈ ys, oneC y = true) (ho : o + dl ≤ arr.size) {K : Value → Heap → Prop}
    (hk : ∀ u h' (arr' : Array Value), h'.size = h.size → (∀ c, c ≠ b → h'[c]? = h[c]?) → h'[b]? = some (.cells arr' ee (0, 0)) → arr'.size = arr.size → arr'.toList = arr.toList.take o ++ ys ++ arr.toList.drop (o + ys.length) → K u h') :
    run P (.builtin .copy #[t, t] ty cs [.slice (some ⟨b, o, none⟩) dl dc, .slice ao sl sc]) K h := by
  have hnew : rd P (Builtin.firstCells 1 (min sl dl) (.slice ao sl sc)) h = some ys.toArray := by
    rw [← hl]
    cases ao with
    | none =>
      have : ys = [] := by
        cases ys with
        | nil => rfl
        | cons y ys => obtain ⟨a, ha, _⟩ := hx 0 y (by simp); cases ha
      subst this; rfl
    | some a =>
      show rd P (loadCellsFrom a 0 (ys.length * 1) #[]) h = _
      rw [Nat.mul_one, rd_loadCells (P := P) ys.length 0 #[] ys (cellsAt_of ys 0 (fun j x hjx => by
        obtain ⟨a', ha', hca⟩ := hx j x hjx; cases ha'; simpa using hca))]
      simp
  show hwp P (S.val (Builtin.copy_ #[t, t] ty [Value.slice (some ⟨b, o, none⟩) dl dc, Value.slice ao sl sc].toArray)) _ _ h
  show hwp P (Sem.bind _ _) _ _ h
  rw [propext (hwp_bind _ _ _ _ _ _)]
  unfold Builtin.copy_
  simp only [List.getElem?_toArray, List.getElem?_cons_zero, List.getElem?_cons_succ]
  rw [propext (hwp_bind' _ _ _ _ _ _), propext (hwp_rd_iff (rd_underlying E.under h) _ _)]
  try dsimp only
  rw [propext (hwp_bind' _ _ _ _ _ _), propext (hwp_rd_iff (show rd P (Builtin.lenOf (.slice ao sl sc)) h = some sl from rfl) _ _)]
  try dsimp only
  rw [propext (hwp_bind' _ _ _ _ _ _), propext (hwp_rd_iff (rd_sizeOf E.size h) _ _)]
  try dsimp only
  rw [propext (hwp_bind' _ _ _ _ _ _), propext (hwp_rd_iff (show rd P (Builtin.firstCells 1 (Nat.min sl dl) (.slice ao sl sc)) h = _ from hnew) _ _)]
  try dsimp only
  rw [propext (hwp_bind' _ _ _ _ _ _)]
  refine hwp_storeCells (e := ee) ys _ 0 h arr hb ?_ hone ?_
  · rw [hl]; omega
  · intro h' arr' e1 e2 e3 e4 e5
    exact hk _ h' arr' e1 e2 e3 e4 e5
/-- slices.overlaps of two blocks -/
theorem rd_overlaps {P : Program} {t e : TypeId} {u : TypeId} (ht : P.underlying t = some (.slice e)) (hz : (P.info? e).map (·.size) = some 1) {a b : Addr} {la ca lb cb : Nat} {ta tb : TypeId} {xa xb : Array Value} {h : Heap}
    (ha : h[a.block]? = some (.cells xa ta (0, 0))) (hb : h[b.block]? = some (.cells xb tb (0, 0))) (hne : a.block ≠ b.block) (hxb : xb.size ≠ 0) :
    rd P (Extern.SlicesOverlaps.overlaps #[t, t] #[u] #[.slice (some a) la ca, .slice (some b) lb cb]) h = some (.bool false) := by
  have hne1 : (a.block != b.block) = true := by simpa using hne
  have hne2 : (a.block == b.block) = false := by simpa using hne
  show rd P (Sem.bind (underlying t) _) h = _
  rw [rd_bind, rd_underlying ht]
  show rd P (Sem.bind (sizeOf e) _) h = _
  rw [rd_bind, rd_sizeOf hz]
  show rd P (if la = 0 ∨ lb = 0 ∨ 1 = 0 then _ else _) h = _
  by_cases h0 : la = 0 ∨ lb = 0 ∨ 1 = 0
  · rw [if_pos h0]; rfl
  rw [if_neg h0]
  have hf : ∀ i, froz h ⟨a.block, i, none⟩ = false := fun i => by simp [froz, ha]
  have hfB : ∀ i, froz h ⟨b.block, i, none⟩ = false := fun i => by simp [froz, hb]
  have hfa : froz h a = false := by simp [froz, ha]
  have hfb : froz h b = false := by simp [froz, hb]
  have hsa : shapeOf h a.block = some (ta, xa.size) := by simp [shapeOf, ha]
  have hsb : shapeOf h b.block = some (tb, xb.size) := by simp [shapeOf, hb]
  have fr1 : ∀ x, rd P (frozen x) h = some (froz h x) := fun _ => rfl
  have sh1 : ∀ x, rd P (shape x) h = some (shapeOf h x) := fun _ => rfl
  have nv : ∀ x, (shapeOf h x.block).isSome = true → rd P (noView x) h = some () := by
    intro x hx
    unfold noView viewAt
    rw [rd_bind', rd_bind', sh1]
    simp only [Option.bind_some, hx, if_true]
    rfl
  have mb : rd P (mayBeOne a b) h = some false := by
    unfold mayBeOne stringish
    simp only [rd_bind', fr1, sh1, hfa, hfb, hsa, hsb, Option.bind_some]
    simp only [Bool.false_eq_true, if_false, rd_bind', fr1, sh1, hsa, hsb, Option.bind_some, hf, hfB, rd_pure, Bool.false_and, Bool.and_false, Bool.or_false]
  rw [hne1]
  simp only [Bool.true_and, rd_bind', fr1, hfa, hfb, Option.bind_some, Bool.false_and, Bool.false_eq_true, if_false, if_true]
  rw [nv a (by rw [hsa]; rfl), nv b (by rw [hsb]; rfl), mb]
  simp only [Option.bind_some, Bool.false_eq_true, if_false, hne2, Bool.false_and]
  rfl
end Go.Hv
