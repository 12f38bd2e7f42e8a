import Derived.Test.YtadfdknlogceoaaKl
import Derived.Test.YtadfdknlogceoaaKp
import Derived.Test.YtadfdknlogceoaaKh
import Derived.Test.YtadfdknlogceoaaKq
set_option linter.all false
open Go Go.Hv
set_option maxRecDepth 100000
namespace Go.Proofs.G
variable {α : Type} [Inhabited α] {val : α → Value} {ls : α → α → Bool}
theorem s36 : eSz P 36 = some 1 := by kernel_rfl
theorem hb49 : hasBody P 49 = true := by kernel_rfl
/-- block b holds the slices d, with room for cap -/
def DtV (val : α → Value) (h : Heap) (b cap : Nat) (d : Array α) : Prop := Row h b 22 cap (d.toList.map val)
theorem DtV.keep {h h' : Heap} {b cap : Nat} {d : Array α} (D : DtV val h b cap d) (hk : h'[b]? = h[b]?) : DtV val h' b cap d := Row.keep D hk
theorem ixV {b n cap i : Nat} (hi : i < n) (k : IntKind) : (∀ K h, run P (.indexAddr 36 (dv b n cap) (.int k i)) K h = K (.pointer (some ⟨b, i, none⟩)) h) ∧ (∀ K h, still P (.indexAddr 36 (dv b n cap) (.int k i)) K h = K (.pointer (some ⟨b, i, none⟩))) ∧
    (∀ K h, headq P (.indexAddr 36 (dv b n cap) (.int k i)) K h = K (.pointer (some ⟨b, i, none⟩))) ∧ (∀ K, tf P (.indexAddr 36 (dv b n cap) (.int k i)) K = K (.pointer (some ⟨b, i, none⟩))) := by
  have e : ∀ h, Ans P (.indexAddr 36 (dv b n cap) (.int k i)) (.pointer (some ⟨b, i, none⟩)) h := fun h => by
    have := ans_indexAddr (P := P) s36 (a := ⟨b, 0, none⟩) (len := n) (cap := cap) (k := k) (i := (i : Int)) (by omega) (by omega) (h := h)
    rw [Addr.add_add0] at this; simpa using this
  exact ⟨fun K h => (e h).run K, fun K h => (e h).still K, fun K h => (e h).headq K, fun K => Ans.tf e K⟩
theorem DtV.ld {h : Heap} {b cap : Nat} {d : Array α} (D : DtV val h b cap d) {i : Nat} (hi : i < d.size) : (∀ K, run P (.load 22 (.pointer (some ⟨b, i, none⟩))) K h = K (val d[i]!) h) ∧ (∀ K, still P (.load 22 (.pointer (some ⟨b, i, none⟩))) K h = K (val d[i]!)) ∧ (∀ K, headq P (.load 22 (.pointer (some ⟨b, i, none⟩))) K h = K (val d[i]!)) := by
  have hc : cell h ⟨b, i, none⟩ = some (val d[i]!) := Row.cell D (i := i) (by simp [hi])
  exact ⟨load_run o22 hc, load_still o22 hc, load_headq o22 hc⟩
theorem DtV.st {h : Heap} {b cap : Nat} {d : Array α} (D : DtV val h b cap d) {i : Nat} (hi : i < d.size) (x : α) (hx : oneC (val x) = true) {K : Value → Heap → Prop} (hk : ∀ h', DtV val h' b cap (d.setIfInBounds i x) → Chg (fun c => c = b) h h' → h'.size = h.size → K undef h') : run P (.store 22 (.pointer (some ⟨b, i, none⟩)) (val x)) K h := by
  have hc : cell h ⟨b, i, none⟩ = some (val d[i]!) := Row.cell D (i := i) (by simp [hi])
  refine Hv.run_store o22 hx hc (Row.froz D i none) (hk _ ?_ (chg_setC h ⟨b, i, none⟩ (val x)) (setC_size _ _ _))
  have := Row.set D (i := i) (val x)
  rw [← List.map_set] at this
  unfold DtV
  simpa using this
/-- what compares -/
structure Cmp (val : α → Value) (ls : α → α → Bool) (b : Nat) (h0 : Heap) : Prop where
  swo : Sort.SWO ls
  one : ∀ x, oneC (val x) = true
  call : ∀ h, Chg (fun c => c = b) h0 h → ∀ x y, ∃ z : Int, ls x y = decide (z < 0) ∧ HCalls P 49 #[val x, val y] h fun u h' => u = .int .i64 z ∧ h' = h
theorem Cmp.at {b : Nat} {h0 h : Heap} (c : Cmp val ls b h0) (C : Chg (fun c => c = b) h0 h) : Cmp val ls b h := ⟨c.swo, c.one, fun h' C' => c.call h' (C.trans C')⟩
abbrev cf : Value := .func (.func 49) #[] #[]
/-- a comparison, then its test -/
theorem Cmp.run {b : Nat} {h0 h : Heap} (c : Cmp val ls b h0) (C : Chg (fun c => c = b) h0 h) (x y : α) {t : TypeId} {k1 k2 : Bool} {K : Value → Value → Heap → Prop} (hk : ∀ v, K v (.bool (ls x y)) h) :
    run P (.dyn cf [val x, val y]) (fun v h => run P (.bin .lss t k1 k2 v (Value.int .i64 0)) (fun u h => K v u h) h) h := by
  obtain ⟨z, hz, hc⟩ := c.call h C x y
  refine run_dyn hb49 ?_
  refine HCalls.mono (R := fun u h' => u = .int .i64 z ∧ h' = h) hc ?_
  rintro _ _ ⟨rfl, rfl⟩
  simp only [ops P]
  rw [← hz]; exact hk _
/-- what a walk over the slices leaves -/
def SortsV (val : α → Value) (b cap : Nat) (h : Heap) (d : Array α) (v : Value) (h' : Heap) : Prop := v = .tuple #[] ∧ DtV val h' b cap d ∧ Chg (fun c => c = b) h h'
theorem swp_szV {d : Array α} {i j : Nat} : (Sort.swp d i j).size = d.size := by simp [Sort.swp]
theorem insSortF_spec {h0 : Heap} {b cap : Nat} {d0 : Array α} (cm : Cmp val ls b h0) (D0 : DtV val h0 b cap d0) {x y : Nat} (hxy : x ≤ y) (hy : y ≤ d0.size) (hs : d0.size < 4611686018427387904) :
    HCalls P 97 #[dv b d0.size cap, I x, I y, cf] h0 (SortsV val b cap h0 (Sort.insertionSort ls d0 x y)) := by
  refine insSortF_ok ?_
  unfold insSortF_c0
  simp only [fr, ops P]
  rw [wInc (by omega)]
  refine lp_of (fun k f h => ∃ i d, k = y + 1 - i ∧ f 0 = dv b d0.size cap ∧ f 1 = I x ∧ f 2 = I y ∧ f 3 = cf ∧ f 8 = I i ∧ x + 1 ≤ i ∧ (i ≤ y ∨ i = x + 1) ∧ d.size = d0.size ∧ Sort.insOuter ls x y i d = Sort.insertionSort ls d0 x y ∧ DtV val h b cap d ∧ Chg (fun c => c = b) h0 h) _ ⟨x + 1, d0, rfl, ?_⟩ ?_
  · exact ⟨rfl, rfl, rfl, rfl, rfl, Nat.le_refl _, .inr rfl, rfl, rfl, D0, Chg.refl _ _⟩
  rintro k f h Q' ⟨i, d, rfl, f0, f1, f2, f3, f8, hi, hiy, hd, hE, D, C⟩ on out
  unfold insSortF_L1
  simp only [f2, f8, ops P, lt_R]
  by_cases hiy' : i < y
  · rw [if_pos (by simpa using hiy')]
    refine lp_of (fun j f h => ∃ d', f 0 = dv b d0.size cap ∧ f 1 = I x ∧ f 2 = I y ∧ f 3 = cf ∧ f 8 = I i ∧ f 9 = I j ∧ j ≤ i ∧ d'.size = d0.size ∧ Sort.insInner ls x j d' = Sort.insInner ls x i d ∧ DtV val h b cap d' ∧ Chg (fun c => c = b) h0 h) i ⟨d, ?_⟩ ?_
    · exact ⟨f0, f1, f2, f3, f8, rfl, Nat.le_refl _, hd, rfl, D, C⟩
    rintro j f h Q2 ⟨d', f0, f1, f2, f3, f8, f9, hj, hd', hE', D', C'⟩ on2 out2
    have fin : ∀ f' : F, f' 0 = dv b d0.size cap → f' 1 = I x → f' 2 = I y → f' 3 = cf → f' 8 = I i → d' = Sort.insInner ls x i d → insSortF_c2 Q' f' h := by
      intro f' g0 g1 g2 g3 g8 e
      unfold insSortF_c2
      simp only [g8, ops P]
      refine on _ _ _ ?_ ⟨i + 1, d', rfl, ?_⟩
      · omega
      · refine ⟨g0, g1, g2, g3, congrArg _ (wInc (by omega)), by omega, .inl (by omega), hd', ?_, D', C'⟩
        rw [← hE, e]
        conv => rhs; rw [Sort.insOuter, if_pos hiy']
    unfold insSortF_L3
    simp only [f0, f1, f3, f9, ops P, opsf P, lt_gt]
    by_cases hjx : j > x
    · obtain ⟨j, rfl⟩ : ∃ j', j = j' + 1 := ⟨j - 1, by omega⟩
      have i1 := ixV (b := b) (n := d0.size) (cap := cap) (i := j + 1) (by omega) .i64
      have i2 := ixV (b := b) (n := d0.size) (cap := cap) (i := j) (by omega) .i64
      have l1 := D'.ld (i := j + 1) (by omega)
      have l2 := D'.ld (i := j) (by omega)
      have w1 : IntKind.i64.wrap (((j + 1 : Nat) : Int) - 1) = (j : Int) := wDec (n := j + 1) (by omega) (by omega)
      simp only [hjx, decide_true, bb, ops P, w1, i1, i2, l1, l2]
      refine cm.run C' _ _ fun v32 => ?_
      simp only [ops P, if_true]
      by_cases hl : ls d'[j + 1]! d'[j]! = true
      · rw [if_pos hl]
        simp only [ops P, opsf P, w1, i1, i2, l1, l2]
        refine D'.st (by omega) _ (cm.one _) fun h1 D1 C1 s1 => ?_
        refine D1.st (by simp; omega) _ (cm.one _) fun h2 D2 C2 s2 => ?_
        try simp only [ops P, w1]
        refine on2 _ _ _ (Nat.lt_succ_self j) ⟨Sort.swp d' (j + 1) j, ?_⟩
        refine ⟨f0, f1, f2, f3, f8, rfl, by omega, swp_szV.trans hd', ?_, D2, (C'.trans C1).trans C2⟩
        rw [← hE']
        conv => rhs; rw [Sort.insInner, if_pos (by simp [hl]; omega)]
      · rw [if_neg hl]
        refine out2 _ _ _ (by simp) ?_
        simp only [ex]
        refine fin _ f0 f1 f2 f3 f8 ?_
        rw [← hE', Sort.insInner, if_neg (by simp [hl])]
    · simp only [hjx, decide_false, bb, ops P, if_false]
      refine out2 _ _ _ (by simp) ?_
      simp only [ex]
      refine fin _ f0 f1 f2 f3 f8 ?_
      rw [← hE']
      cases j with
      | zero => rfl
      | succ j => rw [Sort.insInner, if_neg (by simp; omega)]
  · rw [if_neg (by simpa using hiy')]
    refine out _ _ _ (by simp) ?_
    simp only [ex]
    refine post_end0 ⟨rfl, ?_, C⟩
    rw [← hE, Sort.insOuter, if_neg hiy']; exact D
end Go.Proofs.G
namespace Go.Proofs.G
/-- Parts, plainly: one node more, from behind -/
def partS (g : Gr) (k : Nat) (s : List Nat × List (List Nat)) (n : Nat) : List Nat × List (List Nat) :=
  ((deepF g k [n] s.1).1, if (deepF g k [n] s.1).2 = [] then s.2 else s.2 ++ [srt (deepF g k [n] s.1).2])
def behindF (g : Gr) : List Nat := (deepF g (g.N.length + 1) g.N []).2
/-- .. as they come -/
def partsF (g : Gr) : List (List Nat) := ((behindF g).reverse.foldl (partS (trn g) (g.N.length + 1)) ([], [])).2
theorem freeN_le_len (g : Gr) (e : List Nat) : freeN g e ≤ g.N.length := List.length_filter_le _ _
structure PartsOk (g : Gr) (j : Nat) (s : List Nat × List (List Nat)) : Prop where
  nodup : s.1.Nodup
  sub : ∀ x ∈ s.1, x ∈ g.N
  len : s.2.length ≤ j
  ne : ∀ p ∈ s.2, p ≠ [] ∧ p.length ≤ g.N.length
theorem partS_ok {g : Gr} (w : g.WF) {k j : Nat} {s : List Nat × List (List Nat)} (h : PartsOk g j s) {n : Nat} (hn : n ∈ g.N) : PartsOk g (j + 1) (partS g k s n) := by
  have d := deepF_ok w k [n] s.1 (fun x hx => by simp at hx; subst hx; exact hn) h.nodup h.sub
  have hl := d.len
  have hN := len_le_of_nodup d.nodup d.sub
  unfold partS
  refine ⟨d.nodup, d.sub, ?_, fun p hp => ?_⟩
  · simp only
    have := h.len
    split <;> simp <;> omega
  · simp only at hp
    split at hp
    · exact h.ne p hp
    · rename_i hne
      rcases List.mem_append.1 hp with hp | hp
      · exact h.ne p hp
      · simp at hp; subst hp
        refine ⟨fun e => hne ?_, by rw [srt_len]; omega⟩
        have := congrArg List.length e
        rw [srt_len] at this
        exact List.eq_nil_of_length_eq_zero this
theorem parts_ok_fold {g : Gr} (w : g.WF) {k : Nat} : ∀ (l : List Nat) {j : Nat} {s : List Nat × List (List Nat)}, PartsOk g j s → (∀ x ∈ l, x ∈ g.N) → PartsOk g (j + l.length) (l.foldl (partS g k) s)
  | [], j, s, h, _ => h
  | n :: l, j, s, h, hl => by
    have := parts_ok_fold w (k := k) l (partS_ok w (k := k) h (hl n (by simp))) fun x hx => hl x (List.mem_cons_of_mem _ hx)
    rw [List.length_cons, show j + (l.length + 1) = j + 1 + l.length by omega]
    exact this
theorem behind_ok {g : Gr} (w : g.WF) : (∀ x ∈ behindF g, x ∈ g.N) ∧ (behindF g).length ≤ g.N.length := by
  have d := deepF_ok w (g.N.length + 1) g.N [] (fun x hx => hx) (by simp) (by simp)
  obtain ⟨m, h1, h2⟩ := d.pre
  refine ⟨fun x hx => d.sub x ?_, ?_⟩
  · rw [h1]; simpa using h2.mem_iff.1 hx
  · have := d.len
    have := len_le_of_nodup d.nodup d.sub
    unfold behindF
    simp at *; omega
end Go.Proofs.G
open Go Go.Hv
set_option maxRecDepth 100000
namespace Go.Proofs.G
theorem hb15 : hasBody P 15 = true := by kernel_rfl
theorem hb45 : hasBody P 45 = true := by kernel_rfl
theorem hb48 : hasBody P 48 = true := by kernel_rfl
theorem hb73 : hasBody P 73 = true := by kernel_rfl
theorem hb76 : hasBody P 76 = true := by kernel_rfl
theorem hb97 : hasBody P 97 = true := by kernel_rfl
theorem z22 : (P.info? 22).map (·.zero) = some (some (.slice none 0 0)) := by kernel_rfl
theorem z24 : (P.info? 24).map (·.zero) = some (some (.pointer none)) := by kernel_rfl
theorem z76 : (P.info? 76).map (·.zero) = some (some (.map none)) := by kernel_rfl
theorem z36 : (P.info? 36).map (·.zero) = some (some (.slice none 0 0)) := by kernel_rfl
theorem o36 : one P 36 = true := by kernel_rfl
/-- new memory: the slice v holds slices, each its nodes; no two in one block -/
structure PV (m : Nat) (h : Heap) (v : Value) (xs : List (Value × List Nat)) : Prop where
  own : Own h v 22 (xs.map (·.1))
  lo : ∀ c, blkOf v = some c → m ≤ c
  each : ∀ e ∈ xs, Nw m h e.1 e.2 ∧ e.2 ≠ [] ∧ e.2.length ≤ 4096
  apart : xs.Pairwise fun a b => blkOf a.1 ≠ blkOf b.1
  sep : ∀ e ∈ xs, blkOf e.1 ≠ blkOf v
  nz : xs = [] → v = .slice none 0 0
theorem PV.nil (m : Nat) (h : Heap) : PV m h (.slice none 0 0) [] := ⟨Own.nil _ _, fun c hc => (by cases hc), fun e he => (by cases he), List.Pairwise.nil, fun e he => (by cases he), fun _ => rfl⟩
theorem PV.keepC {m : Nat} {h h' : Heap} {v : Value} {xs : List (Value × List Nat)} (p : PV m h v xs) (hk : ∀ c, c < h.size → (blkOf v = some c ∨ ∃ e ∈ xs, blkOf e.1 = some c) → h'[c]? = h[c]?) : PV m h' v xs where
  own := p.own.keep fun c hc => hk c (p.own.lt hc) (.inl hc)
  lo := p.lo
  each := fun e he => ⟨⟨(p.each e he).1.own.keep fun c hc => hk c ((p.each e he).1.own.lt hc) (.inr ⟨e, he, hc⟩), (p.each e he).1.lo⟩, (p.each e he).2⟩
  apart := p.apart
  sep := p.sep
  nz := p.nz
theorem PV.keep {m n : Nat} {h h' : Heap} {v : Value} {xs : List (Value × List Nat)} (p : PV m h v xs) (O : Old n h h') (hn : h.size ≤ n) : PV m h' v xs := p.keepC fun c hc _ => O.get c (by omega)
theorem PV.mono {m n : Nat} {h : Heap} {v : Value} {xs : List (Value × List Nat)} (p : PV m h v xs) (hn : n ≤ m) : PV n h v xs where
  own := p.own
  lo := fun c hc => by have := p.lo c hc; omega
  each := fun e he => ⟨(p.each e he).1.mono hn, (p.each e he).2⟩
  apart := p.apart
  sep := p.sep
  nz := p.nz
/-- deep has left the variable's cell -/
theorem Var.get {m bx : Nat} {acc : List Nat} {h : Heap} (V : Var m bx acc h) : ∃ v, h[bx]? = some (.cells #[v] 22 (0, 0)) ∧ Nw m h v acc := V
theorem backward_spec (ao : Option Addr) (n c : Nat) (h : Heap) : HCalls P 45 #[.slice ao n c] h fun v h' => v = .func (.func 73) #[] #[.pointer (some ⟨h.size, 0, none⟩)] ∧ h' = h.push (.cells #[.slice ao n c] 22) := by
  refine backward_ok ?_
  unfold backward_c0
  simp only [fr, run_box, ops P]
  exact post_ret1 ⟨rfl, rfl⟩
/-- what slices.SortFunc must do at m slices -/
def SF (m : Nat) : Prop := ∀ {α : Type} [Inhabited α] {val : α → Value} {ls : α → α → Bool} {h0 : Heap} {b cap : Nat} {d0 : Array α}, d0.size = m → Cmp val ls b h0 → DtV val h0 b cap d0 →
  HCalls P 48 #[dv b d0.size cap, cf] h0 fun v h' => Chg (fun c => c = b) h0 h' ∧ ∃ d', DtV val h' b cap d' ∧ Sort.PermIn 0 m d0 d' ∧ Sort.SortedIn ls 0 m d'
theorem len75_spec (n : Nat) (hn : n < 65536) (h : Heap) : HCalls P 75 #[.int .u64 (n : Int)] h fun u h' => u = I (Sort.bitsLen n) ∧ h' = h := by
  refine len_ok ?_
  unfold len_c0
  simp only [fr, ops P, bb, if_false]
  refine run_callF hb96 ((len64_spec hn h).mono ?_)
  rintro _ _ ⟨rfl, rfl⟩
  exact post_ret1 ⟨rfl, rfl⟩
/-- a slice of slices of one's own gets one more -/
theorem PV.push {m : Nat} {h : Heap} {v w : Value} {xs : List (Value × List Nat)} {l : List Nat} (p : PV m h v xs) (N : Nw m h w l) (hl : l ≠ []) (hll : l.length ≤ 4096) (hx : xs.length ≤ 100000) (hm : m ≤ h.size) (hs1 : ∀ e ∈ xs, blkOf e.1 ≠ blkOf w) (hs2 : blkOf w ≠ blkOf v) {K : Value → Value → Heap → Prop}
    (hk : ∀ u v' h', PV m h' v' (xs ++ [(w, l)]) → Chg (fun c => blkOf v = some c) h h' → K u v' h') :
    run P (.buildSlice 36 1 [(0, w)]) (fun u h => run P (.builtin .append #[36, 36] 36 [false, false] [v, u]) (fun v' h => K u v' h) h) h := by
  have hw1 : oneC w = true := N.one
  refine run_buildSlice1 eRefs hw1 ?_
  have hold : ∀ c, c < h.size → (h.push (.cells #[w] 22))[c]? = h[c]? := fun c hc => get_push_old _ _ hc
  have o1 : Own (h.push (.cells #[w] 22)) v 22 (xs.map (·.1)) := p.own.keep fun c hc => hold c (p.own.lt hc)
  have sw : Sl (h.push (.cells #[w] 22)) (.slice (some ⟨h.size, 0, none⟩) 1 1) [w] := Row.sl (Row.mk' (get_push_new _ _))
  have hsz : (h.push (.cells #[w] 22)).size = h.size + 1 := by simp
  have hblk : ∃ c, blkOf w = some c := by
    obtain ⟨b, cap, e⟩ := N.ptr hl
    exact ⟨b, by rw [e]; rfl⟩
  refine run_append1 eRefs o1 sw (by simp [hw1]) (by simp; omega) (by simp; omega) fun v' h2 o2 c2 b2 => ?_
  have k2 : ∀ c, c < h.size → blkOf v ≠ some c → h2[c]? = h[c]? := fun c hc hne => by rw [c2.get c (by omega) hne, hold c hc]
  refine hk _ v' h2 ⟨by simpa using o2, fun c hc => ?_, fun e he => ?_, ?_, fun e he => ?_, fun h => by simp at h⟩ ⟨by have := c2.size; omega, fun c hc hne => k2 c hc hne⟩
  · rcases b2 c hc with h' | h'
    · exact p.lo c h'
    · omega
  · rcases List.mem_append.1 he with he | he
    · obtain ⟨a, b⟩ := p.each e he
      exact ⟨⟨a.own.keep fun c hc => k2 c (a.own.lt hc) fun e' => p.sep e he (by rw [hc, e']), a.lo⟩, b⟩
    · simp at he; subst he
      exact ⟨⟨N.own.keep fun c hc => k2 c (N.own.lt hc) fun e' => hs2 (by rw [hc, e']), N.lo⟩, hl, hll⟩
  · rw [List.pairwise_append]
    refine ⟨p.apart, by simp, fun a ha b hb => ?_⟩
    simp at hb; subst hb
    exact hs1 a ha
  · have hlt : ∀ c, blkOf e.1 = some c → c < h.size := fun c hc => by
      rcases List.mem_append.1 he with he | he
      · exact (p.each e he).1.own.lt hc
      · simp at he; subst he; exact N.own.lt hc
    have hne0 : ∃ c, blkOf e.1 = some c := by
      rcases List.mem_append.1 he with he | he
      · obtain ⟨b, cap, e'⟩ := (p.each e he).1.ptr (p.each e he).2.1
        exact ⟨b, by rw [e']; rfl⟩
      · simp at he; subst he; exact hblk
    obtain ⟨c, hc⟩ := hne0
    intro e'
    rw [hc] at e'
    rcases b2 c e'.symm with h' | h'
    · rcases List.mem_append.1 he with he | he
      · exact p.sep e he (by rw [hc, h'])
      · simp at he; subst he; exact hs2 (by rw [hc, h'])
    · have := hlt c hc; omega
end Go.Proofs.G
open Go Go.Hv
set_option maxRecDepth 100000
namespace Go.Proofs.G
/-- between two rounds: s on lie the map of those taken, the variables back, taken, parts -/
structure RI (s : Nat) (pt : Value) (g : Gr) (h : Heap) (st : List Nat × List (List Nat)) : Prop where
  gr : GR s h pt g
  back : h[s + 1]? = some (.cells #[pt] 24 (0, 0))
  tk : h[s + 2]? = some (.cells #[.map (some s)] 76 (0, 0))
  parts : ∃ pv xs, h[s + 3]? = some (.cells #[pv] 36 (0, 0)) ∧ PV (s + 7) h pv xs ∧ xs.map (·.2) = st.2
  map : MapR h s R (bmap st.1)
  size : s + 7 ≤ h.size
theorem RI.keep {s : Nat} {pt : Value} {g : Gr} {h h' : Heap} {st : List Nat × List (List Nat)} (r : RI s pt g h st) (hk : ∀ c, c < h.size → c ≠ s + 6 → c ≠ s + 5 → h'[c]? = h[c]?) (hs : h.size ≤ h'.size) : RI s pt g h' st := by
  have hz := r.size
  obtain ⟨pv, xs, h1, p, e⟩ := r.parts
  refine ⟨r.gr.keep fun c hc => hk c (by omega) (by omega) (by omega), (hk _ (by omega) (by omega) (by omega)).trans r.back, (hk _ (by omega) (by omega) (by omega)).trans r.tk, ⟨pv, xs, (hk _ (by omega) (by omega) (by omega)).trans h1, p.keepC fun c hc hh => ?_, e⟩, r.map.keep (hk _ r.map.lt (by omega) (by omega)), by omega⟩
  have : s + 7 ≤ c := by
    rcases hh with hh | ⟨e, he, hh⟩
    · exact p.lo c hh
    · exact (p.each e he).1.lo c hh
  exact hk c hc (by omega) (by omega)
theorem round_body {s : Nat} {b : Nat} {g : Gr} (w : g.WF) {h : Heap} {st : List Nat × List (List Nat)} (r : RI s (.pointer (some ⟨b, 0, none⟩)) g h st) {j x : Nat} (ok : PartsOk g j st) (hj : j ≤ 4096) (hx : x ∈ g.N) {f : F} (f5 : f 5 = .pointer (some ⟨s + 1, 0, none⟩)) (f6 : f 6 = .pointer (some ⟨s + 2, 0, none⟩)) (f7 : f 7 = .pointer (some ⟨s + 3, 0, none⟩)) (f9 : f 9 = R x)
    {Q : Exit → F → Heap → Prop} (hQ : ∀ f' h', RI s (.pointer (some ⟨b, 0, none⟩)) g h' (partS g (g.N.length + 1) st x) → (∀ c, c < s + 7 → c ≠ s → c ≠ s + 3 → h'[c]? = h[c]?) → h.size ≤ h'.size → Q .normal f' h') : parts_B_b0 Q f h := by
  have hz := r.size
  have hfew := w.few
  unfold parts_B_b0
  simp only [f5, f6, f7, f9]
  refine runR_of ?_
  rw [run_alloc z22]
  have hva : (h.push (.cells (Value.slice none 0 0).cells 22))[h.size]? = some (.cells #[.slice none 0 0] 22 (0, 0)) := get_push_new _ _
  have hka : ∀ c, c < h.size → (h.push (.cells (Value.slice none 0 0).cells 22))[c]? = h[c]? := fun c hc => get_push_old _ _ hc
  have hsa : (h.push (.cells (Value.slice none 0 0).cells 22)).size = h.size + 1 := by simp
  generalize h.push (.cells (Value.slice none 0 0).cells 22) = ha at *
  refine runR_of ?_
  rw [load_run o24 (cell_at ((hka _ (by omega)).trans r.back) (v := .pointer (some ⟨b, 0, none⟩)) rfl)]
  refine runR_of ?_
  refine run_buildSlice1 eRef rfl ?_
  have hvb : (ha.push (.cells #[R x] 41))[h.size + 1]? = some (.cells #[R x] 41 (0, 0)) := by rw [← hsa]; exact get_push_new _ _
  have hkb : ∀ c, c < ha.size → (ha.push (.cells #[R x] 41))[c]? = ha[c]? := fun c hc => get_push_old _ _ hc
  have hsb : (ha.push (.cells #[R x] 41)).size = h.size + 2 := by simp [hsa]
  rw [hsa]
  generalize ha.push (.cells #[R x] 41) = hb at *
  have kb : ∀ c, c < h.size → hb[c]? = h[c]? := fun c hc => by rw [hkb c (by omega), hka c hc]
  refine runR_of ?_
  rw [load_run o76 (cell_at ((kb _ (by omega)).trans r.tk) (v := .map (some s)) rfl)]
  refine runR_of ?_
  simp only [ops P]
  refine runR_of ?_
  have Gb := r.gr.keep (h' := hb) fun c hc => kb c (by omega)
  have Sb : Rs (h.size + 2) hb (.slice (some ⟨h.size + 1, 0, none⟩) 1 1) [x] := ⟨Row.sl (Row.mk' hvb), fun c hc => by
    have : h.size + 1 = c := by simpa [blkOf] using hc
    omega⟩
  have Vb : Var (h.size + 2) h.size [] hb := ⟨.slice none 0 0, by rw [hkb _ (by omega)]; exact hva, Nw.nil _ _⟩
  refine run_callF hb43 ((deep_spec (n := s) (m := h.size + 2) (bm := s) (bx := h.size) (lf := 46) w (.inr rfl) (Nat.le_refl _) (by omega) (by omega) (by omega) (by omega) g.N.length (acc := []) (freeN_le_len g st.1) Gb Sb (fun c hc => by
    have : h.size + 1 = c := by simpa [blkOf] using hc
    omega) (by simp) (fun y hy => by simp at hy; subst hy; exact hx) (r.map.keep (kb _ r.map.lt)) ok.nodup ok.sub (by simp) Vb (by omega)).mono ?_)
  rintro _ h4 ⟨M4, V4, K4⟩
  have q4 := K4.1
  have dok := deepF_ok w (g.N.length + 1) [x] st.1 (fun y hy => by simp at hy; subst hy; exact hx) ok.nodup ok.sub
  have hdl := dok.len
  have hdN := len_le_of_nodup dok.nodup dok.sub
  have hP : partS g (g.N.length + 1) st x = ((deepF g (g.N.length + 1) [x] st.1).1, if (deepF g (g.N.length + 1) [x] st.1).2 = [] then st.2 else st.2 ++ [srt (deepF g (g.N.length + 1) [x] st.1).2]) := rfl
  rw [hP] at hQ
  generalize deepF g (g.N.length + 1) [x] st.1 = D at *
  rw [List.nil_append] at V4
  obtain ⟨wv, hwv, N4⟩ := V4
  have k4 : ∀ c, c < h.size → c ≠ s → h4[c]? = h[c]? := fun c hc hne => by rw [K4.2 c (by omega) hne (by omega), kb c hc]
  refine runR_of ?_
  rw [load_run o22 (cell_at hwv (v := wv) rfl)]
  refine runR_of ?_
  rw [(N4.rs.len false).1]
  refine runR_of ?_
  simp only [ops P]
  obtain ⟨pv, xs, hpv, p, hxs⟩ := r.parts
  have p4 : PV (s + 7) h4 pv xs := p.keepC fun c hc hh => by
    have : s + 7 ≤ c := by
      rcases hh with hh | ⟨e, he, hh⟩
      · exact p.lo c hh
      · exact (p.each e he).1.lo c hh
    exact k4 c hc (by omega)
  by_cases hne : D.2 = []
  · rw [hne]
    rw [if_neg (by simp)]
    rw [if_pos hne] at hQ
    refine hQ _ h4 ⟨r.gr.keep fun c hc => k4 c (by omega) (by omega), (k4 _ (by omega) (by omega)).trans r.back, (k4 _ (by omega) (by omega)).trans r.tk, ⟨pv, xs, (k4 _ (by omega) (by omega)).trans hpv, p4, hxs⟩, M4, by omega⟩ (fun c hc h1 h2 => k4 c (by omega) h1) (by omega)
  · have hpos : 0 < D.2.length := List.length_pos_iff.2 hne
    rw [if_pos (by simp; omega)]
    rw [if_neg hne] at hQ
    refine runR_of ?_
    rw [load_run o22 (cell_at hwv (v := wv) rfl)]
    refine runR_of ?_
    refine run_callF hb47 ((sort_own N4.own (by omega)).mono ?_)
    rintro _ h5 ⟨rfl, o5, C5⟩
    have q5 := C5.size
    have k5 : ∀ c, c < h4.size → blkOf wv ≠ some c → h5[c]? = h4[c]? := fun c hc hn => C5.get c hc hn
    have hlw : ∀ c, blkOf wv = some c → h.size + 2 ≤ c := N4.lo
    have k5' : ∀ c, c < h.size + 2 → h5[c]? = h4[c]? := fun c hc => k5 c (by omega) fun e => by have := hlw c e; omega
    refine runR_of ?_
    have hpv5 : h5[s + 3]? = some (.cells #[pv] 36 (0, 0)) := (k5' _ (by omega)).trans ((k4 _ (by omega) (by omega)).trans hpv)
    rw [load_run o36 (cell_at hpv5 (v := pv) rfl)]
    refine runR_of ?_
    rw [load_run o22 (cell_at ((k5' _ (by omega)).trans hwv) (v := wv) rfl)]
    have hltp : ∀ c, (blkOf pv = some c ∨ ∃ e ∈ xs, blkOf e.1 = some c) → c < h.size := fun c hh => by
      rcases hh with hh | ⟨e, he, hh⟩
      · exact p.own.lt hh
      · exact (p.each e he).1.own.lt hh
    have p5 : PV (s + 7) h5 pv xs := p4.keepC fun c hc hh => k5' c (by have := hltp c hh; omega)
    have N5 : Nw (s + 7) h5 wv (srt D.2) := ⟨o5, fun c hc => by have := hlw c hc; omega⟩
    have hsl : (srt D.2).length = D.2.length := srt_len _
    have hxl : xs.length ≤ 4096 := by
      have h1 := ok.len
      rw [← hxs, List.length_map] at h1; omega
    refine runR_of ?_
    refine run_mono (PV.push p5 N5 (fun e => by rw [e] at hsl; simp at hsl; omega) (by omega) (by omega) (by omega) (fun e he h' => ?_) (fun h' => ?_) (K := _) (fun u v' h6 p6 C6 => ?_)) (fun u h hh => runR_of hh)
    · obtain ⟨b', cap, eb⟩ := (p5.each e he).1.ptr (p5.each e he).2.1
      have h1 : blkOf e.1 = some b' := by rw [eb]; rfl
      have h2 := hltp b' (.inr ⟨e, he, h1⟩)
      rw [h1] at h'
      have := hlw b' h'.symm
      omega
    · obtain ⟨b', cap, eb⟩ := N4.ptr hne
      have h1 : blkOf wv = some b' := by rw [eb]; rfl
      have h2 := hltp b' (.inl (by rw [← h', h1]))
      have := hlw b' h1
      omega
    have q6 := C6.size
    have k6 : ∀ c, c < s + 7 → h6[c]? = h5[c]? := fun c hc => C6.get c (by omega) fun e => by have := p.lo c e; omega
    have hpv6 : h6[s + 3]? = some (.cells #[pv] 36 (0, 0)) := (k6 _ (by omega)).trans hpv5
    refine runR_of ?_
    refine Hv.run_store o36 (Own.one p6.own) (cell_at hpv6 (v := pv) rfl) (by simp [froz, hpv6]) ?_
    have k7 : ∀ c, c ≠ s + 3 → (setC h6 ⟨s + 3, 0, none⟩ v')[c]? = h6[c]? := fun c hc => setC_get_ne _ _ _ (by simpa using hc)
    have g7 : (setC h6 ⟨s + 3, 0, none⟩ v')[s + 3]? = some (.cells #[v'] 36 (0, 0)) := by rw [setC_get _ _ hpv6]; rfl
    have s7 : (setC h6 ⟨s + 3, 0, none⟩ v').size = h6.size := setC_size _ _ _
    generalize setC h6 ⟨s + 3, 0, none⟩ v' = h7 at *
    have kk : ∀ c, c < s + 7 → c ≠ s → c ≠ s + 3 → h7[c]? = h[c]? := fun c hc h1 h2 => by
      rw [k7 c h2, k6 c hc, k5' c (by omega), k4 c (by omega) h1]
    refine hQ _ h7 ⟨r.gr.keep fun c hc => kk c (by omega) (by omega) (by omega), (kk _ (by omega) (by omega) (by omega)).trans r.back, (kk _ (by omega) (by omega) (by omega)).trans r.tk, ⟨v', _, g7, p6.keepC fun c hc hh => k7 c ?_, ?_⟩, M4.keep ?_, by omega⟩ kk (by omega)
    · have : s + 7 ≤ c := by
        rcases hh with hh | ⟨e, he, hh⟩
        · exact p6.lo c hh
        · exact (p6.each e he).1.lo c hh
      omega
    · simp [hxs]
    · rw [k7 s (by omega), k6 s (by omega), k5' s (by omega)]
end Go.Proofs.G
open Go Go.Hv
set_option maxRecDepth 100000
namespace Go.Proofs.G
/-- the parts, by their heads -/
structure PartsR (g : Gr) (ps : List (List Nat)) : Prop where
  perm : ps.Perm (partsF g)
  up : ps.Pairwise fun a b => a.headD 0 ≤ b.headD 0
/-- a comparison of two slices' heads -/
theorem partsf3_spec {h : Heap} {n m : Nat} {v w : Value} {a b : List Nat} (A : Rs n h v a) (B : Rs m h w b) (ha : a ≠ []) (hb : b ≠ []) :
    HCalls P 49 #[v, w] h fun u h' => u = .int .i64 (cmpN (a.headD 0) (b.headD 0)) ∧ h' = h := by
  obtain ⟨x, a', rfl⟩ := List.exists_cons_of_ne_nil ha
  obtain ⟨y, b', rfl⟩ := List.exists_cons_of_ne_nil hb
  obtain ⟨p, _, p1, p2, _, _⟩ := A.at (i := 0) (x := x) rfl .i64
  obtain ⟨q, _, q1, q2, _, _⟩ := B.at (i := 0) (x := y) rfl .i64
  have p1' : ∀ K h, still P (.indexAddr 22 v (.int .i64 0)) K h = K (.pointer (some p)) := p1
  have q1' : ∀ K h, still P (.indexAddr 22 w (.int .i64 0)) K h = K (.pointer (some q)) := q1
  refine partsf3_ok ?_
  unfold partsf3_c0
  simp only [fr, ops P, p1', q1', load_still o41 p2, load_still o41 q2]
  refine still_callF hb50 _ (cmpCompare_spec x y h) ?_
  try simp only [ops P]
  exact post_ret1 ⟨rfl, rfl⟩
theorem attach_val {β : Type} (xs : List β) : (xs.attach).map (fun a => a.1) = xs := by simp
/-- the parts are sorted -/
theorem sortParts {m : Nat} {h0 : Heap} {v : Value} {xs : List (Value × List Nat)} (hs : ∀ x : xs ≠ [], SF xs.length) (hs0 : xs = [] → ∀ h, HCalls P 48 #[.slice none 0 0, cf] h fun _ h' => h' = h) (p : PV m h0 v xs) :
    HCalls P 48 #[v, cf] h0 fun _ h' => ∃ ys, PV m h' v ys ∧ ys.Perm xs ∧ (ys.map (·.2)).Pairwise (fun a b => a.headD 0 ≤ b.headD 0) ∧ Chg (fun c => blkOf v = some c) h0 h' := by
  by_cases hx : xs = []
  · subst hx
    have hv := p.nz rfl
    subst hv
    refine (hs0 rfl h0).mono ?_
    rintro _ _ rfl
    exact ⟨[], p, List.Perm.refl _, by simp, Chg.refl _ _⟩
  · obtain ⟨e0, he0⟩ := List.exists_mem_of_ne_nil _ hx
    obtain ⟨b, cap, rfl, r⟩ : ∃ b cap, v = dv b xs.length cap ∧ Row h0 b 22 cap (xs.map (·.1)) := by
      rcases p.own with ⟨_, h0'⟩ | ⟨b, cap, rfl, r⟩
      · exact absurd (by simpa using h0') hx
      · exact ⟨b, cap, by simp, r⟩
    let α := { e : Value × List Nat // e ∈ xs }
    letI : Inhabited α := ⟨⟨e0, he0⟩⟩
    let val : α → Value := fun a => a.1.1
    let ls : α → α → Bool := fun a c => lt (a.1.2.headD 0) (c.1.2.headD 0)
    have hds : (xs.attach.toArray : Array α).size = xs.length := by simp
    have D : DtV val h0 b cap (xs.attach.toArray : Array α) := by
      unfold DtV
      have : (xs.attach.toArray : Array α).toList.map val = xs.map (·.1) := by
        show (xs.attach).map (fun a => a.1.1) = _
        have h1 : (xs.attach).map (fun a => a.1.1) = ((xs.attach).map (fun a => a.1)).map (·.1) := by rw [List.map_map]; rfl
        rw [h1, attach_val]
      rw [this]; exact r
    have cm : Cmp val ls b h0 := by
      refine ⟨⟨fun a => swo_lt.irrefl _, fun a b c => swo_lt.trans _ _ _, fun a b c => swo_lt.ntrans _ _ _⟩, fun x => (p.each x.1 x.2).1.one, fun h C x y => ⟨cmpN (x.1.2.headD 0) (y.1.2.headD 0), ?_, ?_⟩⟩
      · show decide (x.1.2.headD 0 < y.1.2.headD 0) = _
        unfold cmpN
        by_cases h1 : x.1.2.headD 0 < y.1.2.headD 0
        · rw [if_pos h1, decide_eq_true h1]; rfl
        · rw [if_neg h1, decide_eq_false h1]
          split <;> rfl
      · have keep : ∀ e ∈ xs, Rs h0.size h e.1 e.2 := fun e he => by
          refine ⟨((p.each e he).1.own.keep fun c hc => C.get c ((p.each e he).1.own.lt hc) fun e' => ?_).sl, fun c hc => (p.each e he).1.own.lt hc⟩
          subst e'
          exact p.sep e he (by rw [hc]; rfl)
        exact partsf3_spec (keep x.1 x.2) (keep y.1 y.2) (p.each x.1 x.2).2.1 (p.each y.1 y.2).2.1
    have key := hs hx hds cm D
    rw [hds] at key
    refine HCalls.mono key ?_
    rintro _ h' ⟨C, d', D', pm, srtd⟩
    have hperm : d'.toList.Perm xs.attach := by
      have h3 := pm.2.2
      have h1 : d'.size = xs.length := pm.1.trans hds
      rw [show d'.extract 0 xs.length = d' by rw [← h1]; simp, show (xs.attach.toArray : Array α).extract 0 xs.length = xs.attach.toArray by
        apply Array.toList_inj.1
        simp only [Array.toList_extract, List.extract, Nat.sub_zero, List.drop_zero]
        exact List.take_of_length_le (by simp)] at h3
      exact h3
    have hperm2 : (d'.toList.map (·.1)).Perm xs := by
      have := hperm.map (·.1)
      rwa [attach_val] at this
    have hv : (d'.toList.map (·.1)).map (·.1) = d'.toList.map val := by rw [List.map_map]; rfl
    have hlen : (d'.toList.map (·.1)).length = xs.length := hperm2.length_eq
    have keepN : ∀ e ∈ xs, Nw m h' e.1 e.2 := fun e he => by
      refine ⟨(p.each e he).1.own.keep fun c hc => C.get c ((p.each e he).1.own.lt hc) fun e' => ?_, (p.each e he).1.lo⟩
      subst e'
      exact p.sep e he (by rw [hc]; rfl)
    refine ⟨d'.toList.map (·.1), ⟨?_, p.lo, fun e he => ?_, ?_, fun e he => ?_, fun h => absurd (by rw [h] at hperm2; exact hperm2.symm.eq_nil) hx⟩, hperm2, ?_, C.mono fun c _ hc => by rw [hc]; rfl⟩
    · refine .inr ⟨b, cap, ?_, ?_⟩
      · rw [hv, List.length_map, ← hlen, List.length_map]
      · rw [hv]; exact D'
    · have he' := hperm2.mem_iff.1 he
      exact ⟨keepN e he', (p.each e he').2⟩
    · exact (hperm2.pairwise_iff (fun h => Ne.symm h)).2 p.apart
    · exact p.sep e (hperm2.mem_iff.1 he)
    · rw [List.map_map, List.pairwise_map, List.pairwise_iff_getElem]
      intro i j hi hj hij
      have := srtd i j (Nat.zero_le _) hij (by
        have h1 : d'.size = xs.length := pm.1.trans hds
        simp at hj; omega)
      have g1 : d'[i]! = d'.toList[i] := by simp at hi; simp [hi]
      have g2 : d'[j]! = d'.toList[j] := by simp at hj; simp [hj]
      rw [g1, g2] at this
      show d'.toList[i].1.2.headD 0 ≤ d'.toList[j].1.2.headD 0
      have h2 : decide (d'.toList[j].1.2.headD 0 < d'.toList[i].1.2.headD 0) = false := this
      simp only [decide_eq_false_iff_not] at h2
      omega
theorem parts_spec {n : Nat} {h0 : Heap} {p : Value} {g : Gr} (G0 : GR n h0 p g) (w : g.WF) (hn : n ≤ h0.size) (hsf : partsF g ≠ [] → SF (partsF g).length) (hsf0 : partsF g = [] → ∀ h, HCalls P 48 #[.slice none 0 0, cf] h fun _ h' => h' = h) :
    HCalls P 15 #[p] h0 fun v h' => Old h0.size h0 h' ∧ ∃ xs, PV h0.size h' v xs ∧ PartsR g (xs.map (·.2)) := by
  obtain ⟨b, nv, c1, c2, es, hs, rfl, A⟩ := G0
  have hfew := w.few
  have wt := tRn w
  have hNt := trn_N w
  refine parts_ok ?_
  unfold parts_c0
  simp only [fr]
  refine runR_of ?_
  rw [run_alloc z22]
  refine runR_of ?_
  rw [run_mkMap]
  have hv1 : ((h0.push (.cells (Value.slice none 0 0).cells 22)).push (.map #[] 0))[h0.size]? = some (.cells #[.slice none 0 0] 22 (0, 0)) := by
    rw [get_push_old _ _ (by simp)]; exact get_push_new _ _
  have hk1 : ∀ c, c < h0.size → ((h0.push (.cells (Value.slice none 0 0).cells 22)).push (.map #[] 0))[c]? = h0[c]? := fun c hc => by
    rw [get_push_old _ _ (by simp; omega), get_push_old _ _ hc]
  have hM1 : MapR ((h0.push (.cells (Value.slice none 0 0).cells 22)).push (.map #[] 0)) (h0.size + 1) R (bmap []) := by
    have := MapR.new (h0.push (.cells (Value.slice none 0 0).cells 22)) R
    simpa using this
  have hs1 : ((h0.push (.cells (Value.slice none 0 0).cells 22)).push (.map #[] 0)).size = h0.size + 2 := by simp
  have hs1' : (h0.push (.cells (Value.slice none 0 0).cells 22)).size = h0.size + 1 := by simp
  rw [hs1']
  generalize (h0.push (.cells (Value.slice none 0 0).cells 22)).push (.map #[] 0) = h1 at *
  have A1 := A.keep (h' := h1) fun c hc => hk1 c (by omega)
  refine runR_of ?_
  simp only [ops P]
  refine runR_of ?_
  rw [(fld P f75_0).1]
  refine runR_of ?_
  rw [load_run o22 A1.c0]
  refine runR_of ?_
  simp only [ops P]
  refine runR_of ?_
  have Sn := A1.nodes
  refine run_callF hb43 ((deep_spec (n := n) (m := h0.size + 2) (bm := h0.size + 1) (bx := h0.size) (lf := 44) w (.inl rfl) (by omega) hn (by omega) (by omega) (by omega) g.N.length (e := []) (acc := []) (freeN_le_len g []) ⟨b, nv, c1, c2, es, hs, rfl, A1⟩ (Sn.mono (by omega)) (fun c hc => by have := Sn.bl c hc; omega) hfew (fun y hy => hy) hM1 (by simp) (by simp) (by simp) ⟨.slice none 0 0, hv1, Nw.nil _ _⟩ (by omega)).mono ?_)
  rintro _ h2 ⟨M2, V2, K2⟩
  have q2 := K2.1
  have k2 : ∀ c, c < h0.size → h2[c]? = h0[c]? := fun c hc => by rw [K2.2 c (by omega) (by omega) (by omega), hk1 c hc]
  rw [List.nil_append] at V2
  change Var (h0.size + 2) h0.size (behindF g) h2 at V2
  obtain ⟨hbN, hbl⟩ := behind_ok w
  have A2 := A.keep (h' := h2) fun c hc => k2 c (by omega)
  refine runR_of ?_
  refine run_callF hb33 ((turned_spec ⟨b, nv, c1, c2, es, hs, rfl, A2⟩ w (by omega)).mono ?_)
  rintro _ h3 ⟨O3, bt, vv, b1, b2, es', hs', rfl, GT⟩
  have q3 := O3.size
  have GT3 : GR h3.size h3 (.pointer (some ⟨bt, 0, none⟩)) (trn g) := ⟨_, _, _, _, _, _, rfl, GT.ga⟩
  obtain ⟨bv, hbv, Nb⟩ := V2
  have hbv3 : h3[h0.size]? = some (.cells #[bv] 22 (0, 0)) := (O3.get _ (by omega)).trans hbv
  have Nb3 : Nw (h0.size + 2) h3 bv (behindF g) := Nb.keep O3 (Nat.le_refl _)
  refine runR_of ?_
  rw [run_mkMap]
  refine runR_of ?_
  rw [run_alloc z24]
  refine runR_of ?_
  rw [run_alloc z76]
  refine runR_of ?_
  -- the stores
  have e1 : (h3.push (.map #[] 0)).size = h3.size + 1 := by simp
  have e2 : ((h3.push (.map #[] 0)).push (.cells (Value.pointer none).cells 24)).size = h3.size + 2 := by simp
  rw [e1, e2]
  have a1 : (((h3.push (.map #[] 0)).push (.cells (Value.pointer none).cells 24)).push (.cells (Value.map none).cells 76))[h3.size + 1]? = some (.cells #[.pointer none] 24 (0, 0)) := by
    rw [get_push_old _ _ (by simp), ← e1]; exact get_push_new _ _
  have a2 : (((h3.push (.map #[] 0)).push (.cells (Value.pointer none).cells 24)).push (.cells (Value.map none).cells 76))[h3.size + 2]? = some (.cells #[.map none] 76 (0, 0)) := by
    rw [← e2]; exact get_push_new _ _
  have aM : MapR (((h3.push (.map #[] 0)).push (.cells (Value.pointer none).cells 24)).push (.cells (Value.map none).cells 76)) h3.size R (bmap []) :=
    (MapR.new h3 R).keep (by rw [get_push_old _ _ (by simp; omega), get_push_old _ _ (by simp)])
  have aK : ∀ c, c < h3.size → (((h3.push (.map #[] 0)).push (.cells (Value.pointer none).cells 24)).push (.cells (Value.map none).cells 76))[c]? = h3[c]? := fun c hc => by
    rw [get_push_old _ _ (by simp; omega), get_push_old _ _ (by simp; omega), get_push_old _ _ hc]
  have aS : (((h3.push (.map #[] 0)).push (.cells (Value.pointer none).cells 24)).push (.cells (Value.map none).cells 76)).size = h3.size + 3 := by simp
  generalize ((h3.push (.map #[] 0)).push (.cells (Value.pointer none).cells 24)).push (.cells (Value.map none).cells 76) = ha at *
  refine Hv.run_store o24 rfl (cell_at a1 (v := .pointer none) rfl) (by simp [froz, a1]) ?_
  have b1' : (setC ha ⟨h3.size + 1, 0, none⟩ (.pointer (some ⟨bt, 0, none⟩)))[h3.size + 1]? = some (.cells #[.pointer (some ⟨bt, 0, none⟩)] 24 (0, 0)) := by rw [setC_get _ _ a1]; rfl
  have bK : ∀ c, c ≠ h3.size + 1 → (setC ha ⟨h3.size + 1, 0, none⟩ (.pointer (some ⟨bt, 0, none⟩)))[c]? = ha[c]? := fun c hc => setC_get_ne _ _ _ (by simpa using hc)
  have bS : (setC ha ⟨h3.size + 1, 0, none⟩ (.pointer (some ⟨bt, 0, none⟩))).size = h3.size + 3 := by rw [setC_size, aS]
  generalize setC ha ⟨h3.size + 1, 0, none⟩ (.pointer (some ⟨bt, 0, none⟩)) = hb at *
  have b2' : hb[h3.size + 2]? = some (.cells #[.map none] 76 (0, 0)) := (bK _ (by omega)).trans a2
  refine runR_of ?_
  refine Hv.run_store o76 rfl (cell_at b2' (v := .map none) rfl) (by simp [froz, b2']) ?_
  have d2 : (setC hb ⟨h3.size + 2, 0, none⟩ (.map (some h3.size)))[h3.size + 2]? = some (.cells #[.map (some h3.size)] 76 (0, 0)) := by rw [setC_get _ _ b2']; rfl
  have dK : ∀ c, c ≠ h3.size + 2 → (setC hb ⟨h3.size + 2, 0, none⟩ (.map (some h3.size)))[c]? = hb[c]? := fun c hc => setC_get_ne _ _ _ (by simpa using hc)
  have dS : (setC hb ⟨h3.size + 2, 0, none⟩ (.map (some h3.size))).size = h3.size + 3 := by rw [setC_size, bS]
  generalize setC hb ⟨h3.size + 2, 0, none⟩ (.map (some h3.size)) = hd at *
  refine runR_of ?_
  rw [run_alloc z36, dS]
  refine runR_of ?_
  have f3 : (hd.push (.cells (Value.slice none 0 0).cells 36))[h3.size + 3]? = some (.cells #[.slice none 0 0] 36 (0, 0)) := by rw [← dS]; exact get_push_new _ _
  have fK : ∀ c, c < h3.size + 3 → (hd.push (.cells (Value.slice none 0 0).cells 36))[c]? = hd[c]? := fun c hc => get_push_old _ _ (by omega)
  have fS : (hd.push (.cells (Value.slice none 0 0).cells 36)).size = h3.size + 4 := by simp [dS]
  generalize hd.push (.cells (Value.slice none 0 0).cells 36) = hf at *
  have kf : ∀ c, c < h3.size → hf[c]? = h3[c]? := fun c hc => by rw [fK c (by omega), dK c (by omega), bK c (by omega), aK c hc]
  rw [load_run o22 (cell_at ((kf _ (by omega)).trans hbv3) (v := bv) rfl)]
  refine runR_of ?_
  obtain ⟨ao, kk, cc, hbve⟩ := cells_nw Nb3
  rw [hbve]
  refine run_callF hb45 ((backward_spec ao kk cc hf).mono ?_)
  rintro _ h4 ⟨rfl, rfl⟩
  have g4 : (hf.push (.cells #[.slice ao kk cc] 22))[h3.size + 4]? = some (.cells #[bv] 22 (0, 0)) := by rw [hbve, ← fS]; exact get_push_new _ _
  have gK : ∀ c, c < h3.size + 4 → (hf.push (.cells #[.slice ao kk cc] 22))[c]? = hf[c]? := fun c hc => get_push_old _ _ (by omega)
  have gS : (hf.push (.cells #[.slice ao kk cc] 22)).size = h3.size + 5 := by simp [fS]
  rw [fS]
  generalize hf.push (.cells #[.slice ao kk cc] 22) = h4 at *
  refine ⟨by trivial, 73, #[], #[.pointer (some ⟨h3.size + 4, 0, none⟩)], rfl, hb73, fun r L => ?_⟩
  simp only [gS]
  refine backwardf_ok (a0 := .func (.yield (h3.size + 5 + 1)) #[] #[]) (c0 := .pointer (some ⟨h3.size + 4, 0, none⟩)) ?_
  have hlp : ((h4.push (.deferred (some []))).push (.loop r))[h3.size + 6]? = some (.loop r) := get_push_at _ _ (by simp [gS])
  have hdf : ((h4.push (.deferred (some []))).push (.loop r))[h3.size + 5]? = some (.deferred (some [])) := by
    rw [get_push_old _ _ (by simp [gS])]; exact get_push_at _ _ (by simp [gS])
  have iK : ∀ c, c < h3.size + 5 → ((h4.push (.deferred (some []))).push (.loop r))[c]? = h4[c]? := fun c hc => by
    rw [get_push_old _ _ (by simp [gS]; omega), get_push_old _ _ (by omega)]
  have iS : ((h4.push (.deferred (some []))).push (.loop r)).size = h3.size + 7 := by simp [gS]
  generalize (h4.push (.deferred (some []))).push (.loop r) = h5 at *
  have k5 : ∀ c, c < h3.size → h5[c]? = h3[c]? := fun c hc => by rw [iK c (by omega), gK c (by omega), kf c hc]
  have j5 : ∀ c, c < h3.size + 3 → h5[c]? = hd[c]? := fun c hc => by rw [iK c (by omega), gK c (by omega), fK c hc]
  have RI0 : RI h3.size (.pointer (some ⟨bt, 0, none⟩)) (trn g) h5 ([], []) := by
    refine ⟨GT3.keep fun c hc => k5 c hc, ?_, ?_, ⟨.slice none 0 0, [], ?_, PV.nil _ _, rfl⟩, aM.keep ?_, by omega⟩
    · rw [j5 _ (by omega), dK _ (by omega)]; exact b1'
    · rw [j5 _ (by omega)]; exact d2
    · rw [iK _ (by omega), gK _ (by omega)]; exact f3
    · rw [j5 _ (by omega), dK _ (by omega), bK _ (by omega)]
  unfold backwardf_c0
  simp only [fr]
  have hbx5 : h5[h3.size + 4]? = some (.cells #[bv] 22 (0, 0)) := (iK _ (by omega)).trans g4
  have Sb : Rs h3.size h3 bv (behindF g) := Nb3.rs
  refine runR_of ?_
  rw [load_run o22 (cell_at hbx5 (v := bv) rfl)]
  refine runR_of ?_
  rw [(Sb.len false).1]
  refine runR_of ?_
  simp only [ops P]
  have hlen4 : (behindF g).length ≤ 4096 := by omega
  let st : Nat → List Nat × List (List Nat) := fun j => ((behindF g).reverse.take j).foldl (partS (trn g) (g.N.length + 1)) ([], [])
  have hst0 : st 0 = ([], []) := by simp [st]
  have w0 : IntKind.i64.wrap (((behindF g).length : Int) - 1) = ((behindF g).length : Int) - 1 := by
    simp only [IntKind.wrap]; simp [IntKind.signed, IntKind.bits]; omega
  rw [w0]
  have okst : ∀ j, PartsOk (trn g) (min j (behindF g).length) (st j) := fun j => by
    have := parts_ok_fold wt (k := g.N.length + 1) ((behindF g).reverse.take j) (j := 0) (s := ([], [])) ⟨by simp, by simp, Nat.le_refl _, by simp⟩ fun x hx => by
      rw [hNt]; exact hbN x (List.mem_reverse.1 (List.mem_of_mem_take hx))
    simpa using this
  have hfin : st (behindF g).length = (behindF g).reverse.foldl (partS (trn g) (g.N.length + 1)) ([], []) := by
    show ((behindF g).reverse.take (behindF g).length).foldl _ _ = _
    rw [List.take_of_length_le (by simp)]
  refine lp_up (behindF g).length (fun j f h => f 0 = .func (.yield (h3.size + 5 + 1)) #[] #[] ∧ f 1 = .pointer (some ⟨h3.size + 4, 0, none⟩) ∧ f 3 = .int .i64 (((behindF g).length : Int) - 1 - j) ∧ h[h3.size + 6]? = some (.loop r) ∧ RI h3.size (.pointer (some ⟨bt, 0, none⟩)) (trn g) h (st j) ∧ (∀ c, c < h3.size + 6 → c ≠ h3.size → c ≠ h3.size + 3 → h[c]? = h5[c]?)) ⟨rfl, rfl, by simp [rdU], hlp, by rw [hst0]; exact RI0, fun _ _ _ _ => rfl⟩ ?_
  rintro j f h Q' hj ⟨f0, f1, f3', hl, ri, hk⟩ on out
  have hz := ri.size
  unfold backwardf_L1
  simp only [f0, f1, f3']
  refine runR_of ?_
  simp only [ops P]
  by_cases hjl : j < (behindF g).length
  rotate_left
  · have hneg : ¬ ((0 : Int) ≤ ((behindF g).length : Int) - 1 - j) := by omega
    rw [if_neg (by simpa using hneg)]
    refine out _ _ _ (by simp) ?_
    simp only [ex]
    have hjj : j = (behindF g).length := by omega
    refine post_end0 ⟨r, hl, by rw [L.ready]; simp, L.none', ?_⟩
    have hsz : h3.size + 5 + 1 < h.size := by omega
    rw [hjj, hfin] at ri
    have hl6 : h3.size + 5 + 1 = h3.size + 6 := rfl
    have eK : ∀ c, c ≠ h3.size + 6 → (h.setIfInBounds (h3.size + 5 + 1) (.loop { r with state := .exhausted }))[c]? = h[c]? := fun c hc => by rw [Array.getElem?_setIfInBounds_ne (by omega)]
    have eS : (h.setIfInBounds (h3.size + 5 + 1) (.loop { r with state := .exhausted })).size = h.size := by simp
    generalize h.setIfInBounds (h3.size + 5 + 1) (.loop { r with state := .exhausted }) = h6 at *
    have ri6 := ri.keep (h' := h6) (fun c _ h1 _ => eK c h1) (by omega)
    obtain ⟨pv, xs, hpv, p6, hxs⟩ := ri6.parts
    have hxs : xs.map (·.2) = partsF g := hxs
    unfold parts_r2 parts_c1
    simp only [rdU, reduceIte, Nat.reduceEqDiff]
    refine runR_of ?_
    rw [load_run o36 (cell_at hpv (v := pv) rfl)]
    refine runR_of ?_
    have hlenx : xs.length = (partsF g).length := by rw [← hxs, List.length_map]
    refine run_callF hb48 ((sortParts (fun hne => by rw [hlenx]; exact hsf fun e => hne (by rw [e] at hxs; simpa using hxs)) (fun he => hsf0 (by rw [← hxs, he]; rfl)) p6).mono ?_)
    rintro _ h7 ⟨ys, p7, hperm, hup, C7⟩
    have q7 := C7.size
    have k7 : ∀ c, c < h3.size + 7 → h7[c]? = h6[c]? := fun c hc => C7.get c (by omega) fun e => by have := p6.lo c e; omega
    refine runR_of ?_
    rw [load_run o36 (cell_at ((k7 _ (by omega)).trans hpv) (v := pv) rfl)]
    have hD7 : h7[h3.size + 5]? = some (.deferred (some [])) := by
      rw [k7 _ (by omega), eK _ (by omega), hk _ (by omega) (by omega) (by omega)]; exact hdf
    refine ⟨hD7, [pv], rfl, ?_, ys, ?_, ?_⟩
    · refine ⟨by simp; omega, fun c hc => ?_⟩
      rw [Array.getElem?_setIfInBounds_ne (by omega), k7 c (by omega), eK c (by omega), hk c (by omega) (by omega) (by omega), k5 c (by omega), O3.get c (by omega), k2 c hc]
    · refine (p7.mono (by omega)).keepC fun c hc hh => ?_
      have : h3.size + 7 ≤ c := by
        rcases hh with hh | ⟨e, he, hh⟩
        · exact p7.lo c hh
        · exact (p7.each e he).1.lo c hh
      rw [Array.getElem?_setIfInBounds_ne (by omega)]
    · refine ⟨?_, hup⟩
      rw [← hxs]; exact hperm.map _
  · have hpos : (0 : Int) ≤ ((behindF g).length : Int) - 1 - j := by omega
    rw [if_pos (by simpa using hpos)]
    have hix : ((behindF g).length : Int) - 1 - j = (((behindF g).length - 1 - j : Nat) : Int) := by omega
    obtain ⟨x, hx⟩ : ∃ x, (behindF g)[(behindF g).length - 1 - j]? = some x := ⟨_, List.getElem?_eq_getElem (by omega)⟩
    have hxr : (behindF g).reverse[j]? = some x := by
      rw [List.getElem?_reverse hjl, ← hx]
    have hxN : x ∈ (trn g).N := by rw [hNt]; exact hbN x (List.mem_of_getElem? hx)
    obtain ⟨q', a1', _, a2', _, a4'⟩ := Sb.at hx .i64
    have hkx : h[h3.size + 4]? = some (.cells #[bv] 22 (0, 0)) := (hk _ (by omega) (by omega) (by omega)).trans hbx5
    refine runR_of ?_
    rw [load_run o22 (cell_at hkx (v := bv) rfl)]
    refine runR_of ?_
    rw [hix, a1']
    refine runR_of ?_
    rw [load_run o41 (show cell h q' = _ from (by unfold cell; rw [hk _ (by omega) (by omega) (by omega), k5 _ a4']; exact a2'))]
    have hl' : h[h3.size + 5 + 1]? = some (.loop r) := hl
    refine runR_yield2 hl' L.ps ?_
    have hfit := (L.fits.put (d := some 25) (by decide) (I ((behindF g).length - 1 - j))).put (d := some 26) (by decide) (R x)
    refine hroundC hl' L.ready L.none' L.assign L.body hfit (by kernel_rfl) (by kernel_rfl) ?_
    rw [← parts_A_code]
    unfold parts_A_a0
    refine ⟨rfl, hl', ?_⟩
    rw [← parts_B_code]
    have hsz : h3.size + 5 + 1 < h.size := by omega
    have g1 : ∀ c, c ≠ h3.size + 6 → (h.setIfInBounds (h3.size + 5 + 1) (.loop { r with state := .busy }))[c]? = h[c]? := fun c hc => by rw [Array.getElem?_setIfInBounds_ne (by omega)]
    have gl : (h.setIfInBounds (h3.size + 5 + 1) (.loop { r with state := .busy }))[h3.size + 6]? = some (.loop { r with state := .busy }) := get_set_at _ _ hsz
    have s1 : (h.setIfInBounds (h3.size + 5 + 1) (.loop { r with state := .busy })).size = h.size := by simp
    generalize h.setIfInBounds (h3.size + 5 + 1) (.loop { r with state := .busy }) = h6 at *
    have ri6 := ri.keep (h' := h6) (fun c _ h1 _ => g1 c h1) (by omega)
    have okj := okst j
    rw [Nat.min_eq_left (by omega)] at okj
    have hstep : st (j + 1) = partS (trn g) (g.N.length + 1) (st j) x := by
      show ((behindF g).reverse.take (j + 1)).foldl _ _ = _
      rw [take_at hxr, List.foldl_append]; rfl
    have hNN : (trn g).N.length = g.N.length := by rw [hNt]
    refine round_body wt ri6 okj (by omega) hxN (by simp [Hv.put, rdU]) (by simp [Hv.put, rdU]) (by simp [Hv.put, rdU]) (by simp [Hv.put, rdU]) fun f' h7 ri7 k7 q7 => ?_
    rw [hNN, ← hstep] at ri7
    have l7 : h7[h3.size + 5 + 1]? = some (.loop { r with state := .busy }) := (k7 _ (by omega) (by omega) (by omega)).trans gl
    refine ⟨rfl, l7, ?_⟩
    have eK : ∀ c, c ≠ h3.size + 6 → (h7.setIfInBounds (h3.size + 5 + 1) (.loop r))[c]? = h7[c]? := fun c hc => by rw [Array.getElem?_setIfInBounds_ne (by omega)]
    have el : (h7.setIfInBounds (h3.size + 5 + 1) (.loop r))[h3.size + 6]? = some (.loop r) := get_set_at _ _ (by have := lt_of_get l7; omega)
    have eS : (h7.setIfInBounds (h3.size + 5 + 1) (.loop r)).size = h7.size := by simp
    generalize h7.setIfInBounds (h3.size + 5 + 1) (.loop r) = h8 at *
    refine runR_of ?_
    simp only [ops P, bb, if_false]
    refine runR_of ?_
    simp only [ops P]
    refine on _ _ hjl ⟨f0, f1, ?_, el, ri7.keep (fun c _ h1 _ => eK c h1) (by omega), fun c hc h1 h2 => by rw [eK c (by omega), k7 c (by omega) h1 h2, g1 c (by omega), hk c hc h1 h2]⟩
    show Value.int .i64 (IntKind.i64.wrap ((((behindF g).length - 1 - j : Nat) : Int) - 1)) = _
    congr 1
    have : IntKind.i64.wrap ((((behindF g).length - 1 - j : Nat) : Int) - 1) = (((behindF g).length - 1 - j : Nat) : Int) - 1 := by
      simp only [IntKind.wrap]; simp [IntKind.signed, IntKind.bits]; omega
    rw [this]; omega
end Go.Proofs.G
