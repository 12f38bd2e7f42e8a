import Derived.Test.YtadfdknlogceoaaKr
set_option linter.all false
open Go Go.Hv
set_option maxRecDepth 100000
namespace Go.Proofs.G
variable {α : Type} [Inhabited α] {val : α → Value} {ls : α → α → Bool}
theorem siftDownF_spec {h0 : Heap} {b cap : Nat} {d0 : Array α} (cm : Cmp val ls b h0) (D0 : DtV val h0 b cap d0) {lo hi first : Nat} (hlo : lo ≤ hi) (hh : first + hi ≤ d0.size) (hs : d0.size < 1152921504606846976) :
    HCalls P 112 #[dv b d0.size cap, I lo, I hi, I first, cf] h0 (SortsV val b cap h0 (Sort.siftDown ls hi first lo d0)) := by
  refine siftDownF_ok ?_
  unfold siftDownF_c0
  refine lp_of (fun k f h => ∃ root d, k = hi - root ∧ (f 0 = dv b d0.size cap ∧ f 4 = cf) ∧ f 2 = I hi ∧ f 3 = I first ∧ f 10 = I root ∧ root ≤ hi ∧ d.size = d0.size ∧ Sort.siftDown ls hi first root d = Sort.siftDown ls hi first lo d0 ∧ DtV val h b cap d ∧ Chg (fun c => c = b) h0 h) _ ⟨lo, d0, rfl, ⟨rfl, rfl⟩, rfl, rfl, rfl, hlo, rfl, rfl, D0, Chg.refl _ _⟩ ?_
  rintro k f h Q' ⟨root, d, rfl, f0, f2, f3, f8, hr, hd, hE, D, C⟩ on out
  unfold siftDownF_L1
  simp only [f0, f2, f3, f8, ops P, opsf P]
  have e1 : IntKind.i64.wrap (2 * (root : Int)) = ((2 * root : Nat) : Int) := wI (n := 2 * root) (by omega)
  have e2 : IntKind.i64.wrap (((2 * root : Nat) : Int) + 1) = ((2 * root + 1 : Nat) : Int) := wInc (by omega)
  have e3 : IntKind.i64.wrap (((2 * root + 1 : Nat) : Int) + 1) = ((2 * root + 1 + 1 : Nat) : Int) := wInc (by omega)
  rw [e1, e2, ge_R]
  rw [Sort.siftDown] at hE
  by_cases h1 : 2 * root + 1 ≥ hi
  · rw [if_pos (by simpa using h1)]
    rw [dif_pos h1] at hE
    refine out _ _ _ (by simp) ?_
    simp only [ex]
    refine post_end0 ⟨rfl, ?_, C⟩
    rw [← hE]; exact D
  · rw [if_neg (by simpa using h1)]
    rw [dif_neg h1] at hE
    have wa : ∀ z : Nat, z < hi → IntKind.i64.wrap ((first : Int) + (z : Int)) = ((first + z : Nat) : Int) := fun z hz => wAdd (by omega)
    -- the second half: the child that is the greater
    have fin : ∀ (f' : F) (ch : Nat), (f' 0 = dv b d0.size cap ∧ f' 4 = cf) → f' 2 = I hi → f' 3 = I first → f' 10 = I root → f' 11 = I ch → ch < hi → root < ch → (if (!ls d[first + root]! d[first + ch]!) = true then d else Sort.siftDown ls hi first ch (Sort.swp d (first + root) (first + ch))) = Sort.siftDown ls hi first lo d0 → siftDownF_c2 Q' f' h := by
      intro f' ch g0 g2 g3 g8 g9 hc hrc hE
      unfold siftDownF_c2
      have i1 := ixV (b := b) (n := d0.size) (cap := cap) (i := first + root) (by omega) .i64
      have i2 := ixV (b := b) (n := d0.size) (cap := cap) (i := first + ch) (by omega) .i64
      have l1 := D.ld (i := first + root) (by omega)
      have l2 := D.ld (i := first + ch) (by omega)
      have w1 := wa root (by omega)
      have w2 := wa ch hc
      simp only [g0, g3, g8, g9, ops P, opsf P, w1, w2, i1, i2, l1, l2]
      refine cm.run (by first | assumption | exact Chg.refl _ _) _ _ fun _ => ?_
      simp only [ops P, opsf P]
      by_cases hl : ls d[first + root]! d[first + ch]! = true
      · rw [if_neg (by simp [hl])]
        rw [if_neg (by simp [hl])] at hE
        simp only [ops P, opsf P, w1, w2, i1, i2, l1, l2]
        refine D.st (by omega) _ (cm.one _) fun h1 D1 C1 s1 => ?_
        refine D1.st (by simp; omega) _ (cm.one _) fun h2 D2 C2 s2 => ?_
        refine on _ _ _ ?_ ⟨ch, Sort.swp d (first + root) (first + ch), rfl, g0, g2, g3, rfl, by omega, swp_szV.trans hd, hE, D2, (C.trans C1).trans C2⟩
        omega
      · rw [if_pos (by simp [hl])]
        rw [if_pos (by simp [hl])] at hE
        refine out _ _ _ (by simp) ?_
        simp only [ex]
        refine post_ret0 ⟨rfl, ?_, C⟩
        rw [← hE]; exact D
    simp only [ops P, opsf P, e3, lt_R]
    by_cases h2 : 2 * root + 1 + 1 < hi
    · have i1 := ixV (b := b) (n := d0.size) (cap := cap) (i := first + (2 * root + 1)) (by omega) .i64
      have i2 := ixV (b := b) (n := d0.size) (cap := cap) (i := first + (2 * root + 1) + 1) (by omega) .i64
      have l1 := D.ld (i := first + (2 * root + 1)) (by omega)
      have l2 := D.ld (i := first + (2 * root + 1) + 1) (by omega)
      have w1 := wa (2 * root + 1) (by omega)
      have w2 : IntKind.i64.wrap (((first + (2 * root + 1) : Nat) : Int) + 1) = ((first + (2 * root + 1) + 1 : Nat) : Int) := wInc (by omega)
      simp only [h2, decide_true, bb, ops P, opsf P, w1, w2, i1, i2, l1, l2]
      refine cm.run (by first | assumption | exact Chg.refl _ _) _ _ fun _ => ?_
      simp only [ops P, opsf P, if_true]
      by_cases hl : ls d[first + (2 * root + 1)]! d[first + (2 * root + 1) + 1]! = true
      · rw [if_pos hl]
        try simp only [ops P, opsf P, e3]
        refine fin _ (2 * root + 1 + 1) f0 f2 f3 f8 rfl h2 (by omega) ?_
        rw [if_pos (by simp [hl, h2]), dif_pos h2] at hE
        exact hE
      · rw [if_neg hl]
        refine fin _ (2 * root + 1) f0 f2 f3 f8 rfl (by omega) (by omega) ?_
        rw [if_neg (by simp [hl])] at hE
        exact hE
    · simp only [h2, decide_false, bb, ops P, opsf P, if_false]
      refine fin _ (2 * root + 1) f0 f2 f3 f8 rfl (by omega) (by omega) ?_
      rw [if_neg (by simp [h2])] at hE
      exact hE
theorem hb112 : hasBody P 112 = true := by kernel_rfl
theorem siftDownF_sz {hi first : Nat} : ∀ (n root : Nat) (d : Array α), hi - root ≤ n → (Sort.siftDown ls hi first root d).size = d.size := by
  intro n
  induction n with
  | zero => intro root d hn; rw [Sort.siftDown, dif_pos (by omega)]
  | succ n ih =>
    intro root d hn
    rw [Sort.siftDown]
    split
    · rfl
    · split
      · split
        · rfl
        · split
          · rw [ih _ _ (by omega), swp_szV]
          · rfl
      · split
        · rfl
        · rw [ih _ _ (by omega), swp_szV]
theorem heapSortF_spec {h0 : Heap} {b cap : Nat} {d0 : Array α} (cm : Cmp val ls b h0) (D0 : DtV val h0 b cap d0) {x y : Nat} (hxy : x < y) (hy : y ≤ d0.size) (hs : d0.size < 1152921504606846976) :
    HCalls P 98 #[dv b d0.size cap, I x, I y, cf] h0 (SortsV val b cap h0 (Sort.heapSort ls d0 x y)) := by
  refine heapSortF_ok ?_
  unfold heapSortF_c0
  have e1 : IntKind.i64.wrap ((y : Int) - x) = ((y - x : Nat) : Int) := by rw [show (y : Int) - x = ((y - x : Nat) : Int) by omega]; exact wI (by omega)
  have e2 : IntKind.i64.wrap (((y - x : Nat) : Int) - 1) = ((y - x - 1 : Nat) : Int) := wDec (by omega) (by omega)
  have e3 : IntKind.i64.wrap (((y - x - 1 : Nat) : Int).tdiv 2) = (((y - x - 1) / 2 : Nat) : Int) := by
    rw [Int.tdiv_eq_ediv_of_nonneg (by omega)]
    exact wI (n := (y - x - 1) / 2) (by omega)
  simp only [fr, ops P, opsf P, quo_run (show (2 : Int) ≠ 0 by decide)]
  rw [e1, e2, e3]
  refine lp_of (fun k f h => ∃ d, (f 0 = dv b d0.size cap ∧ f 3 = cf) ∧ f 8 = I x ∧ f 9 = I 0 ∧ f 10 = I (y - x) ∧ f 11 = .int .i64 ((k : Int) - 1) ∧ k ≤ y - x ∧ d.size = d0.size ∧ Sort.heapPop ls x (y - x) (Sort.heapBuild ls (y - x) x k d) = Sort.heapSort ls d0 x y ∧ DtV val h b cap d ∧ Chg (fun c => c = b) h0 h) ((y - x - 1) / 2 + 1) ⟨d0, ⟨rfl, rfl⟩, rfl, rfl, rfl, ?_, by omega, rfl, rfl, D0, Chg.refl _ _⟩ ?_
  · show (Value.int .i64 _) = _
    congr 1; omega
  rintro k f h Q' ⟨d, f0, f6, f7, f8, f9, hk, hd, hE, D, C⟩ on out
  unfold heapSortF_L3
  simp only [f0, f6, f8, f9, ops P, opsf P]
  cases k with
  | zero =>
    rw [if_neg (by simp)]
    refine out _ _ _ (by simp) ?_
    simp only [ex]
    unfold heapSortF_c1
    have e4 : IntKind.i64.wrap (((y - x : Nat) : Int) - 1) = ((y - x : Nat) : Int) - 1 := by rw [e2]; omega
    show run P (X.bin .sub 3 false true (f 10) (Value.int .i64 1)) _ h
    simp only [f8, ops P, opsf P, e4]
    refine lp_of (fun k f h => ∃ d, (f 0 = dv b d0.size cap ∧ f 3 = cf) ∧ f 8 = I x ∧ f 12 = .int .i64 ((k : Int) - 1) ∧ f 9 = I 0 ∧ k ≤ y - x ∧ d.size = d0.size ∧ Sort.heapPop ls x k d = Sort.heapSort ls d0 x y ∧ DtV val h b cap d ∧ Chg (fun c => c = b) h0 h) (y - x) ⟨d, f0, f6, rfl, f7, Nat.le_refl _, hd, hE, D, C⟩ ?_
    rintro k f h Q2 ⟨d, f0, f6, f10, f7, hk, hd, hE, D, C⟩ on2 out2
    unfold heapSortF_L2
    simp only [f0, f6, f7, f10, ops P, opsf P]
    cases k with
    | zero =>
      rw [if_neg (by simp)]
      refine out2 _ _ _ (by simp) ?_
      simp only [ex]
      refine post_end0 ⟨rfl, ?_, C⟩
      rw [← hE]; exact D
    | succ k =>
      rw [show ((k + 1 : Nat) : Int) - 1 = (k : Int) by omega]
      rw [if_pos (by simp)]
      have i1 := ixV (b := b) (n := d0.size) (cap := cap) (i := x) (by omega) .i64
      have i2 := ixV (b := b) (n := d0.size) (cap := cap) (i := x + k) (by omega) .i64
      have l1 := D.ld (i := x) (by omega)
      have l2 := D.ld (i := x + k) (by omega)
      have w1 : IntKind.i64.wrap ((x : Int) + (k : Int)) = ((x + k : Nat) : Int) := wAdd (by omega)
      simp only [ops P, opsf P, w1, i1, i2, l1, l2]
      refine D.st (by omega) _ (cm.one _) fun h1 D1 C1 s1 => ?_
      refine D1.st (by simp; omega) _ (cm.one _) fun h2 D2 C2 s2 => ?_
      refine run_callF hb112 ?_
      have D2' : DtV val h2 b cap (Sort.swp d x (x + k)) := D2
      have := siftDownF_spec (cm.at ((C.trans C1).trans C2)) D2' (lo := 0) (hi := k) (first := x) (by omega) (by rw [swp_szV]; omega) (by rw [swp_szV]; omega)
      rw [swp_szV, hd] at this
      refine this.mono ?_
      rintro _ h3 ⟨rfl, D3, C3⟩
      try simp only [ops P, opsf P]
      refine on2 k _ _ (Nat.lt_succ_self k) ⟨Sort.siftDown ls k x 0 (Sort.swp d x (x + k)), f0, f6, ?_, f7, by omega, (siftDownF_sz _ _ _ (Nat.le_refl _)).trans (swp_szV.trans hd), hE, D3, ((C.trans C1).trans C2).trans C3⟩
      show (Value.int .i64 _) = _
      congr 1
      exact wI' (by omega) (by omega)
  | succ k =>
    rw [show ((k + 1 : Nat) : Int) - 1 = (k : Int) by omega]
    rw [if_pos (by simp)]
    refine run_callF hb112 ?_
    have := siftDownF_spec (cm.at C) D (lo := k) (hi := y - x) (first := x) (by omega) (by omega) (by omega)
    rw [hd] at this
    refine this.mono ?_
    rintro _ h1 ⟨rfl, D1, C1⟩
    try simp only [ops P, opsf P]
    refine on k _ _ (Nat.lt_succ_self k) ⟨Sort.siftDown ls (y - x) x k d, f0, f6, f7, f8, ?_, by omega, (siftDownF_sz _ _ _ (Nat.le_refl _)).trans hd, hE, D1, C.trans C1⟩
    show (Value.int .i64 _) = _
    congr 1
    exact wI' (by omega) (by omega)
end Go.Proofs.G
open Go Go.Hv
set_option maxRecDepth 100000
namespace Go.Proofs.G
variable {α : Type} [Inhabited α] {val : α → Value} {ls : α → α → Bool}
theorem scanSortedF_rng {d : Array α} {b : Nat} : ∀ (n i : Nat), b - i ≤ n → i ≤ b → i ≤ Sort.scanSorted ls d b i ∧ Sort.scanSorted ls d b i ≤ b := by
  intro n
  induction n with
  | zero => intro i h1 h2; rw [Sort.scanSorted, if_neg (by simp; omega)]; omega
  | succ n ih =>
    intro i h1 h2
    rw [Sort.scanSorted]
    split
    · rename_i hc
      simp at hc
      have := ih (i + 1) (by omega) (by omega)
      omega
    · omega
theorem shiftDownF_sz : ∀ (j : Nat) (d : Array α), (Sort.shiftDown ls j d).size = d.size := by
  intro j
  induction j with
  | zero => intro d; rfl
  | succ j ih => intro d; rw [Sort.shiftDown]; split <;> simp [ih, swp_szV]
theorem partInsF_spec {h0 : Heap} {b cap : Nat} {d0 : Array α} (cm : Cmp val ls b h0) (D0 : DtV val h0 b cap d0) {x y : Nat} (hxy : x < y) (hy : y ≤ d0.size) (hs : d0.size < 1152921504606846976) :
    HCalls P 102 #[dv b d0.size cap, I x, I y, cf] h0 fun v h' => v = .bool (Sort.partialInsertionSort ls d0 x y).2 ∧ DtV val h' b cap (Sort.partialInsertionSort ls d0 x y).1 ∧ Chg (fun c => c = b) h0 h' := by
  refine partInsF_ok ?_
  unfold partInsF_c0
  simp only [fr, ops P, opsf P]
  rw [wInc (by omega)]
  generalize hG : Sort.partialInsertionSort ls d0 x y = G
  refine lp_of (fun k f h => ∃ i d, (f 0 = dv b d0.size cap ∧ f 3 = cf) ∧ f 1 = I x ∧ f 2 = I y ∧ f 9 = I i ∧ f 10 = I (5 - k) ∧ k ≤ 5 ∧ x + 1 ≤ i ∧ i ≤ y ∧ d.size = d0.size ∧ Sort.partialIns ls x y k i d = G ∧ DtV val h b cap d ∧ Chg (fun c => c = b) h0 h) 5 ⟨x + 1, d0, ⟨rfl, rfl⟩, rfl, rfl, rfl, rfl, Nat.le_refl _, Nat.le_refl _, hxy, rfl, hG, D0, Chg.refl _ _⟩ ?_
  rintro k f h Q' ⟨i, d, f0, f1, f2, f7, f8, hk, hi, hiy, hd, hE, D, C⟩ on out
  unfold partInsF_L2
  simp only [f8, ops P, opsf P, lt_R]
  cases k with
  | zero =>
    rw [if_neg (by simp)]
    refine out _ _ _ (by simp) ?_
    simp only [ex]
    unfold partInsF_c1
    rw [Sort.partialIns] at hE
    exact post_ret1 ⟨by rw [← hE]; rfl, by rw [← hE]; exact D, C⟩
  | succ k =>
    rw [if_pos (by simp; omega)]
    rw [Sort.partialIns] at hE
    have w8 : IntKind.i64.wrap (((5 - (k + 1) : Nat) : Int) + 1) = ((5 - k : Nat) : Int) := by rw [show 5 - k = 5 - (k + 1) + 1 by omega]; exact wInc (by omega)
    refine lp_of (fun m f h' => ∃ j, m = y - j ∧ (f 0 = dv b d0.size cap ∧ f 3 = cf) ∧ f 1 = I x ∧ f 2 = I y ∧ f 9 = I j ∧ f 10 = I (5 - (k + 1)) ∧ i ≤ j ∧ j ≤ y ∧ Sort.scanSorted ls d y j = Sort.scanSorted ls d y i ∧ h = h') _ ⟨i, rfl, f0, f1, f2, f7, f8, Nat.le_refl _, hiy, rfl, rfl⟩ ?_
    rintro m f _ Q2 ⟨j, rfl, f0, f1, f2, f7, f8, hj, hjy, hjE, rfl⟩ on2 out2
    -- behind the scan
    have behind : ∀ f' : F, (f' 0 = dv b d0.size cap ∧ f' 3 = cf) → f' 1 = I x → f' 2 = I y → f' 9 = I j → f' 10 = I (5 - (k + 1)) → Sort.scanSorted ls d y i = j → partInsF_c4 Q' f' h := by
      intro f' g0 g1 g2 g7 g8 hj2
      rw [hj2] at hE
      unfold partInsF_c4
      have c3 : ∀ (f' : F) (h' : Heap) (d' : Array α), (f' 0 = dv b d0.size cap ∧ f' 3 = cf) → f' 1 = I x → f' 2 = I y → f' 9 = I j → f' 10 = I (5 - (k + 1)) → d'.size = d0.size → Sort.partialIns ls x y k j d' = G → DtV val h' b cap d' → Chg (fun c => c = b) h0 h' → partInsF_c3 Q' f' h' := by
        intro f' h' d' g0 g1 g2 g7 g8 hd' hE' D' C'
        unfold partInsF_c3
        simp only [g8, ops P, opsf P]
        exact on k _ _ (Nat.lt_succ_self k) ⟨j, d', g0, g1, g2, g7, congrArg _ w8, by omega, by omega, hjy, hd', hE', D', C'⟩
      simp only [g0, g1, g2, g7, ops P, opsf P, beq_R, lt_R]
      by_cases hjb : j = y
      · rw [if_pos (by simpa using hjb)]
        rw [if_pos hjb] at hE
        refine out _ _ _ (by simp) ?_
        simp only [ex]
        exact post_ret1 ⟨by rw [← hE]; rfl, by rw [← hE]; exact D, C⟩
      · rw [if_neg (by simpa using hjb)]
        rw [if_neg hjb] at hE
        have e1 : IntKind.i64.wrap ((y : Int) - x) = ((y - x : Nat) : Int) := by rw [show (y : Int) - x = ((y - x : Nat) : Int) by omega]; exact wI (by omega)
        rw [e1]
        by_cases h50 : y - x < 50
        · rw [if_pos (by simp; omega)]
          rw [if_pos h50] at hE
          refine out _ _ _ (by simp) ?_
          simp only [ex]
          exact post_ret1 ⟨by rw [← hE]; rfl, by rw [← hE]; exact D, C⟩
        · rw [if_neg (by simp; omega)]
          rw [if_neg h50] at hE
          have i1 := ixV (b := b) (n := d0.size) (cap := cap) (i := j) (by omega) .i64
          have i2 := ixV (b := b) (n := d0.size) (cap := cap) (i := j - 1) (by omega) .i64
          have l1 := D.ld (i := j) (by omega)
          have l2 := D.ld (i := j - 1) (by omega)
          have w1 : IntKind.i64.wrap ((j : Int) - 1) = ((j - 1 : Nat) : Int) := wDec (by omega) (by omega)
          simp only [ops P, opsf P, w1, i1, i2, l1, l2]
          refine D.st (by omega) _ (cm.one _) fun h1 D1 C1 s1 => ?_
          refine D1.st (by simp; omega) _ (cm.one _) fun h2 D2 C2 s2 => ?_
          have D2 : DtV val h2 b cap (Sort.swp d j (j - 1)) := D2
          have C2 := (C.trans C1).trans C2
          have hd2 : (Sort.swp d j (j - 1)).size = d0.size := swp_szV.trans hd
          dsimp only at hE
          generalize Sort.swp d j (j - 1) = d2 at D2 hd2 hE
          have e2 : IntKind.i64.wrap ((j : Int) - x) = ((j - x : Nat) : Int) := by rw [show (j : Int) - x = ((j - x : Nat) : Int) by omega]; exact wI (by omega)
          have e3 : IntKind.i64.wrap ((y : Int) - j) = ((y - j : Nat) : Int) := by rw [show (y : Int) - j = ((y - j : Nat) : Int) by omega]; exact wI (by omega)
          -- upwards
          have up : ∀ (f' : F) (h' : Heap) (d' : Array α), (f' 0 = dv b d0.size cap ∧ f' 3 = cf) → f' 1 = I x → f' 2 = I y → f' 9 = I j → f' 10 = I (5 - (k + 1)) → d'.size = d0.size → Sort.partialIns ls x y k j (if y - j ≥ 2 then Sort.shiftUp ls y (j + 1) d' else d') = G → DtV val h' b cap d' → Chg (fun c => c = b) h0 h' → partInsF_c5 Q' f' h' := by
            intro f' h' d' g0 g1 g2 g7 g8 hd' hE' D' C'
            unfold partInsF_c5
            simp only [g2, g7, ops P, opsf P, e3]
            by_cases hu : y - j ≥ 2
            · rw [if_pos (by simp; omega)]
              rw [if_pos hu] at hE'
              rw [wInc (by omega)]
              refine lp_of (fun m f h => ∃ t d, m = y - t ∧ (f 0 = dv b d0.size cap ∧ f 3 = cf) ∧ f 1 = I x ∧ f 2 = I y ∧ f 9 = I j ∧ f 10 = I (5 - (k + 1)) ∧ f 12 = I t ∧ j + 1 ≤ t ∧ t ≤ y ∧ d.size = d0.size ∧ Sort.shiftUp ls y t d = Sort.shiftUp ls y (j + 1) d' ∧ DtV val h b cap d ∧ Chg (fun c => c = b) h0 h) _ ⟨j + 1, d', rfl, g0, g1, g2, g7, g8, rfl, Nat.le_refl _, by omega, hd', rfl, D', C'⟩ ?_
              rintro m f h Q3 ⟨t, d, rfl, f0, f1, f2, f7, f8, f10, ht, hty, hd, hE2, D, C⟩ on3 out3
              unfold partInsF_L6
              simp only [f0, f2, f10, ops P, opsf P, lt_R]
              rw [Sort.shiftUp] at hE2
              by_cases h1 : t < y
              · rw [if_pos (by simpa using h1)]
                rw [if_pos h1] at hE2
                have i1 := ixV (b := b) (n := d0.size) (cap := cap) (i := t) (by omega) .i64
                have i2 := ixV (b := b) (n := d0.size) (cap := cap) (i := t - 1) (by omega) .i64
                have l1 := D.ld (i := t) (by omega)
                have l2 := D.ld (i := t - 1) (by omega)
                have w1 : IntKind.i64.wrap ((t : Int) - 1) = ((t - 1 : Nat) : Int) := wDec (by omega) (by omega)
                simp only [ops P, opsf P, w1, i1, i2, l1, l2]
                refine cm.run (by first | assumption | exact Chg.refl _ _) _ _ fun _ => ?_
                simp only [ops P, opsf P]
                by_cases hl : ls d[t]! d[t - 1]! = true
                · rw [if_neg (by simp [hl])]
                  rw [if_neg (by simp [hl])] at hE2
                  simp only [ops P, opsf P, w1, i1, i2, l1, l2]
                  refine D.st (by omega) _ (cm.one _) fun h1 D1 C1 s1 => ?_
                  refine D1.st (by simp; omega) _ (cm.one _) fun h2 D2 C2 s2 => ?_
                  try simp only [ops P, opsf P]
                  refine on3 _ _ _ ?_ ⟨t + 1, Sort.swp d t (t - 1), rfl, f0, f1, f2, f7, f8, congrArg _ (wInc (by omega)), by omega, by omega, swp_szV.trans hd, hE2, D2, (C.trans C1).trans C2⟩
                  omega
                · rw [if_pos (by simp [hl])]
                  rw [if_pos (by simp [hl])] at hE2
                  refine out3 _ _ _ (by simp) ?_
                  simp only [ex]
                  exact c3 _ _ d f0 f1 f2 f7 f8 hd (by rw [hE2]; exact hE') D C
              · rw [if_neg (by simpa using h1)]
                rw [if_neg h1] at hE2
                refine out3 _ _ _ (by simp) ?_
                simp only [ex]
                exact c3 _ _ d f0 f1 f2 f7 f8 hd (by rw [hE2]; exact hE') D C
            · rw [if_neg (by simp; omega)]
              rw [if_neg hu] at hE'
              exact c3 _ _ d' g0 g1 g2 g7 g8 hd' hE' D' C'
          try simp only [ops P, opsf P, e2]
          by_cases hu : j - x ≥ 2
          · rw [if_pos (by simp; omega)]
            rw [if_pos hu] at hE
            try rw [w1]
            refine lp_of (fun m f h => ∃ d, (f 0 = dv b d0.size cap ∧ f 3 = cf) ∧ f 1 = I x ∧ f 2 = I y ∧ f 9 = I j ∧ f 10 = I (5 - (k + 1)) ∧ f 11 = I m ∧ m + 1 ≤ j ∧ d.size = d0.size ∧ Sort.shiftDown ls m d = Sort.shiftDown ls (j - 1) d2 ∧ DtV val h b cap d ∧ Chg (fun c => c = b) h0 h) (j - 1) ⟨d2, g0, g1, g2, g7, g8, rfl, by omega, hd2, rfl, D2, C2⟩ ?_
            rintro m f h Q3 ⟨d, f0, f1, f2, f7, f8, f9, hm, hd, hE2, D, C⟩ on3 out3
            unfold partInsF_L7
            simp only [f0, f9, ops P, opsf P]
            cases m with
            | zero =>
              rw [if_neg (by simp)]
              refine out3 _ _ _ (by simp) ?_
              simp only [ex]
              rw [Sort.shiftDown] at hE2
              exact up _ _ d f0 f1 f2 f7 f8 hd (by rw [hE2]; exact hE) D C
            | succ m =>
              rw [if_pos (by simp; omega)]
              rw [Sort.shiftDown] at hE2
              have i1 := ixV (b := b) (n := d0.size) (cap := cap) (i := m + 1) (by omega) .i64
              have i2 := ixV (b := b) (n := d0.size) (cap := cap) (i := m) (by omega) .i64
              have l1 := D.ld (i := m + 1) (by omega)
              have l2 := D.ld (i := m) (by omega)
              have w1 : IntKind.i64.wrap (((m + 1 : Nat) : Int) - 1) = (m : Int) := wDec (n := m + 1) (by omega) (by omega)
              simp only [ops P, opsf P, w1, i1, i2, l1, l2]
              refine cm.run (by first | assumption | exact Chg.refl _ _) _ _ fun _ => ?_
              simp only [ops P, opsf P]
              by_cases hl : ls d[m + 1]! d[m]! = true
              · rw [if_neg (by simp [hl])]
                rw [if_neg (by simp [hl])] at hE2
                simp only [ops P, opsf P, w1, i1, i2, l1, l2]
                refine D.st (by omega) _ (cm.one _) fun h1 D1 C1 s1 => ?_
                refine D1.st (by simp; omega) _ (cm.one _) fun h2 D2 C2 s2 => ?_
                try simp only [ops P, opsf P, w1]
                exact on3 m _ _ (Nat.lt_succ_self m) ⟨Sort.swp d (m + 1) m, f0, f1, f2, f7, f8, rfl, by omega, swp_szV.trans hd, hE2, D2, (C.trans C1).trans C2⟩
              · rw [if_pos (by simp [hl])]
                rw [if_pos (by simp [hl])] at hE2
                refine out3 _ _ _ (by simp) ?_
                simp only [ex]
                exact up _ _ d f0 f1 f2 f7 f8 hd (by rw [hE2]; exact hE) D C
          · rw [if_neg (by simp; omega)]
            rw [if_neg hu] at hE
            exact up _ _ d2 g0 g1 g2 g7 g8 hd2 hE D2 C2
    unfold partInsF_L8
    simp only [f0, f2, f7, ops P, opsf P, lt_R]
    rw [Sort.scanSorted] at hjE
    by_cases hjy2 : j < y
    · have i1 := ixV (b := b) (n := d0.size) (cap := cap) (i := j) (by omega) .i64
      have i2 := ixV (b := b) (n := d0.size) (cap := cap) (i := j - 1) (by omega) .i64
      have l1 := D.ld (i := j) (by omega)
      have l2 := D.ld (i := j - 1) (by omega)
      have w1 : IntKind.i64.wrap ((j : Int) - 1) = ((j - 1 : Nat) : Int) := wDec (by omega) (by omega)
      simp only [hjy2, decide_true, bb, ops P, opsf P, w1, i1, i2, l1, l2]
      refine cm.run (by first | assumption | exact Chg.refl _ _) _ _ fun _ => ?_
      simp only [ops P, opsf P, if_true]
      by_cases hl : ls d[j]! d[j - 1]! = true
      · rw [if_neg (by simp [hl])] at hjE ⊢
        refine out2 _ _ _ (by simp) ?_
        simp only [ex]
        exact behind _ f0 f1 f2 f7 f8 hjE.symm
      · rw [if_pos (by simp [hl, hjy2])] at hjE
        rw [if_pos (by simp [hl])]
        refine on2 _ _ _ ?_ ⟨j + 1, rfl, f0, f1, f2, congrArg _ (wInc (by omega)), f8, by omega, by omega, hjE, rfl⟩
        omega
    · simp only [hjy2, decide_false, bb, ops P, opsf P, if_false]
      rw [if_neg (by simp [hjy2])] at hjE
      refine out2 _ _ _ (by simp) ?_
      simp only [ex]
      exact behind _ f0 f1 f2 f7 f8 hjE.symm
end Go.Proofs.G
open Go Go.Hv
set_option maxRecDepth 100000
namespace Go.Proofs.G
variable {α : Type} [Inhabited α] {val : α → Value} {ls : α → α → Bool}
theorem partF_up0 {Q : Exit → F → Heap → Prop} {f : F} {h : Heap} {b cap : Nat} {d : Array α} {a i j : Nat} (cm : Cmp val ls b h) (D : DtV val h b cap d) (f0 : (f 0 = dv b d.size cap ∧ f 4 = cf)) (f1 : f 1 = I a) (fi : f 12 = I i) (fj : f 13 = I j) (ha : a < d.size) (hj : j < d.size) (hs : d.size < 1152921504606846976)
    (hk : ∀ f' : F, (f' 0 = dv b d.size cap ∧ f' 4 = cf) → f' 1 = I a → f' 12 = I (Sort.scanUp (fun x => ls x d[a]!) d j i) → f' 13 = I j → Q (.exit 0) f' h) : lp partF_L10 Q f h := by
  refine lp_of (fun k f h' => ∃ t, k = j + 1 - t ∧ (f 0 = dv b d.size cap ∧ f 4 = cf) ∧ f 1 = I a ∧ f 12 = I t ∧ f 13 = I j ∧ Sort.scanUp (fun x => ls x d[a]!) d j t = Sort.scanUp (fun x => ls x d[a]!) d j i ∧ h = h') _ ⟨i, rfl, f0, f1, fi, fj, rfl, rfl⟩ ?_
  rintro k f _ Q' ⟨t, rfl, f0, f1, fi, fj, hE, rfl⟩ on out
  unfold partF_L10
  simp only [f0, f1, fi, fj, ops P, opsf P, le_R]
  rw [Sort.scanUp] at hE
  by_cases ht : t ≤ j
  · have i1 := ixV (b := b) (n := d.size) (cap := cap) (i := t) (by omega) .i64
    have i2 := ixV (b := b) (n := d.size) (cap := cap) (i := a) (by omega) .i64
    have l1 := D.ld (i := t) (by omega)
    have l2 := D.ld (i := a) (by omega)
    simp only [ht, decide_true, bb, ops P, opsf P, i1, i2, l1, l2]
    refine cm.run (by first | assumption | exact Chg.refl _ _) _ _ fun _ => ?_
    simp only [ops P, opsf P, if_true]
    by_cases hl : ls d[t]! d[a]! = true
    · simp only [hl, Bool.not_true, Bool.not_false, if_true, if_false, ht, decide_true, Bool.and_true, Bool.true_and, Bool.false_and, Bool.and_false, bb, reduceIte] at hE ⊢
      refine on _ _ _ ?_ ⟨t + 1, rfl, f0, f1, congrArg _ (wInc (by omega)), fj, hE, rfl⟩
      omega
    · have hl : ls d[t]! d[a]! = false := by simpa using hl
      simp only [hl, Bool.not_true, Bool.not_false, if_true, if_false, ht, decide_true, Bool.and_true, Bool.true_and, Bool.false_and, Bool.and_false, bb, reduceIte] at hE ⊢
      refine out _ _ _ (by simp) ?_
      exact hk _ f0 f1 (by rw [← hE]; exact fi) fj
  · simp only [ht, decide_false, bb, ops P, opsf P, if_false, Bool.false_and, reduceIte] at hE ⊢
    refine out _ _ _ (by simp) ?_
    exact hk _ f0 f1 (by rw [← hE]; exact fi) fj
theorem partF_up1 {Q : Exit → F → Heap → Prop} {f : F} {h : Heap} {b cap : Nat} {d : Array α} {a i j : Nat} (cm : Cmp val ls b h) (D : DtV val h b cap d) (f0 : (f 0 = dv b d.size cap ∧ f 4 = cf)) (f1 : f 1 = I a) (fi : f 12 = I i) (fj : f 13 = I j) (ha : a < d.size) (hj : j < d.size) (hs : d.size < 1152921504606846976)
    (hk : ∀ f' : F, (f' 0 = dv b d.size cap ∧ f' 4 = cf) → f' 1 = I a → f' 12 = I (Sort.scanUp (fun x => ls x d[a]!) d j i) → f' 13 = I j → Q (.exit 6) f' h) : lp partF_L8 Q f h := by
  refine lp_of (fun k f h' => ∃ t, k = j + 1 - t ∧ (f 0 = dv b d.size cap ∧ f 4 = cf) ∧ f 1 = I a ∧ f 12 = I t ∧ f 13 = I j ∧ Sort.scanUp (fun x => ls x d[a]!) d j t = Sort.scanUp (fun x => ls x d[a]!) d j i ∧ h = h') _ ⟨i, rfl, f0, f1, fi, fj, rfl, rfl⟩ ?_
  rintro k f _ Q' ⟨t, rfl, f0, f1, fi, fj, hE, rfl⟩ on out
  unfold partF_L8
  simp only [f0, f1, fi, fj, ops P, opsf P, le_R]
  rw [Sort.scanUp] at hE
  by_cases ht : t ≤ j
  · have i1 := ixV (b := b) (n := d.size) (cap := cap) (i := t) (by omega) .i64
    have i2 := ixV (b := b) (n := d.size) (cap := cap) (i := a) (by omega) .i64
    have l1 := D.ld (i := t) (by omega)
    have l2 := D.ld (i := a) (by omega)
    simp only [ht, decide_true, bb, ops P, opsf P, i1, i2, l1, l2]
    refine cm.run (by first | assumption | exact Chg.refl _ _) _ _ fun _ => ?_
    simp only [ops P, opsf P, if_true]
    by_cases hl : ls d[t]! d[a]! = true
    · simp only [hl, Bool.not_true, Bool.not_false, if_true, if_false, ht, decide_true, Bool.and_true, Bool.true_and, Bool.false_and, Bool.and_false, bb, reduceIte] at hE ⊢
      refine on _ _ _ ?_ ⟨t + 1, rfl, f0, f1, congrArg _ (wInc (by omega)), fj, hE, rfl⟩
      omega
    · have hl : ls d[t]! d[a]! = false := by simpa using hl
      simp only [hl, Bool.not_true, Bool.not_false, if_true, if_false, ht, decide_true, Bool.and_true, Bool.true_and, Bool.false_and, Bool.and_false, bb, reduceIte] at hE ⊢
      refine out _ _ _ (by simp) ?_
      exact hk _ f0 f1 (by rw [← hE]; exact fi) fj
  · simp only [ht, decide_false, bb, ops P, opsf P, if_false, Bool.false_and, reduceIte] at hE ⊢
    refine out _ _ _ (by simp) ?_
    exact hk _ f0 f1 (by rw [← hE]; exact fi) fj
theorem partF_dn0 {Q : Exit → F → Heap → Prop} {f : F} {h : Heap} {b cap : Nat} {d : Array α} {a i j : Nat} (cm : Cmp val ls b h) (D : DtV val h b cap d) (f0 : (f 0 = dv b d.size cap ∧ f 4 = cf)) (f1 : f 1 = I a) (fi : f 12 = I i) (fj : f 13 = I j) (ha : a < d.size) (hi : 0 < i) (hj : j < d.size) (hs : d.size < 1152921504606846976)
    (hk : ∀ f' : F, (f' 0 = dv b d.size cap ∧ f' 4 = cf) → f' 1 = I a → f' 12 = I i → f' 13 = I (Sort.scanDown (fun x => !ls x d[a]!) d i j) → Q (.exit 2) f' h) : lp partF_L9 Q f h := by
  refine lp_of (fun t f h' => (f 0 = dv b d.size cap ∧ f 4 = cf) ∧ f 1 = I a ∧ f 12 = I i ∧ f 13 = I t ∧ t ≤ j ∧ Sort.scanDown (fun x => !ls x d[a]!) d i t = Sort.scanDown (fun x => !ls x d[a]!) d i j ∧ h = h') j ⟨f0, f1, fi, fj, Nat.le_refl _, rfl, rfl⟩ ?_
  rintro t f _ Q' ⟨f0, f1, fi, fj, htj, hE, rfl⟩ on out
  unfold partF_L9
  simp only [f0, f1, fi, fj, ops P, opsf P, le_R]
  by_cases ht : i ≤ t
  · obtain ⟨t, rfl⟩ : ∃ t', t = t' + 1 := ⟨t - 1, by omega⟩
    rw [Sort.scanDown] at hE
    have i1 := ixV (b := b) (n := d.size) (cap := cap) (i := t + 1) (by omega) .i64
    have i2 := ixV (b := b) (n := d.size) (cap := cap) (i := a) (by omega) .i64
    have l1 := D.ld (i := t + 1) (by omega)
    have l2 := D.ld (i := a) (by omega)
    have w1 : IntKind.i64.wrap (((t + 1 : Nat) : Int) - 1) = (t : Int) := wDec (n := t + 1) (by omega) (by omega)
    simp only [ht, decide_true, bb, ops P, opsf P, i1, i2, l1, l2]
    refine cm.run (by first | assumption | exact Chg.refl _ _) _ _ fun _ => ?_
    simp only [ops P, opsf P, if_true]
    by_cases hl : ls d[t + 1]! d[a]! = true
    · simp only [hl, Bool.not_true, Bool.not_false, if_true, if_false, ht, decide_true, Bool.and_true, Bool.true_and, Bool.false_and, Bool.and_false, bb, reduceIte] at hE ⊢
      refine out _ _ _ (by simp) ?_
      exact hk _ f0 f1 fi (by rw [← hE]; exact fj)
    · have hl : ls d[t + 1]! d[a]! = false := by simpa using hl
      simp only [hl, Bool.not_true, Bool.not_false, if_true, if_false, ht, decide_true, Bool.and_true, Bool.true_and, Bool.false_and, Bool.and_false, bb, reduceIte] at hE ⊢
      exact on t _ _ (Nat.lt_succ_self t) ⟨f0, f1, fi, congrArg _ w1, by omega, hE, rfl⟩
  · simp only [ht, decide_false, bb, ops P, opsf P, if_false, Bool.false_and, reduceIte]
    refine out _ _ _ (by simp) ?_
    have hE : t = Sort.scanDown (fun x => !ls x d[a]!) d i j := by
      rw [← hE]
      cases t with
      | zero => rfl
      | succ t => rw [Sort.scanDown, if_neg (by simp [ht])]
    exact hk _ f0 f1 fi (by rw [← hE]; exact fj)
theorem partF_dn1 {Q : Exit → F → Heap → Prop} {f : F} {h : Heap} {b cap : Nat} {d : Array α} {a i j : Nat} (cm : Cmp val ls b h) (D : DtV val h b cap d) (f0 : (f 0 = dv b d.size cap ∧ f 4 = cf)) (f1 : f 1 = I a) (fi : f 12 = I i) (fj : f 13 = I j) (ha : a < d.size) (hi : 0 < i) (hj : j < d.size) (hs : d.size < 1152921504606846976)
    (hk : ∀ f' : F, (f' 0 = dv b d.size cap ∧ f' 4 = cf) → f' 1 = I a → f' 12 = I i → f' 13 = I (Sort.scanDown (fun x => !ls x d[a]!) d i j) → Q (.exit 8) f' h) : lp partF_L7 Q f h := by
  refine lp_of (fun t f h' => (f 0 = dv b d.size cap ∧ f 4 = cf) ∧ f 1 = I a ∧ f 12 = I i ∧ f 13 = I t ∧ t ≤ j ∧ Sort.scanDown (fun x => !ls x d[a]!) d i t = Sort.scanDown (fun x => !ls x d[a]!) d i j ∧ h = h') j ⟨f0, f1, fi, fj, Nat.le_refl _, rfl, rfl⟩ ?_
  rintro t f _ Q' ⟨f0, f1, fi, fj, htj, hE, rfl⟩ on out
  unfold partF_L7
  simp only [f0, f1, fi, fj, ops P, opsf P, le_R]
  by_cases ht : i ≤ t
  · obtain ⟨t, rfl⟩ : ∃ t', t = t' + 1 := ⟨t - 1, by omega⟩
    rw [Sort.scanDown] at hE
    have i1 := ixV (b := b) (n := d.size) (cap := cap) (i := t + 1) (by omega) .i64
    have i2 := ixV (b := b) (n := d.size) (cap := cap) (i := a) (by omega) .i64
    have l1 := D.ld (i := t + 1) (by omega)
    have l2 := D.ld (i := a) (by omega)
    have w1 : IntKind.i64.wrap (((t + 1 : Nat) : Int) - 1) = (t : Int) := wDec (n := t + 1) (by omega) (by omega)
    simp only [ht, decide_true, bb, ops P, opsf P, i1, i2, l1, l2]
    refine cm.run (by first | assumption | exact Chg.refl _ _) _ _ fun _ => ?_
    simp only [ops P, opsf P, if_true]
    by_cases hl : ls d[t + 1]! d[a]! = true
    · simp only [hl, Bool.not_true, Bool.not_false, if_true, if_false, ht, decide_true, Bool.and_true, Bool.true_and, Bool.false_and, Bool.and_false, bb, reduceIte] at hE ⊢
      refine out _ _ _ (by simp) ?_
      exact hk _ f0 f1 fi (by rw [← hE]; exact fj)
    · have hl : ls d[t + 1]! d[a]! = false := by simpa using hl
      simp only [hl, Bool.not_true, Bool.not_false, if_true, if_false, ht, decide_true, Bool.and_true, Bool.true_and, Bool.false_and, Bool.and_false, bb, reduceIte] at hE ⊢
      exact on t _ _ (Nat.lt_succ_self t) ⟨f0, f1, fi, congrArg _ w1, by omega, hE, rfl⟩
  · simp only [ht, decide_false, bb, ops P, opsf P, if_false, Bool.false_and, reduceIte]
    refine out _ _ _ (by simp) ?_
    have hE : t = Sort.scanDown (fun x => !ls x d[a]!) d i j := by
      rw [← hE]
      cases t with
      | zero => rfl
      | succ t => rw [Sort.scanDown, if_neg (by simp [ht])]
    exact hk _ f0 f1 fi (by rw [← hE]; exact fj)
theorem partEqF_up {Q : Exit → F → Heap → Prop} {f : F} {h : Heap} {b cap : Nat} {d : Array α} {a i j : Nat} (cm : Cmp val ls b h) (D : DtV val h b cap d) (f0 : (f 0 = dv b d.size cap ∧ f 4 = cf)) (f1 : f 1 = I a) (fi : f 11 = I i) (fj : f 12 = I j) (ha : a < d.size) (hj : j < d.size) (hs : d.size < 1152921504606846976)
    (hk : ∀ f' : F, (f' 0 = dv b d.size cap ∧ f' 4 = cf) → f' 1 = I a → f' 11 = I (Sort.scanUp (fun x => !ls d[a]! x) d j i) → f' 12 = I j → Q (.exit 2) f' h) : lp partEqF_L6 Q f h := by
  refine lp_of (fun k f h' => ∃ t, k = j + 1 - t ∧ (f 0 = dv b d.size cap ∧ f 4 = cf) ∧ f 1 = I a ∧ f 11 = I t ∧ f 12 = I j ∧ Sort.scanUp (fun x => !ls d[a]! x) d j t = Sort.scanUp (fun x => !ls d[a]! x) d j i ∧ h = h') _ ⟨i, rfl, f0, f1, fi, fj, rfl, rfl⟩ ?_
  rintro k f _ Q' ⟨t, rfl, f0, f1, fi, fj, hE, rfl⟩ on out
  unfold partEqF_L6
  simp only [f0, f1, fi, fj, ops P, opsf P, le_R]
  rw [Sort.scanUp] at hE
  by_cases ht : t ≤ j
  · have i1 := ixV (b := b) (n := d.size) (cap := cap) (i := t) (by omega) .i64
    have i2 := ixV (b := b) (n := d.size) (cap := cap) (i := a) (by omega) .i64
    have l1 := D.ld (i := t) (by omega)
    have l2 := D.ld (i := a) (by omega)
    simp only [ht, decide_true, bb, ops P, opsf P, i1, i2, l1, l2]
    refine cm.run (by first | assumption | exact Chg.refl _ _) _ _ fun _ => ?_
    simp only [ops P, opsf P, if_true]
    by_cases hl : ls d[a]! d[t]! = true
    · simp only [hl, Bool.not_true, Bool.not_false, if_true, if_false, ht, decide_true, Bool.and_true, Bool.true_and, Bool.false_and, Bool.and_false, bb, reduceIte] at hE ⊢
      refine out _ _ _ (by simp) ?_
      exact hk _ f0 f1 (by rw [← hE]; exact fi) fj
    · have hl : ls d[a]! d[t]! = false := by simpa using hl
      simp only [hl, Bool.not_true, Bool.not_false, if_true, if_false, ht, decide_true, Bool.and_true, Bool.true_and, Bool.false_and, Bool.and_false, bb, reduceIte] at hE ⊢
      refine on _ _ _ ?_ ⟨t + 1, rfl, f0, f1, congrArg _ (wInc (by omega)), fj, hE, rfl⟩
      omega
  · simp only [ht, decide_false, bb, ops P, opsf P, if_false, Bool.false_and, reduceIte] at hE ⊢
    refine out _ _ _ (by simp) ?_
    exact hk _ f0 f1 (by rw [← hE]; exact fi) fj
theorem partEqF_dn {Q : Exit → F → Heap → Prop} {f : F} {h : Heap} {b cap : Nat} {d : Array α} {a i j : Nat} (cm : Cmp val ls b h) (D : DtV val h b cap d) (f0 : (f 0 = dv b d.size cap ∧ f 4 = cf)) (f1 : f 1 = I a) (fi : f 11 = I i) (fj : f 12 = I j) (ha : a < d.size) (hi : 0 < i) (hj : j < d.size) (hs : d.size < 1152921504606846976)
    (hk : ∀ f' : F, (f' 0 = dv b d.size cap ∧ f' 4 = cf) → f' 1 = I a → f' 11 = I i → f' 12 = I (Sort.scanDown (fun x => ls d[a]! x) d i j) → Q (.exit 4) f' h) : lp partEqF_L5 Q f h := by
  refine lp_of (fun t f h' => (f 0 = dv b d.size cap ∧ f 4 = cf) ∧ f 1 = I a ∧ f 11 = I i ∧ f 12 = I t ∧ t ≤ j ∧ Sort.scanDown (fun x => ls d[a]! x) d i t = Sort.scanDown (fun x => ls d[a]! x) d i j ∧ h = h') j ⟨f0, f1, fi, fj, Nat.le_refl _, rfl, rfl⟩ ?_
  rintro t f _ Q' ⟨f0, f1, fi, fj, htj, hE, rfl⟩ on out
  unfold partEqF_L5
  simp only [f0, f1, fi, fj, ops P, opsf P, le_R]
  by_cases ht : i ≤ t
  · obtain ⟨t, rfl⟩ : ∃ t', t = t' + 1 := ⟨t - 1, by omega⟩
    rw [Sort.scanDown] at hE
    have i1 := ixV (b := b) (n := d.size) (cap := cap) (i := t + 1) (by omega) .i64
    have i2 := ixV (b := b) (n := d.size) (cap := cap) (i := a) (by omega) .i64
    have l1 := D.ld (i := t + 1) (by omega)
    have l2 := D.ld (i := a) (by omega)
    have w1 : IntKind.i64.wrap (((t + 1 : Nat) : Int) - 1) = (t : Int) := wDec (n := t + 1) (by omega) (by omega)
    simp only [ht, decide_true, bb, ops P, opsf P, i1, i2, l1, l2]
    refine cm.run (by first | assumption | exact Chg.refl _ _) _ _ fun _ => ?_
    simp only [ops P, opsf P, if_true]
    by_cases hl : ls d[a]! d[t + 1]! = true
    · simp only [hl, Bool.not_true, Bool.not_false, if_true, if_false, ht, decide_true, Bool.and_true, Bool.true_and, Bool.false_and, Bool.and_false, bb, reduceIte] at hE ⊢
      exact on t _ _ (Nat.lt_succ_self t) ⟨f0, f1, fi, congrArg _ w1, by omega, hE, rfl⟩
    · have hl : ls d[a]! d[t + 1]! = false := by simpa using hl
      simp only [hl, Bool.not_true, Bool.not_false, if_true, if_false, ht, decide_true, Bool.and_true, Bool.true_and, Bool.false_and, Bool.and_false, bb, reduceIte] at hE ⊢
      refine out _ _ _ (by simp) ?_
      exact hk _ f0 f1 fi (by rw [← hE]; exact fj)
  · simp only [ht, decide_false, bb, ops P, opsf P, if_false, Bool.false_and, reduceIte]
    refine out _ _ _ (by simp) ?_
    have hE : t = Sort.scanDown (fun x => ls d[a]! x) d i j := by
      rw [← hE]
      cases t with
      | zero => rfl
      | succ t => rw [Sort.scanDown, if_neg (by simp [ht])]
    exact hk _ f0 f1 fi (by rw [← hE]; exact fj)
end Go.Proofs.G
open Go Go.Hv
set_option maxRecDepth 100000
namespace Go.Proofs.G
variable {α : Type} [Inhabited α] {val : α → Value} {ls : α → α → Bool}
theorem scanUp_rngV (p : α → Bool) (d : Array α) (j i : Nat) (hi : i ≤ j + 1) : i ≤ Sort.scanUp p d j i ∧ Sort.scanUp p d j i ≤ j + 1 ∧ (Sort.scanUp p d j i ≤ j → p d[Sort.scanUp p d j i]! = false) := ⟨Sort.scanUp_ge p d j i, (Sort.scanUp_spec p d j _ i rfl).2.1 hi, (Sort.scanUp_spec p d j _ i rfl).2.2.2⟩
theorem scanDown_rngV (p : α → Bool) (d : Array α) (i j : Nat) (hi : i ≤ j + 1) : Sort.scanDown p d i j ≤ j ∧ i ≤ Sort.scanDown p d i j + 1 ∧ (i ≤ Sort.scanDown p d i j → 0 < Sort.scanDown p d i j → p d[Sort.scanDown p d i j]! = false) := ⟨(Sort.scanDown_spec p d i j).1, (Sort.scanDown_spec p d i j).2.1 hi, (Sort.scanDown_spec p d i j).2.2.2⟩

theorem partEqF_spec {h0 : Heap} {b cap : Nat} {d0 : Array α} (cm : Cmp val ls b h0) (D0 : DtV val h0 b cap d0) {x y pv : Nat} (hx : x ≤ pv) (hpy : pv < y) (hy : y ≤ d0.size) (hs : d0.size < 1152921504606846976) :
    HCalls P 103 #[dv b d0.size cap, I x, I y, I pv, cf] h0 fun v h' => v = I (Sort.partitionEqual ls d0 x y pv).1 ∧ DtV val h' b cap (Sort.partitionEqual ls d0 x y pv).2 ∧ Chg (fun c => c = b) h0 h' := by
  refine partEqF_ok ?_
  unfold partEqF_c0
  have i1 := ixV (b := b) (n := d0.size) (cap := cap) (i := x) (by omega) .i64
  have i2 := ixV (b := b) (n := d0.size) (cap := cap) (i := pv) (by omega) .i64
  have l1 := D0.ld (i := x) (by omega)
  have l2 := D0.ld (i := pv) (by omega)
  simp only [fr, ops P, opsf P, i1, i2, l1, l2]
  refine D0.st (by omega) _ (cm.one _) fun h1 D1 C1 s1 => ?_
  refine D1.st (by simp; omega) _ (cm.one _) fun h2 D2 C2 s2 => ?_
  simp only [ops P, opsf P, wInc (show x + 1 < 9223372036854775808 by omega), wDec (show y < 9223372036854775808 by omega) (by omega)]
  generalize hG : Sort.partitionEqual ls d0 x y pv = G
  have hG : Sort.partEqLoop ls x (x + 1) (y - 1) (Sort.swp d0 x pv) = G := hG
  have D2 : DtV val h2 b cap (Sort.swp d0 x pv) := D2
  refine lp_of (fun k f h => ∃ i j d, k = j + 1 - i ∧ (f 0 = dv b d0.size cap ∧ f 4 = cf) ∧ f 1 = I x ∧ f 11 = I i ∧ f 12 = I j ∧ x < i ∧ i ≤ j + 1 ∧ j < y ∧ d.size = d0.size ∧ Sort.partEqLoop ls x i j d = G ∧ DtV val h b cap d ∧ Chg (fun c => c = b) h0 h) _ ⟨x + 1, y - 1, Sort.swp d0 x pv, rfl, ⟨rfl, rfl⟩, rfl, rfl, rfl, by omega, by omega, by omega, swp_szV, hG, D2, C1.trans C2⟩ ?_
  rintro k f h Q' ⟨i, j, d, rfl, f0, f1, f9, f10, hxi, hij, hjy, hd, hE, D, C⟩ on out
  unfold partEqF_L2
  rw [Sort.partEqLoop_eq] at hE
  have r1 := scanUp_rngV (fun z => !ls d[x]! z) d j i hij
  rw [← hd] at f0
  refine partEqF_up (cm.at C) D f0 f1 f9 f10 (by omega) (by omega) (by omega) fun f0' g0 g1 g9 g10 => ?_
  generalize Sort.scanUp (fun z => !ls d[x]! z) d j i = i2 at *
  simp only [ex]
  unfold partEqF_c3
  have r2 := scanDown_rngV (fun z => ls d[x]! z) d i2 j r1.2.1
  refine partEqF_dn (cm.at C) D g0 g1 g9 g10 (by omega) (by omega) (by omega) (by omega) fun f1' k0 k1 k9 k10 => ?_
  generalize Sort.scanDown (fun z => ls d[x]! z) d i2 j = j2 at *
  simp only [ex]
  unfold partEqF_c4
  simp only [k0, k9, k10, ops P, opsf P, lt_gt]
  by_cases hc : i2 > j2
  · rw [if_pos (by simpa using hc)]
    rw [if_pos hc] at hE
    refine out _ _ _ (by simp) ?_
    try simp only [ex]
    unfold partEqF_c1
    refine post_ret1 ⟨by rw [← hE]; exact k9, by rw [← hE]; exact D, C⟩
  · rw [if_neg (by simpa using hc)]
    rw [if_neg hc] at hE
    have hne : i2 ≠ j2 := by
      rintro rfl
      have h1 := r1.2.2 (by omega)
      have h2 := r2.2.2 (by omega) (by omega)
      simp only [Bool.not_eq_false'] at h1
      rw [h1] at h2; cases h2
    have i1 := ixV (b := b) (n := d.size) (cap := cap) (i := i2) (by omega) .i64
    have i2' := ixV (b := b) (n := d.size) (cap := cap) (i := j2) (by omega) .i64
    have l1 := D.ld (i := i2) (by omega)
    have l2 := D.ld (i := j2) (by omega)
    simp only [ops P, opsf P, i1, i2', l1, l2]
    refine D.st (by omega) _ (cm.one _) fun h1 D1 C1 s1 => ?_
    refine D1.st (by simp; omega) _ (cm.one _) fun h2 D2 C2 s2 => ?_
    simp only [ops P, opsf P, wInc (show i2 + 1 < 9223372036854775808 by omega), wDec (show j2 < 9223372036854775808 by omega) (by omega), ex]
    refine on _ _ _ ?_ ⟨i2 + 1, j2 - 1, Sort.swp d i2 j2, rfl, by rw [← hd]; exact k0, k1, rfl, rfl, by omega, by omega, by omega, swp_szV.trans hd, hE, D2, (C.trans C1).trans C2⟩
    omega

theorem partF_spec {h0 : Heap} {b cap : Nat} {d0 : Array α} (cm : Cmp val ls b h0) (D0 : DtV val h0 b cap d0) {x y pv : Nat} (hx : x ≤ pv) (hpy : pv < y) (hy : y ≤ d0.size) (hs : d0.size < 1152921504606846976) :
    HCalls P 104 #[dv b d0.size cap, I x, I y, I pv, cf] h0 fun v h' => v = .tuple #[I (Sort.partition ls d0 x y pv).1, .bool (Sort.partition ls d0 x y pv).2.1] ∧ DtV val h' b cap (Sort.partition ls d0 x y pv).2.2 ∧ Chg (fun c => c = b) h0 h' := by
  refine partF_ok ?_
  unfold partF_c0
  have i1 := ixV (b := b) (n := d0.size) (cap := cap) (i := x) (by omega) .i64
  have i2 := ixV (b := b) (n := d0.size) (cap := cap) (i := pv) (by omega) .i64
  have l1 := D0.ld (i := x) (by omega)
  have l2 := D0.ld (i := pv) (by omega)
  simp only [fr, ops P, opsf P, i1, i2, l1, l2]
  refine D0.st (by omega) _ (cm.one _) fun h1 D1 C1 s1 => ?_
  refine D1.st (by simp; omega) _ (cm.one _) fun h2 D2 C2 s2 => ?_
  simp only [ops P, opsf P, wInc (show x + 1 < 9223372036854775808 by omega), wDec (show y < 9223372036854775808 by omega) (by omega)]
  generalize hG : Sort.partition ls d0 x y pv = G
  rw [Sort.partition] at hG
  have D2 : DtV val h2 b cap (Sort.swp d0 x pv) := D2
  have hd : (Sort.swp d0 x pv).size = d0.size := swp_szV
  have C := C1.trans C2
  generalize Sort.swp d0 x pv = d at *
  have r1 := scanUp_rngV (fun z => ls z d[x]!) d (y - 1) (x + 1) (by omega)
  refine partF_up0 (a := x) (i := x + 1) (j := y - 1) (cm.at C) D2 ⟨by rw [hd]; rfl, rfl⟩ rfl rfl rfl (by omega) (by omega) (by omega) fun f0' g0 g1 g10 g11 => ?_
  dsimp only at hG
  generalize Sort.scanUp (fun z => ls z d[x]!) d (y - 1) (x + 1) = i2 at *
  simp only [ex]
  unfold partF_c1
  have r2 := scanDown_rngV (fun z => !ls z d[x]!) d i2 (y - 1) r1.2.1
  refine partF_dn0 (cm.at C) D2 g0 g1 g10 g11 (by omega) (by omega) (by omega) (by omega) fun f1' k0 k1 k10 k11 => ?_
  generalize Sort.scanDown (fun z => !ls z d[x]!) d i2 (y - 1) = j2 at *
  simp only [ex]
  unfold partF_c2
  simp only [k0, k1, k10, k11, ops P, opsf P, lt_gt]
  have i1 := ixV (b := b) (n := d.size) (cap := cap) (i := x) (by omega) .i64
  have i2' := ixV (b := b) (n := d.size) (cap := cap) (i := j2) (by omega) .i64
  have l1 := D2.ld (i := x) (by omega)
  have l2 := D2.ld (i := j2) (by omega)
  by_cases hc : i2 > j2
  · rw [if_pos (by simpa using hc)]
    rw [if_pos hc] at hG
    simp only [ops P, opsf P, i1, i2', l1, l2]
    refine D2.st (by omega) _ (cm.one _) fun h3 D3 C3 s1 => ?_
    refine D3.st (by simp; omega) _ (cm.one _) fun h4 D4 C4 s2 => ?_
    refine post_ret2 ⟨by rw [← hG]; rfl, by rw [← hG]; exact D4, (C.trans C3).trans C4⟩
  · rw [if_neg (by simpa using hc)]
    rw [if_neg hc] at hG
    have hne : i2 ≠ j2 := by
      rintro rfl
      have h1 := r1.2.2 (by omega)
      have h2 := r2.2.2 (by omega) (by omega)
      simp only [Bool.not_eq_false'] at h2
      rw [h1] at h2; cases h2
    have i3 := ixV (b := b) (n := d.size) (cap := cap) (i := i2) (by omega) .i64
    have l3 := D2.ld (i := i2) (by omega)
    simp only [ops P, opsf P, i3, i2', l3, l2]
    refine D2.st (by omega) _ (cm.one _) fun h3 D3 C3 s1 => ?_
    refine D3.st (by simp; omega) _ (cm.one _) fun h4 D4 C4 s2 => ?_
    simp only [ops P, opsf P, wInc (show i2 + 1 < 9223372036854775808 by omega), wDec (show j2 < 9223372036854775808 by omega) (by omega)]
    have D4 : DtV val h4 b cap (Sort.swp d i2 j2) := D4
    have C := (C.trans C3).trans C4
    refine lp_of (fun k f h => ∃ i j d', k = j + 1 - i ∧ (f 0 = dv b d0.size cap ∧ f 4 = cf) ∧ f 1 = I x ∧ f 12 = I i ∧ f 13 = I j ∧ x < i ∧ i ≤ j + 1 ∧ j < y ∧ d'.size = d0.size ∧ Sort.partLoop ls x i j d' = Sort.partLoop ls x (i2 + 1) (j2 - 1) (Sort.swp d i2 j2) ∧ DtV val h b cap d' ∧ Chg (fun c => c = b) h0 h) _ ⟨i2 + 1, j2 - 1, Sort.swp d i2 j2, rfl, by rw [← hd]; exact k0, k1, rfl, rfl, by omega, by omega, by omega, swp_szV.trans hd, rfl, D4, C⟩ ?_
    rintro k f h Q' ⟨i, j, d', rfl, f0, f1, f10, f11, hxi, hij, hjy, hd', hE, D, C⟩ on out
    unfold partF_L4
    rw [Sort.partLoop_eq] at hE
    have r1 := scanUp_rngV (fun z => ls z d'[x]!) d' j i hij
    rw [← hd'] at f0
    refine partF_up1 (cm.at C) D f0 f1 f10 f11 (by omega) (by omega) (by omega) fun f0' g0 g1 g10 g11 => ?_
    generalize Sort.scanUp (fun z => ls z d'[x]!) d' j i = i3 at *
    simp only [ex]
    unfold partF_c5
    have r2 := scanDown_rngV (fun z => !ls z d'[x]!) d' i3 j r1.2.1
    refine partF_dn1 (cm.at C) D g0 g1 g10 g11 (by omega) (by omega) (by omega) (by omega) fun f1' k0 k1 k10 k11 => ?_
    generalize Sort.scanDown (fun z => !ls z d'[x]!) d' i3 j = j3 at *
    simp only [ex]
    unfold partF_c6
    simp only [k0, k10, k11, ops P, opsf P, lt_gt]
    by_cases hc : i3 > j3
    · rw [if_pos (by simpa using hc)]
      rw [if_pos hc] at hE
      refine out _ _ _ (by simp) ?_
      try simp only [ex]
      unfold partF_c3
      have i1 := ixV (b := b) (n := d'.size) (cap := cap) (i := x) (by omega) .i64
      have i2' := ixV (b := b) (n := d'.size) (cap := cap) (i := j3) (by omega) .i64
      have l1 := D.ld (i := x) (by omega)
      have l2 := D.ld (i := j3) (by omega)
      simp only [rdU, reduceIte, Nat.reduceEqDiff, k0, k1, k11, ops P, opsf P, i1, i2', l1, l2]
      refine D.st (by omega) _ (cm.one _) fun h3 D3 C3 s1 => ?_
      refine D3.st (by simp; omega) _ (cm.one _) fun h4 D4 C4 s2 => ?_
      rw [← hE] at hG
      exact post_ret2 ⟨by rw [← hG]; rfl, by rw [← hG]; exact D4, (C.trans C3).trans C4⟩
    · rw [if_neg (by simpa using hc)]
      rw [if_neg hc] at hE
      have hne : i3 ≠ j3 := by
        rintro rfl
        have h1 := r1.2.2 (by omega)
        have h2 := r2.2.2 (by omega) (by omega)
        simp only [Bool.not_eq_false'] at h2
        rw [h1] at h2; cases h2
      have i1 := ixV (b := b) (n := d'.size) (cap := cap) (i := i3) (by omega) .i64
      have i2' := ixV (b := b) (n := d'.size) (cap := cap) (i := j3) (by omega) .i64
      have l1 := D.ld (i := i3) (by omega)
      have l2 := D.ld (i := j3) (by omega)
      simp only [ops P, opsf P, i1, i2', l1, l2]
      refine D.st (by omega) _ (cm.one _) fun h1 D1 C1 s1 => ?_
      refine D1.st (by simp; omega) _ (cm.one _) fun h2 D2 C2 s2 => ?_
      simp only [ops P, opsf P, wInc (show i3 + 1 < 9223372036854775808 by omega), wDec (show j3 < 9223372036854775808 by omega) (by omega), ex]
      refine on _ _ _ ?_ ⟨i3 + 1, j3 - 1, Sort.swp d' i3 j3, rfl, by rw [← hd']; exact k0, k1, rfl, rfl, by omega, by omega, by omega, swp_szV.trans hd', hE, D2, (C.trans C1).trans C2⟩
      omega
end Go.Proofs.G
open Go Go.Hv
set_option maxRecDepth 100000
namespace Go.Proofs.G
variable {α : Type} [Inhabited α] {val : α → Value} {ls : α → α → Bool}
/-- the state of the number that is drawn -/
theorem revRangeF_spec {h0 : Heap} {b cap : Nat} {d0 : Array α} (cm : Cmp val ls b h0) (D0 : DtV val h0 b cap d0) {x y : Nat} (hxy : x < y) (hy : y ≤ d0.size) (hs : d0.size < 1152921504606846976) :
    HCalls P 101 #[dv b d0.size cap, I x, I y, cf] h0 (SortsV val b cap h0 (Sort.reverseRange d0 x y)) := by
  refine revRangeF_ok ?_
  unfold revRangeF_c0
  simp only [fr, ops P, opsf P]
  rw [wDec (by omega) (by omega)]
  refine lp_of (fun k f h => ∃ i j d, k = j - i ∧ (f 0 = dv b d0.size cap ∧ f 3 = cf) ∧ f 8 = I i ∧ f 9 = I j ∧ j < y ∧ d.size = d0.size ∧ Sort.reverseLoop i j d = Sort.reverseRange d0 x y ∧ DtV val h b cap d ∧ Chg (fun c => c = b) h0 h) _ ⟨x, y - 1, d0, rfl, ⟨rfl, rfl⟩, rfl, rfl, by omega, rfl, rfl, D0, Chg.refl _ _⟩ ?_
  rintro k f h Q' ⟨i, j, d, rfl, f0, f6, f7, hj, hd, hE, D, C⟩ on out
  unfold revRangeF_L1
  simp only [f0, f6, f7, ops P, opsf P, lt_R]
  rw [Sort.reverseLoop] at hE
  by_cases hc : i < j
  · rw [if_pos (by simpa using hc)]
    rw [if_pos hc] at hE
    have i1 := ixV (b := b) (n := d0.size) (cap := cap) (i := i) (by omega) .i64
    have i2 := ixV (b := b) (n := d0.size) (cap := cap) (i := j) (by omega) .i64
    have l1 := D.ld (i := i) (by omega)
    have l2 := D.ld (i := j) (by omega)
    simp only [ops P, opsf P, i1, i2, l1, l2]
    refine D.st (by omega) _ (cm.one _) fun h1 D1 C1 s1 => ?_
    refine D1.st (by simp; omega) _ (cm.one _) fun h2 D2 C2 s2 => ?_
    simp only [ops P, opsf P, wInc (show i + 1 < 9223372036854775808 by omega), wDec (show j < 9223372036854775808 by omega) (by omega)]
    refine on _ _ _ ?_ ⟨i + 1, j - 1, Sort.swp d i j, rfl, f0, rfl, rfl, by omega, swp_szV.trans hd, hE, D2, (C.trans C1).trans C2⟩
    omega
  · rw [if_neg (by simpa using hc)]
    rw [if_neg hc] at hE
    refine out _ _ _ (by simp) ?_
    simp only [ex]
    exact post_end0 ⟨rfl, by rw [← hE]; exact D, C⟩
end Go.Proofs.G
open Go Go.Hv
set_option maxRecDepth 100000
namespace Go.Proofs.G
variable {α : Type} [Inhabited α] {val : α → Value} {ls : α → α → Bool}
theorem hb113 : hasBody P 113 = true := by kernel_rfl
theorem hb114 : hasBody P 114 = true := by kernel_rfl
theorem hb117 : hasBody P 117 = true := by kernel_rfl
/-- the count of swaps -/
theorem chgSp {h00 h h' : Heap} {b sp : Nat} (C0 : Chg (fun c => c = b) h00 h) (C : Chg (fun c => c = sp) h h') (hsp : h00.size ≤ sp) : Chg (fun c => c = b) h00 h' :=
  ⟨Nat.le_trans C0.size C.size, fun i hi hn => (C.get i (by have := C0.size; omega) (by omega)).trans (C0.get i hi hn)⟩
theorem order2F_spec {h00 h : Heap} {b cap sp : Nat} {d : Array α} (cm : Cmp val ls b h00) (C0 : Chg (fun c => c = b) h00 h) (hsp : h00.size ≤ sp) (D : DtV val h b cap d) (S : Sw h sp) (hne : sp ≠ b) {x y : Nat} (hx : x < d.size) (hy : y < d.size) :
    HCalls P 117 #[dv b d.size cap, I x, I y, .pointer (some ⟨sp, 0, none⟩), cf] h fun v h' => (∃ u w, v = .tuple #[I u, I w] ∧ (u = x ∨ u = y) ∧ (w = x ∨ w = y)) ∧ Pick sp h h' := by
  refine order2F_ok ?_
  unfold order2F_c0
  obtain ⟨z, hz, hf, hg⟩ := S.cell
  simp only [fr, ops P, opsf P, ixV hx .i64, ixV hy .i64, D.ld hx, D.ld hy]
  refine cm.run (by first | assumption | exact Chg.refl _ _) _ _ fun _ => ?_
  simp only [ops P, opsf P, load_run o3 hz]
  by_cases hl : ls d[y]! d[x]! = true
  · rw [if_pos hl]
    refine Hv.run_store o3 rfl hz hf ?_
    refine post_ret2 ⟨⟨y, x, rfl, .inr rfl, .inl rfl⟩, ⟨_, setC_get h _ hg⟩, chg_setC h ⟨sp, 0, none⟩ _⟩
  · rw [if_neg hl]
    exact post_ret2 ⟨⟨x, y, rfl, .inl rfl, .inr rfl⟩, S, Chg.refl _ _⟩
theorem medianF_spec {h00 h : Heap} {b cap sp : Nat} {d : Array α} (cm : Cmp val ls b h00) (C0 : Chg (fun c => c = b) h00 h) (hsp : h00.size ≤ sp) (D : DtV val h b cap d) (S : Sw h sp) (hne : sp ≠ b) {x y z : Nat} (hx : x < d.size) (hy : y < d.size) (hz : z < d.size) :
    HCalls P 114 #[dv b d.size cap, I x, I y, I z, .pointer (some ⟨sp, 0, none⟩), cf] h fun v h' => (∃ u, v = I u ∧ (u = x ∨ u = y ∨ u = z)) ∧ Pick sp h h' := by
  have hlt : ∀ {h'} , Chg (fun c => c = sp) h h' → DtV val h' b cap d := fun c => D.keep (c.get b (Row.lt D) (Ne.symm hne))
  refine medianF_ok ?_
  unfold medianF_c0
  simp only [fr]
  refine run_callF hb117 ((order2F_spec cm C0 hsp D S hne hx hy).mono ?_)
  rintro _ h1 ⟨⟨u, w, rfl, hu, hw⟩, S1, C1⟩
  simp only [ops P, opsf P]
  refine run_callF hb117 ((order2F_spec cm (chgSp C0 C1 hsp) hsp (hlt C1) S1 hne (x := w) (by rcases hw with rfl | rfl <;> assumption) hz).mono ?_)
  rintro _ h2 ⟨⟨u2, w2, rfl, hu2, hw2⟩, S2, C2⟩
  simp only [ops P, opsf P]
  have C12 := C1.trans C2
  refine run_callF hb117 ((order2F_spec cm (chgSp C0 C12 hsp) hsp (hlt C12) S2 hne (x := u) (y := u2) (by rcases hu with rfl | rfl <;> assumption) (by rcases hu2 with rfl | rfl <;> first | assumption | (rcases hw with rfl | rfl <;> assumption))).mono ?_)
  rintro _ h3 ⟨⟨u3, w3, rfl, hu3, hw3⟩, S3, C3⟩
  simp only [ops P, opsf P]
  refine post_ret1 ⟨⟨w3, rfl, ?_⟩, S3, C12.trans C3⟩
  rcases hw3 with rfl | rfl
  · rcases hu with h | h <;> simp [h]
  · rcases hu2 with rfl | h
    · rcases hw with h | h <;> simp [h]
    · simp [h]
theorem medAdjF_spec {h00 h : Heap} {b cap sp : Nat} {d : Array α} (cm : Cmp val ls b h00) (C0 : Chg (fun c => c = b) h00 h) (hsp : h00.size ≤ sp) (D : DtV val h b cap d) (S : Sw h sp) (hne : sp ≠ b) (hs : d.size < 4611686018427387904) {x : Nat} (hx : x + 1 < d.size) (h0 : 0 < x) :
    HCalls P 113 #[dv b d.size cap, I x, .pointer (some ⟨sp, 0, none⟩), cf] h fun v h' => (∃ u, v = I u ∧ x ≤ u + 1 ∧ u ≤ x + 1) ∧ Pick sp h h' := by
  refine medAdjF_ok ?_
  unfold medAdjF_c0
  simp only [fr, ops P, opsf P]
  rw [wInc (by omega), wDec (by omega) h0]
  refine run_callF hb114 ((medianF_spec cm C0 hsp D S hne (by omega) (by omega) (by omega)).mono ?_)
  rintro _ h1 ⟨⟨u, rfl, hu⟩, S1⟩
  exact post_ret1 ⟨⟨u, rfl, by omega, by omega⟩, S1⟩
theorem choosePivF_spec {h : Heap} {b cap : Nat} {d : Array α} (cm : Cmp val ls b h) (D : DtV val h b cap d) {x y : Nat} (hxy : x < y) (hy : y ≤ d.size) (hs : d.size < 1152921504606846976) :
    HCalls P 100 #[dv b d.size cap, I x, I y, cf] h fun v h' => (∃ p t, v = .tuple #[I p, I t] ∧ x ≤ p ∧ p < y ∧ t ≤ 2) ∧ Chg (fun _ => False) h h' := by
  refine choosePivF_ok ?_
  unfold choosePivF_c0
  simp only [fr, ops P, opsf P, run_alloc z3, quo_run (show (4 : Int) ≠ 0 by decide)]
  have e1 : IntKind.i64.wrap ((y : Int) - x) = ((y - x : Nat) : Int) := by rw [show (y : Int) - x = ((y - x : Nat) : Int) by omega]; exact wI (by omega)
  have e2 : IntKind.i64.wrap (((y - x : Nat) : Int).tdiv 4) = (((y - x) / 4 : Nat) : Int) := by
    rw [Int.tdiv_eq_ediv_of_nonneg (by omega)]
    exact wI (n := (y - x) / 4) (by omega)
  have e3 : ∀ k : Nat, k ≤ 3 → IntKind.i64.wrap ((((y - x) / 4 : Nat) : Int) * (k : Int)) = (((y - x) / 4 * k : Nat) : Int) := fun k hk => by
    rw [← Int.natCast_mul]
    have : (y - x) / 4 * k ≤ (y - x) / 4 * 3 := Nat.mul_le_mul_left _ hk
    exact wI (by omega)
  have e4 : ∀ k : Nat, k ≤ 3 → IntKind.i64.wrap ((x : Int) + (((y - x) / 4 * k : Nat) : Int)) = ((x + (y - x) / 4 * k : Nat) : Int) := fun k hk => by
    rw [← Int.natCast_add]
    have : (y - x) / 4 * k ≤ (y - x) / 4 * 3 := Nat.mul_le_mul_left _ hk
    exact wI (by omega)
  have e31 : IntKind.i64.wrap ((((y - x) / 4 : Nat) : Int) * 1) = (((y - x) / 4 * 1 : Nat) : Int) := e3 1 (by omega)
  have e32 : IntKind.i64.wrap ((((y - x) / 4 : Nat) : Int) * 2) = (((y - x) / 4 * 2 : Nat) : Int) := e3 2 (by omega)
  have e33 : IntKind.i64.wrap ((((y - x) / 4 : Nat) : Int) * 3) = (((y - x) / 4 * 3 : Nat) : Int) := e3 3 (by omega)
  rw [e1, e2, e31, e32, e33, e4 1 (by omega), e4 2 (by omega), e4 3 (by omega)]
  have hb : b < h.size := Row.lt D
  have hS : Sw (h.push (.cells (Value.int .i64 0).cells 3)) h.size := ⟨0, get_push_new _ _⟩
  have hD : DtV val (h.push (.cells (Value.int .i64 0).cells 3)) b cap d := D.keep (get_push_old _ _ hb)
  have CC0 : Chg (fun c => c = b) h (h.push (.cells (Value.int .i64 0).cells 3)) := (chg_push _ h _)
  have key : ∀ (f' : F) (h' : Heap) (p : Nat), f' 13 = I p → f' 11 = .pointer (some ⟨h.size, 0, none⟩) → x ≤ p → p < y → Sw h' h.size → Chg (fun c => c = h.size) (h.push (.cells (Value.int .i64 0).cells 3)) h' → choosePivF_c1 (post [.tmp 8, .tmp 9] fun v h' => (∃ p t, v = .tuple #[I p, I t] ∧ x ≤ p ∧ p < y ∧ t ≤ 2) ∧ Chg (fun _ => False) h h') f' h' := by
    intro f' h' p g11 g9 hp1 hp2 S C
    unfold choosePivF_c1
    obtain ⟨z, hz, _⟩ := S.cell
    have CC : Chg (fun _ => False) h h' := ⟨by have := C.size; simp at this; omega, fun i hi _ => by rw [C.get i (by simp; omega) (by omega), get_push_old _ _ hi]⟩
    simp only [g9, g11, load_run o3 hz, ops P, opsf P]
    by_cases h1 : (z == 0) = true
    · rw [if_pos h1]; exact post_ret2 ⟨⟨p, 1, rfl, hp1, hp2, by omega⟩, CC⟩
    · rw [if_neg h1]
      by_cases h2 : (z == 12) = true
      · rw [if_pos h2]; exact post_ret2 ⟨⟨p, 2, rfl, hp1, hp2, by omega⟩, CC⟩
      · rw [if_neg h2]; exact post_ret2 ⟨⟨p, 0, rfl, hp1, hp2, by omega⟩, CC⟩
  by_cases h8 : (8 : Int) ≤ ((y - x : Nat) : Int)
  · rw [if_pos (by simpa using h8)]
    by_cases h50 : (50 : Int) ≤ ((y - x : Nat) : Int)
    · rw [if_pos (by simpa using h50)]
      refine run_callF hb113 ((medAdjF_spec cm CC0 (Nat.le_refl _) hD hS (by omega) (by omega) (x := x + (y - x) / 4 * 1) (by omega) (by omega)).mono ?_)
      rintro _ h1 ⟨⟨u1, rfl, hu1⟩, S1, C1⟩
      have D1 : DtV val h1 b cap d := hD.keep (C1.get b (by simp; omega) (by omega))
      refine run_callF hb113 ((medAdjF_spec cm (chgSp CC0 C1 (Nat.le_refl _)) (Nat.le_refl _) D1 S1 (by omega) (by omega) (x := x + (y - x) / 4 * 2) (by omega) (by omega)).mono ?_)
      rintro _ h2 ⟨⟨u2, rfl, hu2⟩, S2, C2⟩
      have D2 : DtV val h2 b cap d := D1.keep (C2.get b (Row.lt D1) (by omega))
      refine run_callF hb113 ((medAdjF_spec cm (chgSp CC0 (C1.trans C2) (Nat.le_refl _)) (Nat.le_refl _) D2 S2 (by omega) (by omega) (x := x + (y - x) / 4 * 3) (by omega) (by omega)).mono ?_)
      rintro _ h3 ⟨⟨u3, rfl, hu3⟩, S3, C3⟩
      have D3 : DtV val h3 b cap d := D2.keep (C3.get b (Row.lt D2) (by omega))
      unfold choosePivF_c2
      simp only [rdU, reduceIte, Nat.reduceEqDiff, fr]
      refine run_callF hb114 ((medianF_spec cm (chgSp CC0 ((C1.trans C2).trans C3) (Nat.le_refl _)) (Nat.le_refl _) D3 S3 (by omega) (by omega) (by omega) (by omega)).mono ?_)
      rintro _ h4 ⟨⟨u, rfl, hu⟩, S4, C4⟩
      exact key _ _ u rfl rfl (by omega) (by omega) S4 (((C1.trans C2).trans C3).trans C4)
    · rw [if_neg (by simpa using h50)]
      unfold choosePivF_c2
      simp only [rdU, reduceIte, Nat.reduceEqDiff, fr]
      refine run_callF hb114 ((medianF_spec cm CC0 (Nat.le_refl _) hD hS (by omega) (x := x + (y - x) / 4 * 1) (y := x + (y - x) / 4 * 2) (z := x + (y - x) / 4 * 3) (by omega) (by omega) (by omega)).mono ?_)
      rintro _ h4 ⟨⟨u, rfl, hu⟩, S4, C4⟩
      exact key _ _ u rfl rfl (by omega) (by omega) S4 C4
  · rw [if_neg (by simpa using h8)]
    exact key _ _ (x + (y - x) / 4 * 2) rfl rfl (by omega) (by omega) hS (Chg.refl _ _)
end Go.Proofs.G
open Go Go.Hv
set_option maxRecDepth 100000
namespace Go.Proofs.G
variable {α : Type} [Inhabited α] {val : α → Value} {ls : α → α → Bool}
theorem hb99 : hasBody P 99 = true := by kernel_rfl
theorem hb100 : hasBody P 100 = true := by kernel_rfl
theorem hb101 : hasBody P 101 = true := by kernel_rfl
theorem hb102 : hasBody P 102 = true := by kernel_rfl
theorem hb103 : hasBody P 103 = true := by kernel_rfl
theorem hb104 : hasBody P 104 = true := by kernel_rfl
theorem hb98 : hasBody P 98 = true := by kernel_rfl
/-- a permutation within a range -/
def PermsV (val : α → Value) (b cap : Nat) (h : Heap) (x y : Nat) (d : Array α) (v : Value) (h' : Heap) : Prop := v = .tuple #[] ∧ Chg (fun c => c = b) h h' ∧ ∃ d', DtV val h' b cap d' ∧ Sort.PermIn x y d d'
theorem breakPF_spec {h0 : Heap} {b cap : Nat} {d0 : Array α} (cm : Cmp val ls b h0) (D0 : DtV val h0 b cap d0) {x y : Nat} (hxy : x < y) (hy : y ≤ d0.size) (hs : d0.size < 65536) :
    HCalls P 99 #[dv b d0.size cap, I x, I y, cf] h0 (PermsV val b cap h0 x y d0) := by
  refine breakPF_ok ?_
  unfold breakPF_c0
  have e1 : IntKind.i64.wrap ((y : Int) - x) = ((y - x : Nat) : Int) := by rw [show (y : Int) - x = ((y - x : Nat) : Int) by omega]; exact wI (by omega)
  simp only [fr, ops P, opsf P]
  rw [e1]
  by_cases h8 : (8 : Int) ≤ ((y - x : Nat) : Int)
  · rw [if_pos (by simpa using h8)]
    have c1 := (ans_convInt (n := ((y - x : Nat) : Int)) (h := h0) (j := .i64) u3 u134).run
    rw [c1, run_alloc z134]
    refine Hv.run_store o134 rfl (cell_at (get_push_new _ _) (v := .int .u64 0) rfl) (by simp [froz]) ?_
    have hX : Xs (setC (h0.push (.cells (Value.int .u64 0).cells 134)) ⟨h0.size, 0, none⟩ (.int .u64 (IntKind.u64.wrap ((y - x : Nat) : Int)))) h0.size := ⟨_, setC_get _ _ (get_push_new _ _)⟩
    have C0 : Chg (fun c => c = b) h0 (setC (h0.push (.cells (Value.int .u64 0).cells 134)) ⟨h0.size, 0, none⟩ (.int .u64 (IntKind.u64.wrap ((y - x : Nat) : Int)))) := ⟨by rw [setC_size]; simp, fun i hi _ => by rw [setC_get_ne _ _ _ (by simp; omega), get_push_old _ _ hi]⟩
    have D1 : DtV val (setC (h0.push (.cells (Value.int .u64 0).cells 134)) ⟨h0.size, 0, none⟩ (.int .u64 (IntKind.u64.wrap ((y - x : Nat) : Int)))) b cap d0 := D0.keep (by have := Row.lt D0; rw [setC_get_ne _ _ _ (by simp; omega), get_push_old _ _ (Row.lt D0)])
    have hbp : b < h0.size := Row.lt D0
    generalize setC (h0.push (.cells (Value.int .u64 0).cells 134)) ⟨h0.size, 0, none⟩ (.int .u64 (IntKind.u64.wrap ((y - x : Nat) : Int))) = h1 at *
    refine run_callF hb108 ((nextPow_spec (n := y - x) (by omega) h1).mono ?_)
    rintro _ h1 ⟨rfl, rfl⟩
    have e2 : IntKind.i64.wrap (((y - x : Nat) : Int).tdiv 4) = (((y - x) / 4 : Nat) : Int) := by
      rw [Int.tdiv_eq_ediv_of_nonneg (by omega)]
      exact wI (n := (y - x) / 4) (by omega)
    have e3 : IntKind.i64.wrap ((((y - x) / 4 : Nat) : Int) * 2) = (((y - x) / 4 * 2 : Nat) : Int) := wI (n := (y - x) / 4 * 2) (by omega)
    have e4 : IntKind.i64.wrap ((x : Int) + (((y - x) / 4 * 2 : Nat) : Int)) = ((x + (y - x) / 4 * 2 : Nat) : Int) := wAdd (by omega)
    have e5 : IntKind.i64.wrap (((x + (y - x) / 4 * 2 : Nat) : Int) - 1) = ((x + (y - x) / 4 * 2 - 1 : Nat) : Int) := wDec (by omega) (by omega)
    have e6 : IntKind.i64.wrap (((x + (y - x) / 4 * 2 : Nat) : Int) + 1) = ((x + (y - x) / 4 * 2 + 1 : Nat) : Int) := wInc (by omega)
    simp only [ops P, opsf P, quo_run (show (4 : Int) ≠ 0 by decide)]
    rw [e2, e3, e4, e5]
    have hm1 := Sort.two_pow_bitsLen_le (n := y - x) (by omega)
    have hm0 : 0 < 2 ^ Sort.bitsLen (y - x) := Nat.pow_pos (by decide)
    generalize 2 ^ Sort.bitsLen (y - x) = M at *
    refine lp_of (fun k f h => ∃ i d, k = x + (y - x) / 4 * 2 + 2 - i ∧ (f 0 = dv b d0.size cap ∧ f 3 = cf) ∧ f 1 = I x ∧ f 8 = I (y - x) ∧ f 9 = .pointer (some ⟨h0.size, 0, none⟩) ∧ f 10 = .int .u64 (M : Int) ∧ f 11 = I i ∧ x + (y - x) / 4 * 2 - 1 ≤ i ∧ i ≤ x + (y - x) / 4 * 2 + 2 ∧ Sort.PermIn x y d0 d ∧ DtV val h b cap d ∧ Xs h h0.size ∧ Chg (fun c => c = b) h0 h) _ ⟨x + (y - x) / 4 * 2 - 1, d0, rfl, ⟨rfl, rfl⟩, rfl, rfl, rfl, rfl, rfl, Nat.le_refl _, by omega, Sort.permIn_refl _ _ _, D1, hX, C0⟩ ?_
    rintro k f h Q' ⟨i, d, rfl, f0, f1, f6, f7, f8, f9, hi1, hi2, Pm, D, X, C⟩ on out
    have hd : d.size = d0.size := Pm.1
    unfold breakPF_L1
    simp only [f0, f1, f6, f7, f8, f9, ops P, opsf P, quo_run (show (4 : Int) ≠ 0 by decide)]
    rw [e2, e3, e4, e6, le_R]
    by_cases hc : i ≤ x + (y - x) / 4 * 2 + 1
    · rw [if_pos (by simpa using hc)]
      refine run_callF hb109 ((xorNext_spec X).mono ?_)
      rintro _ h2 ⟨⟨z, rfl⟩, X2, C2⟩
      have eM : IntKind.u64.wrap ((M : Int) - 1) = ((M - 1 : Nat) : Int) := by rw [show (M : Int) - 1 = ((M - 1 : Nat) : Int) by omega]; exact wU (by omega)
      obtain ⟨r, hr, er⟩ := and_lt z (m := M) hm0 (by omega)
      have a1 := (ans_and (P := P) (t := 112) (c := false) (d := false) (k := .u64) (a := z) (b := ((M - 1 : Nat) : Int)) (h := h2)).run
      rw [er] at a1
      have a2 := (ans_convInt (n := (r : Int)) (h := h2) (j := .u64) u112 u3).run
      rw [wI (by omega)] at a2
      simp only [ops P, opsf P, eM, a1, a2]
      have D2 : DtV val h2 b cap d := D.keep (C2.get b (Row.lt D) (by omega))
      have C2' : Chg (fun c => c = b) h0 h2 := ⟨Nat.le_trans C.size C2.size, fun i hi hn => (C2.get i (Nat.lt_of_lt_of_le hi C.size) (by omega)).trans (C.get i hi hn)⟩
      have swap : ∀ (f' : F) (o : Nat), (f' 0 = dv b d0.size cap ∧ f' 3 = cf) → f' 1 = I x → f' 8 = I (y - x) → f' 9 = .pointer (some ⟨h0.size, 0, none⟩) → f' 10 = .int .u64 (M : Int) → f' 11 = I i → f' 12 = I o → o < y - x → breakPF_c3 Q' f' h2 := by
        intro f' o g0 g1 g6 g7 g8 g9 g10 ho
        unfold breakPF_c3
        have i1 := ixV (b := b) (n := d0.size) (cap := cap) (i := i) (by omega) .i64
        have i2 := ixV (b := b) (n := d0.size) (cap := cap) (i := x + o) (by omega) .i64
        have l1 := D2.ld (i := i) (by omega)
        have l2 := D2.ld (i := x + o) (by omega)
        have w1 : IntKind.i64.wrap ((x : Int) + (o : Int)) = ((x + o : Nat) : Int) := wAdd (by omega)
        simp only [g0, g1, g9, g10, ops P, opsf P, w1, i1, i2, l1, l2]
        refine D2.st (by omega) _ (cm.one _) fun h3 D3 C3 s1 => ?_
        refine D3.st (by simp; omega) _ (cm.one _) fun h4 D4 C4 s2 => ?_
        unfold breakPF_c2
        simp only [rdU, reduceIte, Nat.reduceEqDiff, g9, ops P, opsf P]
        have X4 : Xs h4 h0.size := by
          obtain ⟨z, hz⟩ := X2
          have hl := lt_of_get hz
          exact ⟨z, by rw [C4.get _ (by omega) (by omega), C3.get _ hl (by omega)]; exact hz⟩
        refine on _ _ _ ?_ ⟨i + 1, Sort.swp d i (x + o), rfl, g0, g1, g6, g7, g8, congrArg _ (wInc (by omega)), by omega, by omega, ?_, D4, X4, (C2'.trans C3).trans C4⟩
        · omega
        · exact Sort.permIn_trans _ _ _ _ _ Pm (Sort.swp_permIn _ _ _ _ _ (by omega) (by omega) (by omega) (by omega) (by omega))
      by_cases hro : ((y - x : Nat) : Int) ≤ (r : Int)
      · rw [if_pos (by simpa using hro)]
        try simp only [ops P, opsf P]
        have e7 : IntKind.i64.wrap ((r : Int) - ((y - x : Nat) : Int)) = ((r - (y - x) : Nat) : Int) := by rw [show (r : Int) - ((y - x : Nat) : Int) = ((r - (y - x) : Nat) : Int) by omega]; exact wI (by omega)
        exact swap _ (r - (y - x)) f0 f1 f6 f7 f8 f9 (congrArg _ e7) (by omega)
      · rw [if_neg (by simpa using hro)]
        exact swap _ r f0 f1 f6 f7 f8 f9 rfl (by omega)
    · rw [if_neg (by simpa using hc)]
      refine out _ _ _ (by simp) ?_
      simp only [ex]
      exact post_end0 ⟨rfl, C, d, D, Pm⟩
  · rw [if_neg (by simpa using h8)]
    exact post_end0 ⟨rfl, Chg.refl _ _, d0, D0, Sort.permIn_refl _ _ _⟩

/-- sorted, too -/
def Sorted2V (val : α → Value) (ls : α → α → Bool) (b cap : Nat) (h : Heap) (x y : Nat) (d : Array α) (v : Value) (h' : Heap) : Prop := v = .tuple #[] ∧ Chg (fun c => c = b) h h' ∧ ∃ d', DtV val h' b cap d' ∧ Sort.PermIn x y d d' ∧ Sort.SortedIn ls x y d'
theorem pdqF_spec : ∀ (n : Nat) {h0 : Heap} {b cap : Nat} {d0 : Array α} (cm : Cmp val ls b h0) (D0 : DtV val h0 b cap d0) {x y : Nat} (l : Nat), y - x ≤ n → l < 4611686018427387904 → x ≤ y → y ≤ d0.size → d0.size < 65536 → Sort.Below ls x y d0 →
    HCalls P 76 #[dv b d0.size cap, I x, I y, I l, cf] h0 (Sorted2V val ls b cap h0 x y d0) := by
  intro n
  induction n using Nat.strongRecOn with
  | _ n ih =>
  intro h0 b cap d0 cm D0 x y l hn hl hxy hy hs hB
  refine pdqF_ok ?_
  unfold pdqF_c0
  refine lp_of (fun k f h => ∃ x' y' l d bl pt, k = y' - x' ∧ (f 0 = dv b d0.size cap ∧ f 4 = cf) ∧ f 1 = I x' ∧ f 2 = I y' ∧ f 3 = I l ∧ f 10 = .bool bl ∧ f 11 = .bool pt ∧ l < 4611686018427387904 ∧ x' ≤ y' ∧ y' - x' ≤ n ∧ y' ≤ d0.size ∧ d.size = d0.size ∧ Sort.Below ls x' y' d ∧ (∀ R, Sort.PermIn x' y' d R → Sort.SortedIn ls x' y' R → Sort.PermIn x y d0 R ∧ Sort.SortedIn ls x y R) ∧ DtV val h b cap d ∧ Chg (fun c => c = b) h0 h) _ ⟨x, y, l, d0, true, true, rfl, ⟨rfl, rfl⟩, rfl, rfl, rfl, rfl, rfl, hl, hxy, hn, hy, rfl, hB, fun R h1 h2 => ⟨h1, h2⟩, D0, Chg.refl _ _⟩ ?_
  rintro k f h Q' ⟨x', y', l, d, bl, pt, rfl, f0, f1, f2, f3, f8, f9, hl, hxy', hn', hy', hd, hB, fin, D, C⟩ on out
  unfold pdqF_L1
  have e1 : IntKind.i64.wrap ((y' : Int) - x') = ((y' - x' : Nat) : Int) := by rw [show (y' : Int) - x' = ((y' - x' : Nat) : Int) by omega]; exact wI (by omega)
  simp only [f0, f1, f2, f3, f8, ops P, opsf P, e1]
  rw [← hd] at f0
  by_cases h12 : ((y' - x' : Nat) : Int) ≤ 12
  · rw [if_pos (by simpa using h12)]
    have := insSortF_spec (cm.at C) D (x := x') (y := y') hxy' (by omega) (by omega)
    rw [hd] at this
    refine run_callF hb97 (this.mono ?_)
    rintro _ h1 ⟨rfl, D1, C1⟩
    refine out _ _ _ (by simp) ?_
    simp only [ex]
    obtain ⟨p1, p2⟩ := Sort.insertionSort_holds cm.swo d x' y' hxy' (by omega)
    obtain ⟨q1, q2⟩ := fin _ p1 p2
    exact post_ret0 ⟨rfl, C.trans C1, _, D1, q1, q2⟩
  rw [if_neg (by simpa using h12)]
  by_cases hl0 : (l : Int) = 0
  · rw [if_pos (by simpa using hl0)]
    have := heapSortF_spec (cm.at C) D (x := x') (y := y') (by omega) (by omega) (by omega)
    rw [hd] at this
    refine run_callF hb98 (this.mono ?_)
    rintro _ h1 ⟨rfl, D1, C1⟩
    refine out _ _ _ (by simp) ?_
    simp only [ex]
    obtain ⟨p1, p2⟩ := Sort.heapSort_holds cm.swo d x' y' hxy' (by omega)
    obtain ⟨q1, q2⟩ := fin _ p1 p2
    exact post_ret0 ⟨rfl, C.trans C1, _, D1, q1, q2⟩
  rw [if_neg (by simpa using hl0)]
  -- the last part of a round
  have c4 : ∀ (f' : F) (h' : Heap) (d' : Array α) (l' pv : Nat), (f' 0 = dv b d0.size cap ∧ f' 4 = cf) → f' 1 = I x' → f' 2 = I y' → f' 3 = I l' → f' 10 = .bool bl → f' 11 = .bool pt → f' 12 = I (y' - x') → f' 13 = I pv → l' < 4611686018427387904 → x' ≤ pv → pv < y' → Sort.PermIn x' y' d d' → DtV val h' b cap d' → Chg (fun c => c = b) h0 h' → pdqF_c4 Q' f' h' := by
    intro f' h' d' l' pv g0 g1 g2 g3 g8 g9 g10 g11 hl' hp1 hp2 Pm D' C'
    have hd' : d'.size = d0.size := Pm.1.trans hd
    have hB' : Sort.Below ls x' y' d' := hB.perm (by omega) Pm
    have fin' : ∀ R, Sort.PermIn x' y' d' R → Sort.SortedIn ls x' y' R → Sort.PermIn x y d0 R ∧ Sort.SortedIn ls x y R := fun R p s => fin R (Sort.permIn_trans _ _ _ _ _ Pm p) s
    unfold pdqF_c4
    simp only [g0, g1, g2, g3, g10, g11, ops P, opsf P, lt_gt]
    have i1 := fun (hx0 : 0 < x') => ixV (b := b) (n := d0.size) (cap := cap) (i := x' - 1) (by omega) .i64
    have i2 := ixV (b := b) (n := d0.size) (cap := cap) (i := pv) (by omega) .i64
    have l1 := fun (hx0 : 0 < x') => D'.ld (i := x' - 1) (by omega)
    have l2 := D'.ld (i := pv) (by omega)
    -- the way by partition
    have byPart : ∀ (K : Value → Heap → Prop), (∀ h2 mid ap d4, Sort.partition ls d' x' y' pv = (mid, ap, d4) → DtV val h2 b cap d4 → Chg (fun c => c = b) h0 h2 → K (.tuple #[I mid, .bool ap]) h2) → run P (.callF 104 [dv b d0.size cap, I x', I y', I pv, cf]) K h' := by
      intro K hK
      have := partF_spec (cm.at C') D' hp1 hp2 (by omega) (by omega)
      rw [hd'] at this
      refine run_callF hb104 (this.mono ?_)
      rintro _ h2 ⟨rfl, D2, C2⟩
      exact hK h2 _ _ _ rfl D2 (C'.trans C2)
    have rest : ∀ (mid : Nat) (ap : Bool) (d4 : Array α) (h2 : Heap) (fr : Exit → F → Heap → Prop), Sort.partition ls d' x' y' pv = (mid, ap, d4) → x' ≤ mid ∧ mid < y' := by
      intro mid ap d4 h2 fr hx
      obtain ⟨g1, g2, _⟩ := Sort.round_part cm.swo (Sort.partition_holds ls) hp1 hp2 (by omega) hB' hx
      exact ⟨g1, g2⟩
    have e7 : IntKind.i64.wrap (((y' - x' : Nat) : Int).tdiv 8) = (((y' - x') / 8 : Nat) : Int) := by
      rw [Int.tdiv_eq_ediv_of_nonneg (by omega)]
      exact wI (n := (y' - x') / 8) (by omega)
    have way2 : ∀ (w81 w82 w83 w84 w85 w86 w87 w88 w89 w90 w91 w92 w93 w94 w95 w96 w97 : Value), run P (X.callF 104 [(dv b d0.size cap), (I x'), (I y'), (I pv), (cf)]) (fun v111 h =>
    run P (X.extract v111 0) (fun v112 h =>
    run P (X.extract v111 1) (fun v113 h =>
    run P (X.bin .sub 3 false false v112 (I x')) (fun v117 h =>
    run P (X.bin .sub 3 false false (I y') v112) (fun v120 h =>
    run P (X.bin .quo 3 false true (I (y' - x')) (Value.int .i64 8)) (fun v122 h =>
    run P (X.bin .lss 3 false false v117 v120) (fun v125 h =>
    br v125 (
      run P (X.bin .geq 3 false false v117 v122) (fun v128 h =>
      run P (X.callF 76 [(dv b d0.size cap), (I x'), v112, (I l'), (cf)]) (fun v134 h =>
      run P (X.bin .add 3 false true v112 (Value.int .i64 1)) (fun v136 h =>
      Q' .normal (U f' [(81, w81), (82, w82), (83, w83), (84, w84), (85, w85), (86, w86), (87, w87), (88, w88), (89, w89), (90, w90), (91, w91), (92, w92), (93, w93), (94, w94), (95, w95), (96, w96), (97, w97), (106, (dv b d0.size cap)), (107, (I x')), (108, (I y')), (109, (I pv)), (110, (cf)), (111, v111), (105, v111), (112, v112), (113, v113), (16, v112), (17, v113), (114, v113), (11, v113), (115, v112), (116, (I x')), (117, v117), (118, (I y')), (119, v112), (120, v120), (18, v117), (19, v120), (121, (I (y' - x'))), (122, v122), (20, v122), (123, v117), (124, v120), (125, v125), (126, v117), (127, v122), (128, v128), (10, v128), (129, (dv b d0.size cap)), (130, (I x')), (131, v112), (132, (I l')), (133, (cf)), (134, v134), (135, v112), (136, v136), (1, v136)]) h
      ) h
      ) h
      ) h
    ) (
      run P (X.bin .geq 3 false false v120 v122) (fun v139 h =>
      run P (X.bin .add 3 false true v112 (Value.int .i64 1)) (fun v142 h =>
      run P (X.callF 76 [(dv b d0.size cap), v142, (I y'), (I l'), (cf)]) (fun v146 h =>
      Q' .normal (U f' [(81, w81), (82, w82), (83, w83), (84, w84), (85, w85), (86, w86), (87, w87), (88, w88), (89, w89), (90, w90), (91, w91), (92, w92), (93, w93), (94, w94), (95, w95), (96, w96), (97, w97), (106, (dv b d0.size cap)), (107, (I x')), (108, (I y')), (109, (I pv)), (110, (cf)), (111, v111), (105, v111), (112, v112), (113, v113), (16, v112), (17, v113), (114, v113), (11, v113), (115, v112), (116, (I x')), (117, v117), (118, (I y')), (119, v112), (120, v120), (18, v117), (19, v120), (121, (I (y' - x'))), (122, v122), (20, v122), (123, v117), (124, v120), (125, v125), (137, v120), (138, v122), (139, v139), (10, v139), (140, (dv b d0.size cap)), (141, v112), (142, v142), (143, (I y')), (144, (I l')), (145, (cf)), (146, v146), (147, v112), (2, v112)]) h
      ) h
      ) h
      ) h
    )
    ) h
    ) h
    ) h
    ) h
    ) h
    ) h
    ) h' := by
      intro w81 w82 w83 w84 w85 w86 w87 w88 w89 w90 w91 w92 w93 w94 w95 w96 w97
      refine byPart _ fun h2 mid ap d4 hx D2 C2 => ?_
      obtain ⟨m1, m2, hs4, hBa, hBr, hleft, hright⟩ := Sort.round_part cm.swo (Sort.partition_holds ls) hp1 hp2 (by omega) hB' hx
      have e2 : IntKind.i64.wrap ((mid : Int) - x') = ((mid - x' : Nat) : Int) := by rw [show (mid : Int) - x' = ((mid - x' : Nat) : Int) by omega]; exact wI (by omega)
      have e3 : IntKind.i64.wrap ((y' : Int) - mid) = ((y' - mid : Nat) : Int) := by rw [show (y' : Int) - mid = ((y' - mid : Nat) : Int) by omega]; exact wI (by omega)
      simp only [ops P, opsf P, e2, e3, quo_run (show (8 : Int) ≠ 0 by decide), e7]
      rw [lt_R]
      by_cases hc : mid - x' < y' - mid
      · rw [if_pos (by simpa using hc)]
        have := ih (mid - x') (by omega) (cm.at C2) D2 (x := x') (y := mid) l' (Nat.le_refl _) hl' m1 (by omega) (by omega) hBa
        rw [hs4, hd'] at this
        refine run_callF hb76 (this.mono ?_)
        rintro _ h3 ⟨rfl, C3, d5, D3, p1, p2⟩
        try simp only [ops P, opsf P]
        obtain ⟨hBL, hfin⟩ := hleft _ p1 p2
        refine on _ _ _ ?_ ⟨mid + 1, y', l', d5, _, ap, rfl, g0, congrArg _ (wInc (by omega)), g2, g3, rfl, rfl, hl', by omega, by omega, hy', p1.1.trans (hs4.trans hd'), hBL, fun R r s => ?_, D3, C2.trans C3⟩
        · omega
        · obtain ⟨q1, q2⟩ := hfin R r s
          exact fin' R q1 q2
      · rw [if_neg (by simpa using hc)]
        try simp only [ops P, opsf P]
        have e4 : IntKind.i64.wrap ((mid : Int) + 1) = ((mid + 1 : Nat) : Int) := wInc (by omega)
        rw [e4]
        have := ih (y' - (mid + 1)) (by omega) (cm.at C2) D2 (x := mid + 1) (y := y') l' (Nat.le_refl _) hl' (by omega) (by omega) (by omega) hBr
        rw [hs4, hd'] at this
        refine run_callF hb76 (this.mono ?_)
        rintro _ h3 ⟨rfl, C3, d5, D3, p1, p2⟩
        try simp only [ops P, opsf P]
        obtain ⟨hBL, hfin⟩ := hright _ p1 p2
        refine on _ _ _ ?_ ⟨x', mid, l', d5, _, ap, rfl, g0, g1, rfl, g3, rfl, rfl, hl', by omega, by omega, by omega, p1.1.trans (hs4.trans hd'), hBL, fun R r s => ?_, D3, C2.trans C3⟩
        · omega
        · obtain ⟨q1, q2⟩ := hfin R r s
          exact fin' R q1 q2
    have h0x : decide ((x' : Int) > 0) = decide (0 < x') := by
      by_cases hh : 0 < x'
      · have : (0 : Int) < x' := by omega
        simp [hh]
      · have : ¬ (0 : Int) < x' := by omega
        simp [hh]
    have h0x : decide ((0 : Int) < (x' : Int)) = decide (0 < x') := h0x
    simp only [h0x]
    by_cases hx0 : 0 < x'
    · have w1 : IntKind.i64.wrap ((x' : Int) - 1) = ((x' - 1 : Nat) : Int) := wDec (by omega) hx0
      simp only [hx0, decide_true, bb, ops P, opsf P, w1, i1 hx0, i2, l1 hx0, l2]
      refine cm.run (by first | assumption | exact Chg.refl _ _) _ _ fun _ => ?_
      simp only [ops P, opsf P, if_true]
      by_cases hlt : ls d'[x' - 1]! d'[pv]! = true
      · rw [if_neg (by simp [hlt])]
        exact way2 _ _ _ _ _ _ _ _ _ _ _ _ _ _ _ _ _
      · rw [if_pos (by simp [hlt])]
        have hnl : ls d'[x' - 1]! d'[pv]! = false := by simpa using hlt
        have := partEqF_spec (cm.at C') D' hp1 hp2 (by omega) (by omega)
        rw [hd'] at this
        refine run_callF hb103 (this.mono ?_)
        rintro _ h2 ⟨rfl, D2, C2⟩
        obtain ⟨m1, m2, hs4, hB4, hfin⟩ := Sort.round_eq cm.swo (Sort.partitionEqual_holds ls) hx0 hp1 hp2 (by omega) hB' hnl (show Sort.partitionEqual ls d' x' y' pv = ((Sort.partitionEqual ls d' x' y' pv).1, (Sort.partitionEqual ls d' x' y' pv).2) from rfl)
        refine on _ _ _ ?_ ⟨(Sort.partitionEqual ls d' x' y' pv).1, y', l', (Sort.partitionEqual ls d' x' y' pv).2, bl, pt, rfl, g0, rfl, g2, g3, g8, g9, hl', m2, by omega, hy', hs4.trans hd', hB4, fun R r s => ?_, D2, C'.trans C2⟩
        · omega
        · obtain ⟨q1, q2⟩ := hfin R r s
          exact fin' R q1 q2
    · simp only [hx0, decide_false, bb, ops P, opsf P, if_false]
      exact way2 _ _ _ _ _ _ _ _ _ _ _ _ _ _ _ _ _
  -- the part ahead of it
  have c3 : ∀ (f' : F) (h' : Heap) (d' : Array α) (l' pv t : Nat), (f' 0 = dv b d0.size cap ∧ f' 4 = cf) → f' 1 = I x' → f' 2 = I y' → f' 3 = I l' → f' 10 = .bool bl → f' 11 = .bool pt → f' 12 = I (y' - x') → f' 13 = I pv → f' 14 = I t → l' < 4611686018427387904 → x' ≤ pv → pv < y' → Sort.PermIn x' y' d d' → DtV val h' b cap d' → Chg (fun c => c = b) h0 h' → pdqF_c3 Q' f' h' := by
    intro f' h' d' l' pv t g0 g1 g2 g3 g8 g9 g10 g11 g12 hl' hp1 hp2 Pm D' C'
    have hd' : d'.size = d0.size := Pm.1.trans hd
    unfold pdqF_c3
    have pins : ∀ (w : F) , (w 0 = dv b d0.size cap ∧ w 4 = cf) → w 1 = I x' → w 2 = I y' → w 3 = I l' → w 10 = .bool bl → w 11 = .bool pt → w 12 = I (y' - x') → w 13 = I pv → run P (.callF 102 [dv b d0.size cap, I x', I y', cf]) (fun v72 h => br v72 (Q' .ret (U w [(80, v72)]) h) (pdqF_c4 Q' (U w [(80, v72)]) h)) h' := by
      intro w k0 k1 k2 k3 k8 k9 k10 k11
      have := partInsF_spec (cm.at C') D' (x := x') (y := y') (by omega) (by omega) (by omega)
      rw [hd'] at this
      refine run_callF hb102 (this.mono ?_)
      rintro _ h2 ⟨rfl, D2, C2⟩
      have hB' : Sort.Below ls x' y' d' := hB.perm (by omega) Pm
      obtain ⟨p1, p2⟩ := Sort.partialInsertionSort_holds cm.swo d' x' y' (by omega) (by omega) hB'
      simp only [ops P, opsf P]
      by_cases hc : (Sort.partialInsertionSort ls d' x' y').2 = true
      · rw [if_pos hc]
        refine out _ _ _ (by simp) ?_
        simp only [ex]
        obtain ⟨q1, q2⟩ := fin _ (Sort.permIn_trans _ _ _ _ _ Pm p1) (p2 hc)
        exact post_ret0 ⟨rfl, C'.trans C2, _, D2, q1, q2⟩
      · rw [if_neg hc]
        exact c4 _ _ _ l' pv k0 k1 k2 k3 k8 k9 k10 k11 hl' hp1 hp2 (Sort.permIn_trans _ _ _ _ _ Pm p1) D2 (C'.trans C2)
    simp only [g0, g1, g2, g8, g9, g12, ops P, opsf P]
    cases bl with
    | false =>
      simp only [ops P, opsf P, bb, if_false]
      exact c4 _ _ _ l' pv g0 g1 g2 g3 g8 g9 g10 g11 hl' hp1 hp2 Pm D' C'
    | true =>
      cases pt with
      | false =>
        simp only [ops P, opsf P, bb, if_true, if_false]
        exact c4 _ _ _ l' pv g0 g1 g2 g3 g8 g9 g10 g11 hl' hp1 hp2 Pm D' C'
      | true =>
        simp only [ops P, opsf P, bb, if_true, if_false]
        by_cases ht : ((t : Int) == 1) = true
        · rw [if_pos ht]
          exact pins (U f' [(68, .bool true), (69, .bool true), (70, .bool true), (71, .bool true), (72, .bool true), (73, I t), (74, .bool ((t : Int) == 1)), (75, .bool ((t : Int) == 1)), (76, dv b d0.size cap), (77, I x'), (78, I y'), (79, cf)]) g0 g1 g2 g3 g8 g9 g10 g11
        · rw [if_neg ht]
          exact c4 _ _ _ l' pv g0 g1 g2 g3 g8 g9 g10 g11 hl' hp1 hp2 Pm D' C'
  -- and what is ahead of that
  have c2 : ∀ (f' : F) (h' : Heap) (d' : Array α) (l' : Nat), (f' 0 = dv b d0.size cap ∧ f' 4 = cf) → f' 1 = I x' → f' 2 = I y' → f' 3 = I l' → f' 10 = .bool bl → f' 11 = .bool pt → f' 12 = I (y' - x') → l' < 4611686018427387904 → Sort.PermIn x' y' d d' → DtV val h' b cap d' → Chg (fun c => c = b) h0 h' → pdqF_c2 Q' f' h' := by
    intro f' h' d' l' g0 g1 g2 g3 g8 g9 g10 hl' Pm D' C'
    have hd' : d'.size = d0.size := Pm.1.trans hd
    unfold pdqF_c2
    simp only [g0, g1, g2]
    have := choosePivF_spec (cm.at C') D' (x := x') (y := y') (by omega) (by omega) (by omega)
    rw [hd'] at this
    refine run_callF hb100 (this.mono ?_)
    rintro _ h2 ⟨⟨pv, t, rfl, hp1, hp2, ht⟩, C2⟩
    have D2 : DtV val h2 b cap d' := D'.keep (C2.get b (Row.lt D') (fun h => h))
    have C2 : Chg (fun c => c = b) h0 h2 := C'.trans (C2.mono fun _ _ h => h.elim)
    simp only [ops P, opsf P]
    by_cases ht2 : ((t : Int) == 2) = true
    · rw [if_pos ht2]
      have := revRangeF_spec (cm.at C2) D2 (x := x') (y := y') (by omega) (by omega) (by omega)
      rw [hd'] at this
      refine run_callF hb101 (this.mono ?_)
      rintro _ h3 ⟨rfl, D3, C3⟩
      have e2 : IntKind.i64.wrap ((y' : Int) - 1) = ((y' - 1 : Nat) : Int) := wDec (by omega) (by omega)
      have e3 : IntKind.i64.wrap ((pv : Int) - x') = ((pv - x' : Nat) : Int) := by rw [show (pv : Int) - x' = ((pv - x' : Nat) : Int) by omega]; exact wI (by omega)
      have e4 : IntKind.i64.wrap (((y' - 1 : Nat) : Int) - ((pv - x' : Nat) : Int)) = ((y' - 1 - (pv - x') : Nat) : Int) := by rw [show ((y' - 1 : Nat) : Int) - ((pv - x' : Nat) : Int) = ((y' - 1 - (pv - x') : Nat) : Int) by omega]; exact wI (by omega)
      try simp only [ops P, opsf P, e2, e3, e4]
      exact c3 _ _ _ l' (y' - 1 - (pv - x')) 1 g0 g1 g2 g3 g8 g9 g10 (by first | rfl | (simp only [rdU, reduceIte, Nat.reduceEqDiff, e2, e3, e4])) rfl hl' (by omega) (by omega) (Sort.permIn_trans _ _ _ _ _ Pm (Sort.reverseRange_holds d' x' y' hxy' (by omega))) D3 (C2.trans C3)
    · rw [if_neg ht2]
      exact c3 _ _ _ l' pv t g0 g1 g2 g3 g8 g9 g10 rfl rfl hl' hp1 hp2 Pm D2 C2
  cases bl with
  | true =>
    simp only [ops P, opsf P, bb, if_false]
    exact c2 _ _ d l ⟨by rw [← hd]; exact f0.1, f0.2⟩ f1 f2 f3 f8 f9 rfl hl (Sort.permIn_refl _ _ _) D C
  | false =>
    simp only [ops P, opsf P, bb, if_true]
    have := breakPF_spec (cm.at C) D (x := x') (y := y') (by omega) (by omega) (by omega)
    rw [hd] at this
    refine run_callF hb99 (this.mono ?_)
    rintro _ h1 ⟨rfl, C1, d1, D1, p1⟩
    try simp only [ops P, opsf P]
    have e2 : IntKind.i64.wrap ((l : Int) - 1) = ((l - 1 : Nat) : Int) := wDec (by omega) (by omega)
    exact c2 _ _ d1 (l - 1) ⟨by rw [← hd]; exact f0.1, f0.2⟩ f1 f2 (congrArg _ e2) f8 f9 rfl (by omega) p1 D1 (C.trans C1)
/-- slices.SortFunc, whatever the length -/
theorem sf_all {m : Nat} (hm : m < 65536) : SF m := by
  intro α _ val ls h0 b cap d0 hd cm D0
  refine sortFunc_ok ?_
  unfold sortFunc_c0
  have e1 : ∀ K h, run P (.builtin .len #[36] 3 [false] [dv b d0.size cap]) K h = K (I d0.size) h := fun K h => (ans_lenSlice (P := P) s36).run K
  have e2 := (ans_convInt (n := (d0.size : Int)) (h := h0) (j := .i64) u3 u112).run
  rw [wU (by omega)] at e2
  simp only [fr, e1, e2]
  refine run_callF hb75 ((len75_spec d0.size (by omega) h0).mono ?_)
  rintro _ _ ⟨rfl, rfl⟩
  rename_i h0
  have hbl : Sort.bitsLen d0.size ≤ 16 := (Sort.bitsLen_le_iff d0.size 16).2 (by omega)
  refine run_callF hb76 ((pdqF_spec d0.size cm D0 (x := 0) (y := d0.size) (Sort.bitsLen d0.size) (by omega) (by omega) (Nat.zero_le _) (Nat.le_refl _) (by omega) (.inl rfl)).mono ?_)
  rintro _ h2 ⟨rfl, C2, d', D2, p1, p2⟩
  rw [hd] at p1 p2
  exact post_end0 ⟨C2, d', D2, p1, p2⟩
end Go.Proofs.G
