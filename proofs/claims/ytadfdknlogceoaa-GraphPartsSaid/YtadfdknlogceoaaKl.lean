import Derived.Test.YtadfdknlogceoaaKk
set_option linter.all false
open Go Go.Hv
set_option maxRecDepth 100000
namespace Go.Proofs.G
theorem le_R {a b : Nat} : decide ((a : Int) ≤ (b : Int)) = decide (a ≤ b) := by
  by_cases h : a ≤ b
  · have : ((a : Int) ≤ (b : Int)) := by omega
    simp [h]
  · have : ¬ ((a : Int) ≤ (b : Int)) := by omega
    simp [h, this]
theorem part_up0 {Q : Exit → F → Heap → Prop} {f : F} {h : Heap} {b cap : Nat} {d : Array Nat} {a i j : Nat} (D : Dt h b cap d) (f0 : f 0 = dv b d.size cap) (f1 : f 1 = I a) (fi : f 10 = I i) (fj : f 11 = I j) (ha : a < d.size) (hj : j < d.size) (hs : d.size < 1152921504606846976)
    (hk : ∀ f' : F, f' 0 = dv b d.size cap → f' 1 = I a → f' 10 = I (Sort.scanUp (fun x => lt x d[a]!) d j i) → f' 11 = I j → Q (.exit 0) f' h) : lp part_L10 Q f h := by
  refine lp_of (fun k f h' => ∃ t, k = j + 1 - t ∧ f 0 = dv b d.size cap ∧ f 1 = I a ∧ f 10 = I t ∧ f 11 = I j ∧ Sort.scanUp (fun x => lt x d[a]!) d j t = Sort.scanUp (fun x => lt x d[a]!) d j i ∧ h = h') _ ⟨i, rfl, f0, f1, fi, fj, rfl, rfl⟩ ?_
  rintro k f _ Q' ⟨t, rfl, f0, f1, fi, fj, hE, rfl⟩ on out
  unfold part_L10
  simp only [f0, f1, fi, fj, ops P, le_R]
  rw [Sort.scanUp] at hE
  by_cases ht : t ≤ j
  · have i1 := ix (b := b) (n := d.size) (cap := cap) (i := t) (by omega) .i64
    have i2 := ix (b := b) (n := d.size) (cap := cap) (i := a) (by omega) .i64
    have l1 := D.ld (i := t) (by omega)
    have l2 := D.ld (i := a) (by omega)
    simp only [ht, decide_true, bb, ops P, i1, i2, l1, l2]
    refine still_callF hb78 _ (less_spec _ _ h) ?_
    simp only [ops P, if_true]
    by_cases hl : lt d[t]! d[a]! = true
    · simp only [hl, Bool.not_true, Bool.not_false, if_true, if_false, ht, decide_true, Bool.and_true, Bool.true_and, Bool.false_and, Bool.and_false, bb, reduceIte] at hE ⊢
      refine on _ _ _ ?_ ⟨t + 1, rfl, f0, f1, congrArg _ (wInc (by omega)), fj, hE, rfl⟩
      omega
    · have hl : lt d[t]! d[a]! = false := by simpa using hl
      simp only [hl, Bool.not_true, Bool.not_false, if_true, if_false, ht, decide_true, Bool.and_true, Bool.true_and, Bool.false_and, Bool.and_false, bb, reduceIte] at hE ⊢
      refine out _ _ _ (by simp) ?_
      exact hk _ f0 f1 (by rw [← hE]; exact fi) fj
  · simp only [ht, decide_false, bb, ops P, if_false, Bool.false_and, reduceIte] at hE ⊢
    refine out _ _ _ (by simp) ?_
    exact hk _ f0 f1 (by rw [← hE]; exact fi) fj
theorem part_up1 {Q : Exit → F → Heap → Prop} {f : F} {h : Heap} {b cap : Nat} {d : Array Nat} {a i j : Nat} (D : Dt h b cap d) (f0 : f 0 = dv b d.size cap) (f1 : f 1 = I a) (fi : f 10 = I i) (fj : f 11 = I j) (ha : a < d.size) (hj : j < d.size) (hs : d.size < 1152921504606846976)
    (hk : ∀ f' : F, f' 0 = dv b d.size cap → f' 1 = I a → f' 10 = I (Sort.scanUp (fun x => lt x d[a]!) d j i) → f' 11 = I j → Q (.exit 6) f' h) : lp part_L8 Q f h := by
  refine lp_of (fun k f h' => ∃ t, k = j + 1 - t ∧ f 0 = dv b d.size cap ∧ f 1 = I a ∧ f 10 = I t ∧ f 11 = I j ∧ Sort.scanUp (fun x => lt x d[a]!) d j t = Sort.scanUp (fun x => lt x d[a]!) d j i ∧ h = h') _ ⟨i, rfl, f0, f1, fi, fj, rfl, rfl⟩ ?_
  rintro k f _ Q' ⟨t, rfl, f0, f1, fi, fj, hE, rfl⟩ on out
  unfold part_L8
  simp only [f0, f1, fi, fj, ops P, le_R]
  rw [Sort.scanUp] at hE
  by_cases ht : t ≤ j
  · have i1 := ix (b := b) (n := d.size) (cap := cap) (i := t) (by omega) .i64
    have i2 := ix (b := b) (n := d.size) (cap := cap) (i := a) (by omega) .i64
    have l1 := D.ld (i := t) (by omega)
    have l2 := D.ld (i := a) (by omega)
    simp only [ht, decide_true, bb, ops P, i1, i2, l1, l2]
    refine still_callF hb78 _ (less_spec _ _ h) ?_
    simp only [ops P, if_true]
    by_cases hl : lt d[t]! d[a]! = true
    · simp only [hl, Bool.not_true, Bool.not_false, if_true, if_false, ht, decide_true, Bool.and_true, Bool.true_and, Bool.false_and, Bool.and_false, bb, reduceIte] at hE ⊢
      refine on _ _ _ ?_ ⟨t + 1, rfl, f0, f1, congrArg _ (wInc (by omega)), fj, hE, rfl⟩
      omega
    · have hl : lt d[t]! d[a]! = false := by simpa using hl
      simp only [hl, Bool.not_true, Bool.not_false, if_true, if_false, ht, decide_true, Bool.and_true, Bool.true_and, Bool.false_and, Bool.and_false, bb, reduceIte] at hE ⊢
      refine out _ _ _ (by simp) ?_
      exact hk _ f0 f1 (by rw [← hE]; exact fi) fj
  · simp only [ht, decide_false, bb, ops P, if_false, Bool.false_and, reduceIte] at hE ⊢
    refine out _ _ _ (by simp) ?_
    exact hk _ f0 f1 (by rw [← hE]; exact fi) fj
theorem part_dn0 {Q : Exit → F → Heap → Prop} {f : F} {h : Heap} {b cap : Nat} {d : Array Nat} {a i j : Nat} (D : Dt h b cap d) (f0 : f 0 = dv b d.size cap) (f1 : f 1 = I a) (fi : f 10 = I i) (fj : f 11 = I j) (ha : a < d.size) (hi : 0 < i) (hj : j < d.size) (hs : d.size < 1152921504606846976)
    (hk : ∀ f' : F, f' 0 = dv b d.size cap → f' 1 = I a → f' 10 = I i → f' 11 = I (Sort.scanDown (fun x => !lt x d[a]!) d i j) → Q (.exit 2) f' h) : lp part_L9 Q f h := by
  refine lp_of (fun t f h' => f 0 = dv b d.size cap ∧ f 1 = I a ∧ f 10 = I i ∧ f 11 = I t ∧ t ≤ j ∧ Sort.scanDown (fun x => !lt x d[a]!) d i t = Sort.scanDown (fun x => !lt x d[a]!) d i j ∧ h = h') j ⟨f0, f1, fi, fj, Nat.le_refl _, rfl, rfl⟩ ?_
  rintro t f _ Q' ⟨f0, f1, fi, fj, htj, hE, rfl⟩ on out
  unfold part_L9
  simp only [f0, f1, fi, fj, ops P, le_R]
  by_cases ht : i ≤ t
  · obtain ⟨t, rfl⟩ : ∃ t', t = t' + 1 := ⟨t - 1, by omega⟩
    rw [Sort.scanDown] at hE
    have i1 := ix (b := b) (n := d.size) (cap := cap) (i := t + 1) (by omega) .i64
    have i2 := ix (b := b) (n := d.size) (cap := cap) (i := a) (by omega) .i64
    have l1 := D.ld (i := t + 1) (by omega)
    have l2 := D.ld (i := a) (by omega)
    have w1 : IntKind.i64.wrap (((t + 1 : Nat) : Int) - 1) = (t : Int) := wDec (n := t + 1) (by omega) (by omega)
    simp only [ht, decide_true, bb, ops P, i1, i2, l1, l2]
    refine still_callF hb78 _ (less_spec _ _ h) ?_
    simp only [ops P, if_true]
    by_cases hl : lt d[t + 1]! d[a]! = true
    · simp only [hl, Bool.not_true, Bool.not_false, if_true, if_false, ht, decide_true, Bool.and_true, Bool.true_and, Bool.false_and, Bool.and_false, bb, reduceIte] at hE ⊢
      refine out _ _ _ (by simp) ?_
      exact hk _ f0 f1 fi (by rw [← hE]; exact fj)
    · have hl : lt d[t + 1]! d[a]! = false := by simpa using hl
      simp only [hl, Bool.not_true, Bool.not_false, if_true, if_false, ht, decide_true, Bool.and_true, Bool.true_and, Bool.false_and, Bool.and_false, bb, reduceIte] at hE ⊢
      exact on t _ _ (Nat.lt_succ_self t) ⟨f0, f1, fi, congrArg _ w1, by omega, hE, rfl⟩
  · simp only [ht, decide_false, bb, ops P, if_false, Bool.false_and, reduceIte]
    refine out _ _ _ (by simp) ?_
    have hE : t = Sort.scanDown (fun x => !lt x d[a]!) d i j := by
      rw [← hE]
      cases t with
      | zero => rfl
      | succ t => rw [Sort.scanDown, if_neg (by simp [ht])]
    exact hk _ f0 f1 fi (by rw [← hE]; exact fj)
theorem part_dn1 {Q : Exit → F → Heap → Prop} {f : F} {h : Heap} {b cap : Nat} {d : Array Nat} {a i j : Nat} (D : Dt h b cap d) (f0 : f 0 = dv b d.size cap) (f1 : f 1 = I a) (fi : f 10 = I i) (fj : f 11 = I j) (ha : a < d.size) (hi : 0 < i) (hj : j < d.size) (hs : d.size < 1152921504606846976)
    (hk : ∀ f' : F, f' 0 = dv b d.size cap → f' 1 = I a → f' 10 = I i → f' 11 = I (Sort.scanDown (fun x => !lt x d[a]!) d i j) → Q (.exit 8) f' h) : lp part_L7 Q f h := by
  refine lp_of (fun t f h' => f 0 = dv b d.size cap ∧ f 1 = I a ∧ f 10 = I i ∧ f 11 = I t ∧ t ≤ j ∧ Sort.scanDown (fun x => !lt x d[a]!) d i t = Sort.scanDown (fun x => !lt x d[a]!) d i j ∧ h = h') j ⟨f0, f1, fi, fj, Nat.le_refl _, rfl, rfl⟩ ?_
  rintro t f _ Q' ⟨f0, f1, fi, fj, htj, hE, rfl⟩ on out
  unfold part_L7
  simp only [f0, f1, fi, fj, ops P, le_R]
  by_cases ht : i ≤ t
  · obtain ⟨t, rfl⟩ : ∃ t', t = t' + 1 := ⟨t - 1, by omega⟩
    rw [Sort.scanDown] at hE
    have i1 := ix (b := b) (n := d.size) (cap := cap) (i := t + 1) (by omega) .i64
    have i2 := ix (b := b) (n := d.size) (cap := cap) (i := a) (by omega) .i64
    have l1 := D.ld (i := t + 1) (by omega)
    have l2 := D.ld (i := a) (by omega)
    have w1 : IntKind.i64.wrap (((t + 1 : Nat) : Int) - 1) = (t : Int) := wDec (n := t + 1) (by omega) (by omega)
    simp only [ht, decide_true, bb, ops P, i1, i2, l1, l2]
    refine still_callF hb78 _ (less_spec _ _ h) ?_
    simp only [ops P, if_true]
    by_cases hl : lt d[t + 1]! d[a]! = true
    · simp only [hl, Bool.not_true, Bool.not_false, if_true, if_false, ht, decide_true, Bool.and_true, Bool.true_and, Bool.false_and, Bool.and_false, bb, reduceIte] at hE ⊢
      refine out _ _ _ (by simp) ?_
      exact hk _ f0 f1 fi (by rw [← hE]; exact fj)
    · have hl : lt d[t + 1]! d[a]! = false := by simpa using hl
      simp only [hl, Bool.not_true, Bool.not_false, if_true, if_false, ht, decide_true, Bool.and_true, Bool.true_and, Bool.false_and, Bool.and_false, bb, reduceIte] at hE ⊢
      exact on t _ _ (Nat.lt_succ_self t) ⟨f0, f1, fi, congrArg _ w1, by omega, hE, rfl⟩
  · simp only [ht, decide_false, bb, ops P, if_false, Bool.false_and, reduceIte]
    refine out _ _ _ (by simp) ?_
    have hE : t = Sort.scanDown (fun x => !lt x d[a]!) d i j := by
      rw [← hE]
      cases t with
      | zero => rfl
      | succ t => rw [Sort.scanDown, if_neg (by simp [ht])]
    exact hk _ f0 f1 fi (by rw [← hE]; exact fj)
theorem partEq_up {Q : Exit → F → Heap → Prop} {f : F} {h : Heap} {b cap : Nat} {d : Array Nat} {a i j : Nat} (D : Dt h b cap d) (f0 : f 0 = dv b d.size cap) (f1 : f 1 = I a) (fi : f 9 = I i) (fj : f 10 = I j) (ha : a < d.size) (hj : j < d.size) (hs : d.size < 1152921504606846976)
    (hk : ∀ f' : F, f' 0 = dv b d.size cap → f' 1 = I a → f' 9 = I (Sort.scanUp (fun x => !lt d[a]! x) d j i) → f' 10 = I j → Q (.exit 2) f' h) : lp partEq_L6 Q f h := by
  refine lp_of (fun k f h' => ∃ t, k = j + 1 - t ∧ f 0 = dv b d.size cap ∧ f 1 = I a ∧ f 9 = I t ∧ f 10 = I j ∧ Sort.scanUp (fun x => !lt d[a]! x) d j t = Sort.scanUp (fun x => !lt d[a]! x) d j i ∧ h = h') _ ⟨i, rfl, f0, f1, fi, fj, rfl, rfl⟩ ?_
  rintro k f _ Q' ⟨t, rfl, f0, f1, fi, fj, hE, rfl⟩ on out
  unfold partEq_L6
  simp only [f0, f1, fi, fj, ops P, le_R]
  rw [Sort.scanUp] at hE
  by_cases ht : t ≤ j
  · have i1 := ix (b := b) (n := d.size) (cap := cap) (i := t) (by omega) .i64
    have i2 := ix (b := b) (n := d.size) (cap := cap) (i := a) (by omega) .i64
    have l1 := D.ld (i := t) (by omega)
    have l2 := D.ld (i := a) (by omega)
    simp only [ht, decide_true, bb, ops P, i1, i2, l1, l2]
    refine still_callF hb78 _ (less_spec _ _ h) ?_
    simp only [ops P, if_true]
    by_cases hl : lt d[a]! d[t]! = true
    · simp only [hl, Bool.not_true, Bool.not_false, if_true, if_false, ht, decide_true, Bool.and_true, Bool.true_and, Bool.false_and, Bool.and_false, bb, reduceIte] at hE ⊢
      refine out _ _ _ (by simp) ?_
      exact hk _ f0 f1 (by rw [← hE]; exact fi) fj
    · have hl : lt d[a]! d[t]! = false := by simpa using hl
      simp only [hl, Bool.not_true, Bool.not_false, if_true, if_false, ht, decide_true, Bool.and_true, Bool.true_and, Bool.false_and, Bool.and_false, bb, reduceIte] at hE ⊢
      refine on _ _ _ ?_ ⟨t + 1, rfl, f0, f1, congrArg _ (wInc (by omega)), fj, hE, rfl⟩
      omega
  · simp only [ht, decide_false, bb, ops P, if_false, Bool.false_and, reduceIte] at hE ⊢
    refine out _ _ _ (by simp) ?_
    exact hk _ f0 f1 (by rw [← hE]; exact fi) fj
theorem partEq_dn {Q : Exit → F → Heap → Prop} {f : F} {h : Heap} {b cap : Nat} {d : Array Nat} {a i j : Nat} (D : Dt h b cap d) (f0 : f 0 = dv b d.size cap) (f1 : f 1 = I a) (fi : f 9 = I i) (fj : f 10 = I j) (ha : a < d.size) (hi : 0 < i) (hj : j < d.size) (hs : d.size < 1152921504606846976)
    (hk : ∀ f' : F, f' 0 = dv b d.size cap → f' 1 = I a → f' 9 = I i → f' 10 = I (Sort.scanDown (fun x => lt d[a]! x) d i j) → Q (.exit 4) f' h) : lp partEq_L5 Q f h := by
  refine lp_of (fun t f h' => f 0 = dv b d.size cap ∧ f 1 = I a ∧ f 9 = I i ∧ f 10 = I t ∧ t ≤ j ∧ Sort.scanDown (fun x => lt d[a]! x) d i t = Sort.scanDown (fun x => lt d[a]! x) d i j ∧ h = h') j ⟨f0, f1, fi, fj, Nat.le_refl _, rfl, rfl⟩ ?_
  rintro t f _ Q' ⟨f0, f1, fi, fj, htj, hE, rfl⟩ on out
  unfold partEq_L5
  simp only [f0, f1, fi, fj, ops P, le_R]
  by_cases ht : i ≤ t
  · obtain ⟨t, rfl⟩ : ∃ t', t = t' + 1 := ⟨t - 1, by omega⟩
    rw [Sort.scanDown] at hE
    have i1 := ix (b := b) (n := d.size) (cap := cap) (i := t + 1) (by omega) .i64
    have i2 := ix (b := b) (n := d.size) (cap := cap) (i := a) (by omega) .i64
    have l1 := D.ld (i := t + 1) (by omega)
    have l2 := D.ld (i := a) (by omega)
    have w1 : IntKind.i64.wrap (((t + 1 : Nat) : Int) - 1) = (t : Int) := wDec (n := t + 1) (by omega) (by omega)
    simp only [ht, decide_true, bb, ops P, i1, i2, l1, l2]
    refine still_callF hb78 _ (less_spec _ _ h) ?_
    simp only [ops P, if_true]
    by_cases hl : lt d[a]! d[t + 1]! = true
    · simp only [hl, Bool.not_true, Bool.not_false, if_true, if_false, ht, decide_true, Bool.and_true, Bool.true_and, Bool.false_and, Bool.and_false, bb, reduceIte] at hE ⊢
      exact on t _ _ (Nat.lt_succ_self t) ⟨f0, f1, fi, congrArg _ w1, by omega, hE, rfl⟩
    · have hl : lt d[a]! d[t + 1]! = false := by simpa using hl
      simp only [hl, Bool.not_true, Bool.not_false, if_true, if_false, ht, decide_true, Bool.and_true, Bool.true_and, Bool.false_and, Bool.and_false, bb, reduceIte] at hE ⊢
      refine out _ _ _ (by simp) ?_
      exact hk _ f0 f1 fi (by rw [← hE]; exact fj)
  · simp only [ht, decide_false, bb, ops P, if_false, Bool.false_and, reduceIte]
    refine out _ _ _ (by simp) ?_
    have hE : t = Sort.scanDown (fun x => lt d[a]! x) d i j := by
      rw [← hE]
      cases t with
      | zero => rfl
      | succ t => rw [Sort.scanDown, if_neg (by simp [ht])]
    exact hk _ f0 f1 fi (by rw [← hE]; exact fj)
end Go.Proofs.G
open Go Go.Hv
set_option maxRecDepth 100000
namespace Go.Proofs.G
theorem scanUp_rng (p : Nat → Bool) (d : Array Nat) (j i : Nat) (hi : i ≤ j + 1) : i ≤ Sort.scanUp p d j i ∧ Sort.scanUp p d j i ≤ j + 1 ∧ (Sort.scanUp p d j i ≤ j → p d[Sort.scanUp p d j i]! = false) := ⟨Sort.scanUp_ge p d j i, (Sort.scanUp_spec p d j _ i rfl).2.1 hi, (Sort.scanUp_spec p d j _ i rfl).2.2.2⟩
theorem scanDown_rng (p : Nat → Bool) (d : Array Nat) (i j : Nat) (hi : i ≤ j + 1) : Sort.scanDown p d i j ≤ j ∧ i ≤ Sort.scanDown p d i j + 1 ∧ (i ≤ Sort.scanDown p d i j → 0 < Sort.scanDown p d i j → p d[Sort.scanDown p d i j]! = false) := ⟨(Sort.scanDown_spec p d i j).1, (Sort.scanDown_spec p d i j).2.1 hi, (Sort.scanDown_spec p d i j).2.2.2⟩

theorem partEq_spec {h0 : Heap} {b cap : Nat} {d0 : Array Nat} (D0 : Dt h0 b cap d0) {x y pv : Nat} (hx : x ≤ pv) (hpy : pv < y) (hy : y ≤ d0.size) (hs : d0.size < 1152921504606846976) :
    HCalls P 93 #[dv b d0.size cap, I x, I y, I pv] h0 fun v h' => v = I (Sort.partitionEqual lt d0 x y pv).1 ∧ Dt h' b cap (Sort.partitionEqual lt d0 x y pv).2 ∧ Chg (fun c => c = b) h0 h' := by
  refine partEq_ok ?_
  unfold partEq_c0
  have i1 := ix (b := b) (n := d0.size) (cap := cap) (i := x) (by omega) .i64
  have i2 := ix (b := b) (n := d0.size) (cap := cap) (i := pv) (by omega) .i64
  have l1 := D0.ld (i := x) (by omega)
  have l2 := D0.ld (i := pv) (by omega)
  simp only [fr, ops P, opsf P, i1, i2, l1, l2]
  refine D0.st (by omega) _ fun h1 D1 C1 s1 => ?_
  refine D1.st (by simp; omega) _ fun h2 D2 C2 s2 => ?_
  simp only [ops P, wInc (show x + 1 < 9223372036854775808 by omega), wDec (show y < 9223372036854775808 by omega) (by omega)]
  generalize hG : Sort.partitionEqual lt d0 x y pv = G
  have hG : Sort.partEqLoop lt x (x + 1) (y - 1) (Sort.swp d0 x pv) = G := hG
  have D2 : Dt h2 b cap (Sort.swp d0 x pv) := D2
  refine lp_of (fun k f h => ∃ i j d, k = j + 1 - i ∧ f 0 = dv b d0.size cap ∧ f 1 = I x ∧ f 9 = I i ∧ f 10 = I j ∧ x < i ∧ i ≤ j + 1 ∧ j < y ∧ d.size = d0.size ∧ Sort.partEqLoop lt x i j d = G ∧ Dt h b cap d ∧ Chg (fun c => c = b) h0 h) _ ⟨x + 1, y - 1, Sort.swp d0 x pv, rfl, rfl, rfl, rfl, rfl, by omega, by omega, by omega, swp_sz, hG, D2, C1.trans C2⟩ ?_
  rintro k f h Q' ⟨i, j, d, rfl, f0, f1, f9, f10, hxi, hij, hjy, hd, hE, D, C⟩ on out
  unfold partEq_L2
  rw [Sort.partEqLoop_eq] at hE
  have r1 := scanUp_rng (fun z => !lt d[x]! z) d j i hij
  rw [← hd] at f0
  refine partEq_up D f0 f1 f9 f10 (by omega) (by omega) (by omega) fun f0' g0 g1 g9 g10 => ?_
  generalize Sort.scanUp (fun z => !lt d[x]! z) d j i = i2 at *
  simp only [ex]
  unfold partEq_c3
  have r2 := scanDown_rng (fun z => lt d[x]! z) d i2 j r1.2.1
  refine partEq_dn D g0 g1 g9 g10 (by omega) (by omega) (by omega) (by omega) fun f1' k0 k1 k9 k10 => ?_
  generalize Sort.scanDown (fun z => lt d[x]! z) d i2 j = j2 at *
  simp only [ex]
  unfold partEq_c4
  simp only [k0, k9, k10, ops P, lt_gt]
  by_cases hc : i2 > j2
  · rw [if_pos (by simpa using hc)]
    rw [if_pos hc] at hE
    refine out _ _ _ (by simp) ?_
    try simp only [ex]
    unfold partEq_c1
    refine post_ret1 ⟨by rw [← hE]; exact k9, by rw [← hE]; exact D, C⟩
  · rw [if_neg (by simpa using hc)]
    rw [if_neg hc] at hE
    have hne : i2 ≠ j2 := by
      rintro rfl
      have h1 := r1.2.2 (by omega)
      have h2 := r2.2.2 (by omega) (by omega)
      simp only [Bool.not_eq_false'] at h1
      rw [h1] at h2; cases h2
    have i1 := ix (b := b) (n := d.size) (cap := cap) (i := i2) (by omega) .i64
    have i2' := ix (b := b) (n := d.size) (cap := cap) (i := j2) (by omega) .i64
    have l1 := D.ld (i := i2) (by omega)
    have l2 := D.ld (i := j2) (by omega)
    simp only [ops P, opsf P, i1, i2', l1, l2]
    refine D.st (by omega) _ fun h1 D1 C1 s1 => ?_
    refine D1.st (by simp; omega) _ fun h2 D2 C2 s2 => ?_
    simp only [ops P, wInc (show i2 + 1 < 9223372036854775808 by omega), wDec (show j2 < 9223372036854775808 by omega) (by omega), ex]
    refine on _ _ _ ?_ ⟨i2 + 1, j2 - 1, Sort.swp d i2 j2, rfl, by rw [← hd]; exact k0, k1, rfl, rfl, by omega, by omega, by omega, swp_sz.trans hd, hE, D2, (C.trans C1).trans C2⟩
    omega

theorem part_spec {h0 : Heap} {b cap : Nat} {d0 : Array Nat} (D0 : Dt h0 b cap d0) {x y pv : Nat} (hx : x ≤ pv) (hpy : pv < y) (hy : y ≤ d0.size) (hs : d0.size < 1152921504606846976) :
    HCalls P 94 #[dv b d0.size cap, I x, I y, I pv] h0 fun v h' => v = .tuple #[I (Sort.partition lt d0 x y pv).1, .bool (Sort.partition lt d0 x y pv).2.1] ∧ Dt h' b cap (Sort.partition lt d0 x y pv).2.2 ∧ Chg (fun c => c = b) h0 h' := by
  refine part_ok ?_
  unfold part_c0
  have i1 := ix (b := b) (n := d0.size) (cap := cap) (i := x) (by omega) .i64
  have i2 := ix (b := b) (n := d0.size) (cap := cap) (i := pv) (by omega) .i64
  have l1 := D0.ld (i := x) (by omega)
  have l2 := D0.ld (i := pv) (by omega)
  simp only [fr, ops P, opsf P, i1, i2, l1, l2]
  refine D0.st (by omega) _ fun h1 D1 C1 s1 => ?_
  refine D1.st (by simp; omega) _ fun h2 D2 C2 s2 => ?_
  simp only [ops P, wInc (show x + 1 < 9223372036854775808 by omega), wDec (show y < 9223372036854775808 by omega) (by omega)]
  generalize hG : Sort.partition lt d0 x y pv = G
  rw [Sort.partition] at hG
  have D2 : Dt h2 b cap (Sort.swp d0 x pv) := D2
  have hd : (Sort.swp d0 x pv).size = d0.size := swp_sz
  have C := C1.trans C2
  generalize Sort.swp d0 x pv = d at *
  have r1 := scanUp_rng (fun z => lt z d[x]!) d (y - 1) (x + 1) (by omega)
  refine part_up0 (a := x) (i := x + 1) (j := y - 1) D2 (by rw [hd]; rfl) rfl rfl rfl (by omega) (by omega) (by omega) fun f0' g0 g1 g10 g11 => ?_
  dsimp only at hG
  generalize Sort.scanUp (fun z => lt z d[x]!) d (y - 1) (x + 1) = i2 at *
  simp only [ex]
  unfold part_c1
  have r2 := scanDown_rng (fun z => !lt z d[x]!) d i2 (y - 1) r1.2.1
  refine part_dn0 D2 g0 g1 g10 g11 (by omega) (by omega) (by omega) (by omega) fun f1' k0 k1 k10 k11 => ?_
  generalize Sort.scanDown (fun z => !lt z d[x]!) d i2 (y - 1) = j2 at *
  simp only [ex]
  unfold part_c2
  simp only [k0, k1, k10, k11, ops P, lt_gt]
  have i1 := ix (b := b) (n := d.size) (cap := cap) (i := x) (by omega) .i64
  have i2' := ix (b := b) (n := d.size) (cap := cap) (i := j2) (by omega) .i64
  have l1 := D2.ld (i := x) (by omega)
  have l2 := D2.ld (i := j2) (by omega)
  by_cases hc : i2 > j2
  · rw [if_pos (by simpa using hc)]
    rw [if_pos hc] at hG
    simp only [ops P, opsf P, i1, i2', l1, l2]
    refine D2.st (by omega) _ fun h3 D3 C3 s1 => ?_
    refine D3.st (by simp; omega) _ fun h4 D4 C4 s2 => ?_
    refine post_ret2 ⟨by rw [← hG]; rfl, by rw [← hG]; exact D4, (C.trans C3).trans C4⟩
  · rw [if_neg (by simpa using hc)]
    rw [if_neg hc] at hG
    have hne : i2 ≠ j2 := by
      rintro rfl
      have h1 := r1.2.2 (by omega)
      have h2 := r2.2.2 (by omega) (by omega)
      simp only [Bool.not_eq_false'] at h2
      rw [h1] at h2; cases h2
    have i3 := ix (b := b) (n := d.size) (cap := cap) (i := i2) (by omega) .i64
    have l3 := D2.ld (i := i2) (by omega)
    simp only [ops P, opsf P, i3, i2', l3, l2]
    refine D2.st (by omega) _ fun h3 D3 C3 s1 => ?_
    refine D3.st (by simp; omega) _ fun h4 D4 C4 s2 => ?_
    simp only [ops P, wInc (show i2 + 1 < 9223372036854775808 by omega), wDec (show j2 < 9223372036854775808 by omega) (by omega)]
    have D4 : Dt h4 b cap (Sort.swp d i2 j2) := D4
    have C := (C.trans C3).trans C4
    refine lp_of (fun k f h => ∃ i j d', k = j + 1 - i ∧ f 0 = dv b d0.size cap ∧ f 1 = I x ∧ f 10 = I i ∧ f 11 = I j ∧ x < i ∧ i ≤ j + 1 ∧ j < y ∧ d'.size = d0.size ∧ Sort.partLoop lt x i j d' = Sort.partLoop lt x (i2 + 1) (j2 - 1) (Sort.swp d i2 j2) ∧ Dt h b cap d' ∧ Chg (fun c => c = b) h0 h) _ ⟨i2 + 1, j2 - 1, Sort.swp d i2 j2, rfl, by rw [← hd]; exact k0, k1, rfl, rfl, by omega, by omega, by omega, swp_sz.trans hd, rfl, D4, C⟩ ?_
    rintro k f h Q' ⟨i, j, d', rfl, f0, f1, f10, f11, hxi, hij, hjy, hd', hE, D, C⟩ on out
    unfold part_L4
    rw [Sort.partLoop_eq] at hE
    have r1 := scanUp_rng (fun z => lt z d'[x]!) d' j i hij
    rw [← hd'] at f0
    refine part_up1 D f0 f1 f10 f11 (by omega) (by omega) (by omega) fun f0' g0 g1 g10 g11 => ?_
    generalize Sort.scanUp (fun z => lt z d'[x]!) d' j i = i3 at *
    simp only [ex]
    unfold part_c5
    have r2 := scanDown_rng (fun z => !lt z d'[x]!) d' i3 j r1.2.1
    refine part_dn1 D g0 g1 g10 g11 (by omega) (by omega) (by omega) (by omega) fun f1' k0 k1 k10 k11 => ?_
    generalize Sort.scanDown (fun z => !lt z d'[x]!) d' i3 j = j3 at *
    simp only [ex]
    unfold part_c6
    simp only [k0, k10, k11, ops P, lt_gt]
    by_cases hc : i3 > j3
    · rw [if_pos (by simpa using hc)]
      rw [if_pos hc] at hE
      refine out _ _ _ (by simp) ?_
      try simp only [ex]
      unfold part_c3
      have i1 := ix (b := b) (n := d'.size) (cap := cap) (i := x) (by omega) .i64
      have i2' := ix (b := b) (n := d'.size) (cap := cap) (i := j3) (by omega) .i64
      have l1 := D.ld (i := x) (by omega)
      have l2 := D.ld (i := j3) (by omega)
      simp only [rdU, reduceIte, Nat.reduceEqDiff, k0, k1, k11, ops P, opsf P, i1, i2', l1, l2]
      refine D.st (by omega) _ fun h3 D3 C3 s1 => ?_
      refine D3.st (by simp; omega) _ fun h4 D4 C4 s2 => ?_
      rw [← hE] at hG
      exact post_ret2 ⟨by rw [← hG]; rfl, by rw [← hG]; exact D4, (C.trans C3).trans C4⟩
    · rw [if_neg (by simpa using hc)]
      rw [if_neg hc] at hE
      have hne : i3 ≠ j3 := by
        rintro rfl
        have h1 := r1.2.2 (by omega)
        have h2 := r2.2.2 (by omega) (by omega)
        simp only [Bool.not_eq_false'] at h2
        rw [h1] at h2; cases h2
      have i1 := ix (b := b) (n := d'.size) (cap := cap) (i := i3) (by omega) .i64
      have i2' := ix (b := b) (n := d'.size) (cap := cap) (i := j3) (by omega) .i64
      have l1 := D.ld (i := i3) (by omega)
      have l2 := D.ld (i := j3) (by omega)
      simp only [ops P, opsf P, i1, i2', l1, l2]
      refine D.st (by omega) _ fun h1 D1 C1 s1 => ?_
      refine D1.st (by simp; omega) _ fun h2 D2 C2 s2 => ?_
      simp only [ops P, wInc (show i3 + 1 < 9223372036854775808 by omega), wDec (show j3 < 9223372036854775808 by omega) (by omega), ex]
      refine on _ _ _ ?_ ⟨i3 + 1, j3 - 1, Sort.swp d' i3 j3, rfl, by rw [← hd']; exact k0, k1, rfl, rfl, by omega, by omega, by omega, swp_sz.trans hd', hE, D2, (C.trans C1).trans C2⟩
      omega
end Go.Proofs.G
open Go Go.Hv
set_option maxRecDepth 100000
namespace Go.Proofs.G
theorem ans_convInt {s d : TypeId} {j k : IntKind} (h1 : P.underlying s = some (.int j)) (h2 : P.underlying d = some (.int k)) {n : Int} {h : Heap} : Ans P (.conv s d (.int j n)) (.int k (k.wrap n)) h := by
  refine rd_val ?_
  show rd P (convert s d (.int j n)) h = _
  unfold convert
  rw [rd_bind', rd_underlying h1]
  simp only [Option.bind_some]
  rw [rd_bind', rd_underlying h2]
  rfl
theorem ans_indexStr {t : TypeId} (h1 : P.underlying t = some .string) {s : ByteArray} {k : IntKind} {i : Nat} {b : UInt8} (hb : s[i]? = some b) {h : Heap} : Ans P (.index t (.string s) (.int k i)) (.int .u8 b.toNat) h := by
  refine rd_val ?_
  show rd P (Instr.index t (.string s) (.int k i)) h = _
  unfold Instr.index
  rw [rd_bind', show rd P (asIntOf (.int k (i : Int))) h = some (k, (i : Int)) from rfl]
  simp only [Option.bind_some]
  rw [rd_bind', rd_underlying h1]
  simp only [Option.bind_some]
  rw [if_pos (by omega), Int.toNat_natCast, hb]
  rfl
theorem wU {n : Nat} (h : n < 18446744073709551616) : IntKind.u64.wrap (n : Int) = (n : Int) := by
  have : IntKind.u64.wrap (n : Int) = (n : Int) % 18446744073709551616 := by simp [IntKind.wrap, IntKind.bits, IntKind.signed]
  rw [this]; omega
theorem wU8 {n : Nat} (h : n < 256) : IntKind.u8.wrap (n : Int) = (n : Int) := by
  have : IntKind.u8.wrap (n : Int) = (n : Int) % 256 := by simp [IntKind.wrap, IntKind.bits, IntKind.signed]
  rw [this]; omega
def tab8 : ByteArray := ⟨#[0, 1, 2, 2, 3, 3, 3, 3, 4, 4, 4, 4, 4, 4, 4, 4, 5, 5, 5, 5, 5, 5, 5, 5, 5, 5, 5, 5, 5, 5, 5, 5, 6, 6, 6, 6, 6, 6, 6, 6, 6, 6, 6, 6, 6, 6, 6, 6, 6, 6, 6, 6, 6, 6, 6, 6, 6, 6, 6, 6, 6, 6, 6, 6, 7, 7, 7, 7, 7, 7, 7, 7, 7, 7, 7, 7, 7, 7, 7, 7, 7, 7, 7, 7, 7, 7, 7, 7, 7, 7, 7, 7, 7, 7, 7, 7, 7, 7, 7, 7, 7, 7, 7, 7, 7, 7, 7, 7, 7, 7, 7, 7, 7, 7, 7, 7, 7, 7, 7, 7, 7, 7, 7, 7, 7, 7, 7, 7, 8, 8, 8, 8, 8, 8, 8, 8, 8, 8, 8, 8, 8, 8, 8, 8, 8, 8, 8, 8, 8, 8, 8, 8, 8, 8, 8, 8, 8, 8, 8, 8, 8, 8, 8, 8, 8, 8, 8, 8, 8, 8, 8, 8, 8, 8, 8, 8, 8, 8, 8, 8, 8, 8, 8, 8, 8, 8, 8, 8, 8, 8, 8, 8, 8, 8, 8, 8, 8, 8, 8, 8, 8, 8, 8, 8, 8, 8, 8, 8, 8, 8, 8, 8, 8, 8, 8, 8, 8, 8, 8, 8, 8, 8, 8, 8, 8, 8, 8, 8, 8, 8, 8, 8, 8, 8, 8, 8, 8, 8, 8, 8, 8, 8, 8, 8, 8, 8, 8, 8, 8, 8, 8, 8, 8, 8, 8, 8]⟩
theorem tab_ok : ∀ x : Fin 256, tab8[x.val]? = some (UInt8.ofNat (if x.val = 0 then 0 else Nat.log2 x.val + 1)) := by decide +kernel

theorem bitsLen_256 {n : Nat} (h : 256 ≤ n) : Sort.bitsLen n = 8 + Sort.bitsLen (n / 256) := by
  have h1 : Sort.bitsLen (n / 256) ≤ Sort.bitsLen n - 8 := by
    rw [Sort.bitsLen_le_iff]
    have h2 := Sort.lt_two_pow_bitsLen n
    have h8 : 8 ≤ Sort.bitsLen n := by
      rcases Nat.lt_or_ge (Sort.bitsLen n) 8 with h3 | h3
      · have := (Sort.bitsLen_le_iff n 7).1 (by omega); omega
      · exact h3
    rw [Nat.div_lt_iff_lt_mul (by decide)]
    have : 2 ^ (Sort.bitsLen n - 8) * 256 = 2 ^ Sort.bitsLen n := by
      rw [show (256 : Nat) = 2 ^ 8 from rfl, ← Nat.pow_add, Nat.sub_add_cancel h8]
    rw [this]; exact h2
  have h3 : Sort.bitsLen n ≤ 8 + Sort.bitsLen (n / 256) := by
    rw [Sort.bitsLen_le_iff]
    have h2 := Sort.lt_two_pow_bitsLen (n / 256)
    rw [Nat.div_lt_iff_lt_mul (by decide)] at h2
    rw [Nat.pow_add, Nat.mul_comm]; exact h2
  have h8 : 8 ≤ Sort.bitsLen n := by
    rcases Nat.lt_or_ge (Sort.bitsLen n) 8 with h3 | h3
    · have := (Sort.bitsLen_le_iff n 7).1 (by omega); omega
    · exact h3
  omega
theorem u40 : P.underlying 40 = some (.int .u64) := by kernel_rfl
theorem u5 : P.underlying 5 = some (.int .u8) := by kernel_rfl
theorem u3 : P.underlying 3 = some (.int .i64) := by kernel_rfl
theorem u9 : P.underlying 9 = some .string := by kernel_rfl
theorem u112 : P.underlying 112 = some (.int .u64) := by kernel_rfl
theorem u134 : P.underlying 134 = some (.int .u64) := by kernel_rfl
theorem o134 : one P 134 = true := by kernel_rfl
theorem z134 : (P.info? 134).map (·.zero) = some (some (.int .u64 0)) := by kernel_rfl
theorem hb75 : hasBody P 75 = true := by kernel_rfl
theorem hb96 : hasBody P 96 = true := by kernel_rfl
theorem hb108 : hasBody P 108 = true := by kernel_rfl
theorem hb109 : hasBody P 109 = true := by kernel_rfl
theorem len64_c3_eq (Q : Exit → F → Heap → Prop) (f : F) (h : Heap) : len64_c3 Q f h = run P (X.conv 40 5 (f 0)) (fun v21 h => run P (X.index 9 (.string tab8) v21) (fun v22 h => run P (X.conv 5 3 v22) (fun v23 h => run P (X.bin .add 3 false false (f 2) v23) (fun v24 h => Q .ret (U f [(19, f 2), (20, f 0), (21, v21), (22, v22), (23, v23), (24, v24), (2, v24)]) h) h) h) h) h := rfl
theorem len64_tail {n k : Nat} (hn : n < 256) (hk : k ≤ 8) {h : Heap} {f : F} {R : Value → Heap → Prop} (f0 : f 0 = (.int .u64 (n : Int))) (f2 : f 2 = I k) (hR : R (I (k + Sort.bitsLen n)) h) : len64_c3 (post [.tmp 2] R) f h := by
  rw [len64_c3_eq]
  have hb := tab_ok ⟨n, hn⟩
  have e1 := (ans_convInt (n := (n : Int)) (h := h) u40 u5).run
  rw [wU8 hn] at e1
  have e2 := (ans_indexStr (k := .u8) (h := h) u9 hb).run
  have hlt : Sort.bitsLen n < 256 := by
    have := (Sort.bitsLen_le_iff n 8).2 (by omega); omega
  have e3 := (ans_convInt (n := (Sort.bitsLen n : Int)) (h := h) (j := .u8) u5 u3).run
  rw [wI (by omega)] at e3
  have e4 : (((UInt8.ofNat (if n = 0 then 0 else Nat.log2 n + 1)).toNat : Nat) : Int) = (Sort.bitsLen n : Int) := by
    show (((UInt8.ofNat (Sort.bitsLen n)).toNat : Nat) : Int) = _
    congr 1
    simp [UInt8.toNat_ofNat, Nat.mod_eq_of_lt hlt]
  rw [f0, f2, e1, e2, e4, e3]
  simp only [ops P]
  rw [wAdd (by omega)]
  exact post_ret1 hR
theorem len64_spec {n : Nat} (hn : n < 65536) (h : Heap) : HCalls P 96 #[.int .u64 (n : Int)] h fun v h' => v = I (Sort.bitsLen n) ∧ h' = h := by
  refine len64_ok ?_
  unfold len64_c0
  simp only [fr, ops P]
  rw [if_neg (by simp; omega)]
  unfold len64_c1
  simp only [rdU, reduceIte, Nat.reduceEqDiff, fr, ops P]
  rw [if_neg (by simp; omega)]
  unfold len64_c2
  simp only [rdU, reduceIte, Nat.reduceEqDiff, fr, ops P]
  by_cases h8 : (256 : Int) ≤ (n : Int)
  · rw [if_pos (by simpa using h8)]
    have e1 := (ans_shr (P := P) (t := 40) (c := false) (d := true) (k := .u64) (j := .u64) (a := (n : Int)) (b := 8) (h := h) (by decide)).run
    have e2 : (n : Int).fdiv (2 ^ min (8 : Int).toNat IntKind.u64.bits) = ((n / 256 : Nat) : Int) := by
      rw [show (2 : Int) ^ min (8 : Int).toNat IntKind.u64.bits = 256 from by decide, Int.fdiv_eq_ediv_of_nonneg _ (by decide)]
      exact (Int.natCast_ediv n 256).symm
    rw [e2] at e1
    rw [e1]
    try simp only [ops P]
    refine len64_tail (n := n / 256) (k := 8) (by omega) (by omega) rfl ?_ ⟨?_, rfl⟩
    · exact congrArg _ (wI' (by decide) (by decide))
    · rw [← bitsLen_256 (by omega)]
  · rw [if_neg (by simpa using h8)]
    refine len64_tail (n := n) (k := 0) (by omega) (by omega) rfl rfl ⟨?_, rfl⟩
    rw [Nat.zero_add]
theorem nextPow_spec {n : Nat} (hn : n < 65536) (h : Heap) : HCalls P 108 #[I n] h fun v h' => v = .int .u64 ((2 ^ Sort.bitsLen n : Nat) : Int) ∧ h' = h := by
  have hlt : Sort.bitsLen n ≤ 16 := (Sort.bitsLen_le_iff n 16).2 (by omega)
  refine nextPow_ok ?_
  unfold nextPow_c0
  have e1 := (ans_convInt (n := (n : Int)) (h := h) (j := .i64) u3 u112).run
  rw [wU (by omega)] at e1
  simp only [fr, e1]
  refine run_callF hb75 ?_
  refine HCalls.mono (R := fun v h' => v = I (Sort.bitsLen n) ∧ h' = h) ?_ ?_
  · refine len_ok ?_
    unfold len_c0
    simp only [fr, ops P, bb, if_false]
    refine run_callF hb96 ((len64_spec hn h).mono ?_)
    rintro _ _ ⟨rfl, rfl⟩
    exact post_ret1 ⟨rfl, rfl⟩
  · rintro _ h ⟨rfl, rfl⟩
    have e2 := (ans_shl (P := P) (t := 112) (c := true) (d := false) (k := .u64) (j := .i64) (a := 1) (b := (Sort.bitsLen n : Int)) (h := h) (by omega)).run
    rw [e2]
    refine post_ret1 ⟨?_, rfl⟩
    show Value.int .u64 _ = _
    congr 1
    rw [Int.toNat_natCast, Int.one_mul, show min (Sort.bitsLen n) IntKind.u64.bits = Sort.bitsLen n from by simp [IntKind.bits]; omega]
    have : 2 ^ Sort.bitsLen n ≤ 2 ^ 16 := Nat.pow_le_pow_right (by decide) hlt
    have e5 : ((2 : Int) ^ Sort.bitsLen n) = ((2 ^ Sort.bitsLen n : Nat) : Int) := by simp
    rw [e5]
    exact wU (by omega)
/-- the state of the number that is drawn -/
def Xs (h : Heap) (p : Nat) : Prop := ∃ z : Int, h[p]? = some (.cells #[.int .u64 z] 134 (0, 0))
theorem xorNext_spec {h : Heap} {p : Nat} (S : Xs h p) : HCalls P 109 #[.pointer (some ⟨p, 0, none⟩)] h fun v h' => (∃ z : Int, v = .int .u64 z) ∧ Xs h' p ∧ Chg (fun c => c = p) h h' := by
  refine xorNext_ok ?_
  unfold xorNext_c0
  obtain ⟨z, hz⟩ := S
  have step : ∀ (h : Heap) (z y : Int) (K : Value → Heap → Prop), h[p]? = some (.cells #[.int .u64 z] 134 (0, 0)) → (∀ h', h'[p]? = some (.cells #[.int .u64 y] 134 (0, 0)) → Chg (fun c => c = p) h h' → K undef h') → run P (.store 134 (.pointer (some ⟨p, 0, none⟩)) (.int .u64 y)) K h := by
    intro h z y K hz hk
    refine Hv.run_store o134 rfl (cell_at hz rfl) (by simp [froz, hz]) (hk _ ?_ (chg_setC h ⟨p, 0, none⟩ _))
    rw [setC_get h _ hz]; rfl
  have hl := fun {h : Heap} {z : Int} (hz : h[p]? = some (.cells #[.int .u64 z] 134 (0, 0))) => load_headq (P := P) o134 (cell_at hz (i := 0) (v := .int .u64 z) rfl)
  have hr := fun {h : Heap} {z : Int} (hz : h[p]? = some (.cells #[.int .u64 z] 134 (0, 0))) => load_run (P := P) o134 (cell_at hz (i := 0) (v := .int .u64 z) rfl)
  have e1 : ∀ (a b : Int) (h : Heap) K, 0 ≤ b → headq P (.bin .shl 134 false true (.int .u64 a) (.int .u64 b)) K h = K (.int .u64 (IntKind.u64.wrap (a * 2 ^ min b.toNat IntKind.u64.bits))) := fun a b h K hb => (ans_shl hb).headq K
  have e2 : ∀ (a b : Int) (h : Heap) K, 0 ≤ b → headq P (.bin .shr 134 false true (.int .u64 a) (.int .u64 b)) K h = K (.int .u64 (a.fdiv (2 ^ min b.toNat IntKind.u64.bits))) := fun a b h K hb => (ans_shr hb).headq K
  have e3 : ∀ (a b : Int) (h : Heap) K, headq P (.bin .xor 134 false false (.int .u64 a) (.int .u64 b)) K h = K (.int .u64 (IntKind.u64.wrap (BitVec.ofInt IntKind.u64.bits a ^^^ BitVec.ofInt IntKind.u64.bits b).toNat)) := fun a b h K => ans_xor.headq K
  simp only [fr, ops P, hl hz, e1 _ 13 _ _ (by decide), e3]
  refine step _ _ _ _ hz fun h1 z1 C1 => ?_
  simp only [ops P, hl z1, e2 _ 7 _ _ (by decide), e3]
  refine step _ _ _ _ z1 fun h2 z2 C2 => ?_
  simp only [ops P, hl z2, e1 _ 17 _ _ (by decide), e3]
  refine step _ _ _ _ z2 fun h3 z3 C3 => ?_
  simp only [ops P, hr z3]
  exact post_ret1 ⟨⟨_, rfl⟩, ⟨_, z3⟩, (C1.trans C2).trans C3⟩
theorem revRange_spec {h0 : Heap} {b cap : Nat} {d0 : Array Nat} (D0 : Dt h0 b cap d0) {x y : Nat} (hxy : x < y) (hy : y ≤ d0.size) (hs : d0.size < 1152921504606846976) :
    HCalls P 91 #[dv b d0.size cap, I x, I y] h0 (Sorts b cap h0 (Sort.reverseRange d0 x y)) := by
  refine revRange_ok ?_
  unfold revRange_c0
  simp only [fr, ops P]
  rw [wDec (by omega) (by omega)]
  refine lp_of (fun k f h => ∃ i j d, k = j - i ∧ f 0 = dv b d0.size cap ∧ f 6 = I i ∧ f 7 = I j ∧ j < y ∧ d.size = d0.size ∧ Sort.reverseLoop i j d = Sort.reverseRange d0 x y ∧ Dt h b cap d ∧ Chg (fun c => c = b) h0 h) _ ⟨x, y - 1, d0, rfl, rfl, rfl, rfl, by omega, rfl, rfl, D0, Chg.refl _ _⟩ ?_
  rintro k f h Q' ⟨i, j, d, rfl, f0, f6, f7, hj, hd, hE, D, C⟩ on out
  unfold revRange_L1
  simp only [f0, f6, f7, ops P, lt_R]
  rw [Sort.reverseLoop] at hE
  by_cases hc : i < j
  · rw [if_pos (by simpa using hc)]
    rw [if_pos hc] at hE
    have i1 := ix (b := b) (n := d0.size) (cap := cap) (i := i) (by omega) .i64
    have i2 := ix (b := b) (n := d0.size) (cap := cap) (i := j) (by omega) .i64
    have l1 := D.ld (i := i) (by omega)
    have l2 := D.ld (i := j) (by omega)
    simp only [ops P, opsf P, i1, i2, l1, l2]
    refine D.st (by omega) _ fun h1 D1 C1 s1 => ?_
    refine D1.st (by simp; omega) _ fun h2 D2 C2 s2 => ?_
    simp only [ops P, wInc (show i + 1 < 9223372036854775808 by omega), wDec (show j < 9223372036854775808 by omega) (by omega)]
    refine on _ _ _ ?_ ⟨i + 1, j - 1, Sort.swp d i j, rfl, f0, rfl, rfl, by omega, swp_sz.trans hd, hE, D2, (C.trans C1).trans C2⟩
    omega
  · rw [if_neg (by simpa using hc)]
    rw [if_neg hc] at hE
    refine out _ _ _ (by simp) ?_
    simp only [ex]
    exact post_end0 ⟨rfl, by rw [← hE]; exact D, C⟩
theorem and_lt (a : Int) {m : Nat} (hm : 0 < m) (h64 : m ≤ 18446744073709551616) : ∃ r : Nat, r < m ∧ IntKind.u64.wrap ((BitVec.ofInt IntKind.u64.bits a &&& BitVec.ofInt IntKind.u64.bits ((m - 1 : Nat) : Int)).toNat : Nat) = (r : Int) := by
  refine ⟨(BitVec.ofInt IntKind.u64.bits a &&& BitVec.ofInt IntKind.u64.bits ((m - 1 : Nat) : Int)).toNat, ?_, ?_⟩
  · rw [BitVec.toNat_and]
    refine Nat.lt_of_le_of_lt Nat.and_le_right ?_
    have : (BitVec.ofInt IntKind.u64.bits ((m - 1 : Nat) : Int)).toNat = m - 1 := by
      rw [BitVec.ofInt_natCast, BitVec.toNat_ofNat]
      exact Nat.mod_eq_of_lt (by simp [IntKind.bits]; omega)
    omega
  · exact wU (by have := (BitVec.ofInt IntKind.u64.bits a &&& BitVec.ofInt IntKind.u64.bits ((m - 1 : Nat) : Int)).isLt; simpa [IntKind.bits] using this)
end Go.Proofs.G
open Go Go.Hv
set_option maxRecDepth 100000
namespace Go.Proofs.G
theorem hb89 : hasBody P 89 = true := by kernel_rfl
theorem hb90 : hasBody P 90 = true := by kernel_rfl
theorem hb91 : hasBody P 91 = true := by kernel_rfl
theorem hb92 : hasBody P 92 = true := by kernel_rfl
theorem hb93 : hasBody P 93 = true := by kernel_rfl
theorem hb94 : hasBody P 94 = true := by kernel_rfl
theorem hb87 : hasBody P 87 = true := by kernel_rfl
theorem hb88 : hasBody P 88 = true := by kernel_rfl
theorem hb74 : hasBody P 74 = true := by kernel_rfl
/-- a permutation within a range -/
def Perms (b cap : Nat) (h : Heap) (x y : Nat) (d : Array Nat) (v : Value) (h' : Heap) : Prop := v = .tuple #[] ∧ Chg (fun c => c = b) h h' ∧ ∃ d', Dt h' b cap d' ∧ Sort.PermIn x y d d'
theorem breakP_spec {h0 : Heap} {b cap : Nat} {d0 : Array Nat} (D0 : Dt h0 b cap d0) {x y : Nat} (hxy : x < y) (hy : y ≤ d0.size) (hs : d0.size < 65536) :
    HCalls P 89 #[dv b d0.size cap, I x, I y] h0 (Perms b cap h0 x y d0) := by
  refine breakP_ok ?_
  unfold breakP_c0
  have e1 : IntKind.i64.wrap ((y : Int) - x) = ((y - x : Nat) : Int) := by rw [show (y : Int) - x = ((y - x : Nat) : Int) by omega]; exact wI (by omega)
  simp only [fr, ops P]
  rw [e1]
  by_cases h8 : (8 : Int) ≤ ((y - x : Nat) : Int)
  · rw [if_pos (by simpa using h8)]
    have c1 := (ans_convInt (n := ((y - x : Nat) : Int)) (h := h0) (j := .i64) u3 u134).run
    rw [c1, run_alloc z134]
    refine Hv.run_store o134 rfl (cell_at (get_push_new _ _) (v := .int .u64 0) rfl) (by simp [froz]) ?_
    have hX : Xs (setC (h0.push (.cells (Value.int .u64 0).cells 134)) ⟨h0.size, 0, none⟩ (.int .u64 (IntKind.u64.wrap ((y - x : Nat) : Int)))) h0.size := ⟨_, setC_get _ _ (get_push_new _ _)⟩
    have C0 : Chg (fun c => c = b) h0 (setC (h0.push (.cells (Value.int .u64 0).cells 134)) ⟨h0.size, 0, none⟩ (.int .u64 (IntKind.u64.wrap ((y - x : Nat) : Int)))) := ⟨by rw [setC_size]; simp, fun i hi _ => by rw [setC_get_ne _ _ _ (by simp; omega), get_push_old _ _ hi]⟩
    have D1 : Dt (setC (h0.push (.cells (Value.int .u64 0).cells 134)) ⟨h0.size, 0, none⟩ (.int .u64 (IntKind.u64.wrap ((y - x : Nat) : Int)))) b cap d0 := D0.keep (by have := Row.lt D0; rw [setC_get_ne _ _ _ (by simp; omega), get_push_old _ _ (Row.lt D0)])
    have hbp : b < h0.size := Row.lt D0
    generalize setC (h0.push (.cells (Value.int .u64 0).cells 134)) ⟨h0.size, 0, none⟩ (.int .u64 (IntKind.u64.wrap ((y - x : Nat) : Int))) = h1 at *
    refine run_callF hb108 ((nextPow_spec (n := y - x) (by omega) h1).mono ?_)
    rintro _ h1 ⟨rfl, rfl⟩
    have e2 : IntKind.i64.wrap (((y - x : Nat) : Int).tdiv 4) = (((y - x) / 4 : Nat) : Int) := by
      rw [Int.tdiv_eq_ediv_of_nonneg (by omega)]
      exact wI (n := (y - x) / 4) (by omega)
    have e3 : IntKind.i64.wrap ((((y - x) / 4 : Nat) : Int) * 2) = (((y - x) / 4 * 2 : Nat) : Int) := wI (n := (y - x) / 4 * 2) (by omega)
    have e4 : IntKind.i64.wrap ((x : Int) + (((y - x) / 4 * 2 : Nat) : Int)) = ((x + (y - x) / 4 * 2 : Nat) : Int) := wAdd (by omega)
    have e5 : IntKind.i64.wrap (((x + (y - x) / 4 * 2 : Nat) : Int) - 1) = ((x + (y - x) / 4 * 2 - 1 : Nat) : Int) := wDec (by omega) (by omega)
    have e6 : IntKind.i64.wrap (((x + (y - x) / 4 * 2 : Nat) : Int) + 1) = ((x + (y - x) / 4 * 2 + 1 : Nat) : Int) := wInc (by omega)
    simp only [ops P, quo_run (show (4 : Int) ≠ 0 by decide)]
    rw [e2, e3, e4, e5]
    have hm1 := Sort.two_pow_bitsLen_le (n := y - x) (by omega)
    have hm0 : 0 < 2 ^ Sort.bitsLen (y - x) := Nat.pow_pos (by decide)
    generalize 2 ^ Sort.bitsLen (y - x) = M at *
    refine lp_of (fun k f h => ∃ i d, k = x + (y - x) / 4 * 2 + 2 - i ∧ f 0 = dv b d0.size cap ∧ f 1 = I x ∧ f 6 = I (y - x) ∧ f 7 = .pointer (some ⟨h0.size, 0, none⟩) ∧ f 8 = .int .u64 (M : Int) ∧ f 9 = I i ∧ x + (y - x) / 4 * 2 - 1 ≤ i ∧ i ≤ x + (y - x) / 4 * 2 + 2 ∧ Sort.PermIn x y d0 d ∧ Dt h b cap d ∧ Xs h h0.size ∧ Chg (fun c => c = b) h0 h) _ ⟨x + (y - x) / 4 * 2 - 1, d0, rfl, rfl, rfl, rfl, rfl, rfl, rfl, Nat.le_refl _, by omega, Sort.permIn_refl _ _ _, D1, hX, C0⟩ ?_
    rintro k f h Q' ⟨i, d, rfl, f0, f1, f6, f7, f8, f9, hi1, hi2, Pm, D, X, C⟩ on out
    have hd : d.size = d0.size := Pm.1
    unfold breakP_L1
    simp only [f0, f1, f6, f7, f8, f9, ops P, quo_run (show (4 : Int) ≠ 0 by decide)]
    rw [e2, e3, e4, e6, le_R]
    by_cases hc : i ≤ x + (y - x) / 4 * 2 + 1
    · rw [if_pos (by simpa using hc)]
      refine run_callF hb109 ((xorNext_spec X).mono ?_)
      rintro _ h2 ⟨⟨z, rfl⟩, X2, C2⟩
      have eM : IntKind.u64.wrap ((M : Int) - 1) = ((M - 1 : Nat) : Int) := by rw [show (M : Int) - 1 = ((M - 1 : Nat) : Int) by omega]; exact wU (by omega)
      obtain ⟨r, hr, er⟩ := and_lt z (m := M) hm0 (by omega)
      have a1 := (ans_and (P := P) (t := 112) (c := false) (d := false) (k := .u64) (a := z) (b := ((M - 1 : Nat) : Int)) (h := h2)).run
      rw [er] at a1
      have a2 := (ans_convInt (n := (r : Int)) (h := h2) (j := .u64) u112 u3).run
      rw [wI (by omega)] at a2
      simp only [ops P, eM, a1, a2]
      have D2 : Dt h2 b cap d := D.keep (C2.get b (Row.lt D) (by omega))
      have C2' : Chg (fun c => c = b) h0 h2 := ⟨Nat.le_trans C.size C2.size, fun i hi hn => (C2.get i (Nat.lt_of_lt_of_le hi C.size) (by omega)).trans (C.get i hi hn)⟩
      have swap : ∀ (f' : F) (o : Nat), f' 0 = dv b d0.size cap → f' 1 = I x → f' 6 = I (y - x) → f' 7 = .pointer (some ⟨h0.size, 0, none⟩) → f' 8 = .int .u64 (M : Int) → f' 9 = I i → f' 10 = I o → o < y - x → breakP_c3 Q' f' h2 := by
        intro f' o g0 g1 g6 g7 g8 g9 g10 ho
        unfold breakP_c3
        have i1 := ix (b := b) (n := d0.size) (cap := cap) (i := i) (by omega) .i64
        have i2 := ix (b := b) (n := d0.size) (cap := cap) (i := x + o) (by omega) .i64
        have l1 := D2.ld (i := i) (by omega)
        have l2 := D2.ld (i := x + o) (by omega)
        have w1 : IntKind.i64.wrap ((x : Int) + (o : Int)) = ((x + o : Nat) : Int) := wAdd (by omega)
        simp only [g0, g1, g9, g10, ops P, opsf P, w1, i1, i2, l1, l2]
        refine D2.st (by omega) _ fun h3 D3 C3 s1 => ?_
        refine D3.st (by simp; omega) _ fun h4 D4 C4 s2 => ?_
        unfold breakP_c2
        simp only [rdU, reduceIte, Nat.reduceEqDiff, g9, ops P]
        have X4 : Xs h4 h0.size := by
          obtain ⟨z, hz⟩ := X2
          have hl := lt_of_get hz
          exact ⟨z, by rw [C4.get _ (by omega) (by omega), C3.get _ hl (by omega)]; exact hz⟩
        refine on _ _ _ ?_ ⟨i + 1, Sort.swp d i (x + o), rfl, g0, g1, g6, g7, g8, congrArg _ (wInc (by omega)), by omega, by omega, ?_, D4, X4, (C2'.trans C3).trans C4⟩
        · omega
        · exact Sort.permIn_trans _ _ _ _ _ Pm (Sort.swp_permIn _ _ _ _ _ (by omega) (by omega) (by omega) (by omega) (by omega))
      by_cases hro : ((y - x : Nat) : Int) ≤ (r : Int)
      · rw [if_pos (by simpa using hro)]
        try simp only [ops P]
        have e7 : IntKind.i64.wrap ((r : Int) - ((y - x : Nat) : Int)) = ((r - (y - x) : Nat) : Int) := by rw [show (r : Int) - ((y - x : Nat) : Int) = ((r - (y - x) : Nat) : Int) by omega]; exact wI (by omega)
        exact swap _ (r - (y - x)) f0 f1 f6 f7 f8 f9 (congrArg _ e7) (by omega)
      · rw [if_neg (by simpa using hro)]
        exact swap _ r f0 f1 f6 f7 f8 f9 rfl (by omega)
    · rw [if_neg (by simpa using hc)]
      refine out _ _ _ (by simp) ?_
      simp only [ex]
      exact post_end0 ⟨rfl, C, d, D, Pm⟩
  · rw [if_neg (by simpa using h8)]
    exact post_end0 ⟨rfl, Chg.refl _ _, d0, D0, Sort.permIn_refl _ _ _⟩

/-- sorted, too -/
def Sorted2 (b cap : Nat) (h : Heap) (x y : Nat) (d : Array Nat) (v : Value) (h' : Heap) : Prop := v = .tuple #[] ∧ Chg (fun c => c = b) h h' ∧ ∃ d', Dt h' b cap d' ∧ Sort.PermIn x y d d' ∧ Sort.SortedIn lt x y d'
theorem pdq_spec : ∀ (n : Nat) {h0 : Heap} {b cap : Nat} {d0 : Array Nat} (D0 : Dt h0 b cap d0) {x y : Nat} (l : Nat), y - x ≤ n → l < 4611686018427387904 → x ≤ y → y ≤ d0.size → d0.size < 65536 → Sort.Below lt x y d0 →
    HCalls P 74 #[dv b d0.size cap, I x, I y, I l] h0 (Sorted2 b cap h0 x y d0) := by
  intro n
  induction n using Nat.strongRecOn with
  | _ n ih =>
  intro h0 b cap d0 D0 x y l hn hl hxy hy hs hB
  refine pdq_ok ?_
  unfold pdq_c0
  refine lp_of (fun k f h => ∃ x' y' l d bl pt, k = y' - x' ∧ f 0 = dv b d0.size cap ∧ f 1 = I x' ∧ f 2 = I y' ∧ f 3 = I l ∧ f 8 = .bool bl ∧ f 9 = .bool pt ∧ l < 4611686018427387904 ∧ x' ≤ y' ∧ y' - x' ≤ n ∧ y' ≤ d0.size ∧ d.size = d0.size ∧ Sort.Below lt x' y' d ∧ (∀ R, Sort.PermIn x' y' d R → Sort.SortedIn lt x' y' R → Sort.PermIn x y d0 R ∧ Sort.SortedIn lt x y R) ∧ Dt h b cap d ∧ Chg (fun c => c = b) h0 h) _ ⟨x, y, l, d0, true, true, rfl, rfl, rfl, rfl, rfl, rfl, rfl, hl, hxy, hn, hy, rfl, hB, fun R h1 h2 => ⟨h1, h2⟩, D0, Chg.refl _ _⟩ ?_
  rintro k f h Q' ⟨x', y', l, d, bl, pt, rfl, f0, f1, f2, f3, f8, f9, hl, hxy', hn', hy', hd, hB, fin, D, C⟩ on out
  unfold pdq_L1
  have e1 : IntKind.i64.wrap ((y' : Int) - x') = ((y' - x' : Nat) : Int) := by rw [show (y' : Int) - x' = ((y' - x' : Nat) : Int) by omega]; exact wI (by omega)
  simp only [f0, f1, f2, f3, f8, ops P, e1]
  rw [← hd] at f0
  by_cases h12 : ((y' - x' : Nat) : Int) ≤ 12
  · rw [if_pos (by simpa using h12)]
    have := insSort_spec D (x := x') (y := y') hxy' (by omega) (by omega)
    rw [hd] at this
    refine run_callF hb87 (this.mono ?_)
    rintro _ h1 ⟨rfl, D1, C1⟩
    refine out _ _ _ (by simp) ?_
    simp only [ex]
    obtain ⟨p1, p2⟩ := Sort.insertionSort_holds swo_lt d x' y' hxy' (by omega)
    obtain ⟨q1, q2⟩ := fin _ p1 p2
    exact post_ret0 ⟨rfl, C.trans C1, _, D1, q1, q2⟩
  rw [if_neg (by simpa using h12)]
  by_cases hl0 : (l : Int) = 0
  · rw [if_pos (by simpa using hl0)]
    have := heapSort_spec D (x := x') (y := y') (by omega) (by omega) (by omega)
    rw [hd] at this
    refine run_callF hb88 (this.mono ?_)
    rintro _ h1 ⟨rfl, D1, C1⟩
    refine out _ _ _ (by simp) ?_
    simp only [ex]
    obtain ⟨p1, p2⟩ := Sort.heapSort_holds swo_lt d x' y' hxy' (by omega)
    obtain ⟨q1, q2⟩ := fin _ p1 p2
    exact post_ret0 ⟨rfl, C.trans C1, _, D1, q1, q2⟩
  rw [if_neg (by simpa using hl0)]
  -- the last part of a round
  have c4 : ∀ (f' : F) (h' : Heap) (d' : Array Nat) (l' pv : Nat), f' 0 = dv b d0.size cap → f' 1 = I x' → f' 2 = I y' → f' 3 = I l' → f' 8 = .bool bl → f' 9 = .bool pt → f' 10 = I (y' - x') → f' 11 = I pv → l' < 4611686018427387904 → x' ≤ pv → pv < y' → Sort.PermIn x' y' d d' → Dt h' b cap d' → Chg (fun c => c = b) h0 h' → pdq_c4 Q' f' h' := by
    intro f' h' d' l' pv g0 g1 g2 g3 g8 g9 g10 g11 hl' hp1 hp2 Pm D' C'
    have hd' : d'.size = d0.size := Pm.1.trans hd
    have hB' : Sort.Below lt x' y' d' := hB.perm (by omega) Pm
    have fin' : ∀ R, Sort.PermIn x' y' d' R → Sort.SortedIn lt x' y' R → Sort.PermIn x y d0 R ∧ Sort.SortedIn lt x y R := fun R p s => fin R (Sort.permIn_trans _ _ _ _ _ Pm p) s
    unfold pdq_c4
    simp only [g0, g1, g2, g3, g10, g11, ops P, lt_gt]
    have i1 := fun (hx0 : 0 < x') => ix (b := b) (n := d0.size) (cap := cap) (i := x' - 1) (by omega) .i64
    have i2 := ix (b := b) (n := d0.size) (cap := cap) (i := pv) (by omega) .i64
    have l1 := fun (hx0 : 0 < x') => D'.ld (i := x' - 1) (by omega)
    have l2 := D'.ld (i := pv) (by omega)
    -- the way by partition
    have byPart : ∀ (K : Value → Heap → Prop), (∀ h2 mid ap d4, Sort.partition lt d' x' y' pv = (mid, ap, d4) → Dt h2 b cap d4 → Chg (fun c => c = b) h0 h2 → K (.tuple #[I mid, .bool ap]) h2) → run P (.callF 94 [dv b d0.size cap, I x', I y', I pv]) K h' := by
      intro K hK
      have := part_spec D' hp1 hp2 (by omega) (by omega)
      rw [hd'] at this
      refine run_callF hb94 (this.mono ?_)
      rintro _ h2 ⟨rfl, D2, C2⟩
      exact hK h2 _ _ _ rfl D2 (C'.trans C2)
    have rest : ∀ (mid : Nat) (ap : Bool) (d4 : Array Nat) (h2 : Heap) (fr : Exit → F → Heap → Prop), Sort.partition lt d' x' y' pv = (mid, ap, d4) → x' ≤ mid ∧ mid < y' := by
      intro mid ap d4 h2 fr hx
      obtain ⟨g1, g2, _⟩ := Sort.round_part swo_lt (Sort.partition_holds lt) hp1 hp2 (by omega) hB' hx
      exact ⟨g1, g2⟩
    have e7 : IntKind.i64.wrap (((y' - x' : Nat) : Int).tdiv 8) = (((y' - x') / 8 : Nat) : Int) := by
      rw [Int.tdiv_eq_ediv_of_nonneg (by omega)]
      exact wI (n := (y' - x') / 8) (by omega)
    have way2 : ∀ (w73 w74 w75 w76 w77 w78 w79 w80 w81 w82 w83 w84 w85 w86 w87 : Value), run P (X.callF 94 [dv b d0.size cap, I x', I y', I pv]) (fun v99 h =>
    run P (X.extract v99 0) (fun v100 h =>
    run P (X.extract v99 1) (fun v101 h =>
    run P (X.bin .sub 3 false false v100 (I x')) (fun v105 h =>
    run P (X.bin .sub 3 false false (I y') v100) (fun v108 h =>
    run P (X.bin .quo 3 false true (I (y' - x')) (Value.int .i64 8)) (fun v110 h =>
    run P (X.bin .lss 3 false false v105 v108) (fun v113 h =>
    br v113 (
      run P (X.bin .geq 3 false false v105 v110) (fun v116 h =>
      run P (X.callF 74 [dv b d0.size cap, I x', v100, I l']) (fun v121 h =>
      run P (X.bin .add 3 false true v100 (Value.int .i64 1)) (fun v123 h =>
      Q' .normal (U f' [(73, w73), (74, w74), (75, w75), (76, w76), (77, w77), (78, w78), (79, w79), (80, w80), (81, w81), (82, w82), (83, w83), (84, w84), (85, w85), (86, w86), (87, w87), (95, dv b d0.size cap), (96, I x'), (97, I y'), (98, I pv), (99, v99), (94, v99), (100, v100), (101, v101), (14, v100), (15, v101), (102, v101), (9, v101), (103, v100), (104, I x'), (105, v105), (106, I y'), (107, v100), (108, v108), (16, v105), (17, v108), (109, I (y' - x')), (110, v110), (18, v110), (111, v105), (112, v108), (113, v113), (114, v105), (115, v110), (116, v116), (8, v116), (117, dv b d0.size cap), (118, I x'), (119, v100), (120, I l'), (121, v121), (122, v100), (123, v123), (1, v123)]) h) h) h) h
    ) (
      run P (X.bin .geq 3 false false v108 v110) (fun v126 h =>
      run P (X.bin .add 3 false true v100 (Value.int .i64 1)) (fun v129 h =>
      run P (X.callF 74 [dv b d0.size cap, v129, I y', I l']) (fun v132 h =>
      Q' .normal (U f' [(73, w73), (74, w74), (75, w75), (76, w76), (77, w77), (78, w78), (79, w79), (80, w80), (81, w81), (82, w82), (83, w83), (84, w84), (85, w85), (86, w86), (87, w87), (95, dv b d0.size cap), (96, I x'), (97, I y'), (98, I pv), (99, v99), (94, v99), (100, v100), (101, v101), (14, v100), (15, v101), (102, v101), (9, v101), (103, v100), (104, I x'), (105, v105), (106, I y'), (107, v100), (108, v108), (16, v105), (17, v108), (109, I (y' - x')), (110, v110), (18, v110), (111, v105), (112, v108), (113, v113), (124, v108), (125, v110), (126, v126), (8, v126), (127, dv b d0.size cap), (128, v100), (129, v129), (130, I y'), (131, I l'), (132, v132), (133, v100), (2, v100)]) h) h) h) h
    )) h) h) h) h) h) h) h' := by
      intro w73 w74 w75 w76 w77 w78 w79 w80 w81 w82 w83 w84 w85 w86 w87
      refine byPart _ fun h2 mid ap d4 hx D2 C2 => ?_
      obtain ⟨m1, m2, hs4, hBa, hBr, hleft, hright⟩ := Sort.round_part swo_lt (Sort.partition_holds lt) hp1 hp2 (by omega) hB' hx
      have e2 : IntKind.i64.wrap ((mid : Int) - x') = ((mid - x' : Nat) : Int) := by rw [show (mid : Int) - x' = ((mid - x' : Nat) : Int) by omega]; exact wI (by omega)
      have e3 : IntKind.i64.wrap ((y' : Int) - mid) = ((y' - mid : Nat) : Int) := by rw [show (y' : Int) - mid = ((y' - mid : Nat) : Int) by omega]; exact wI (by omega)
      simp only [ops P, e2, e3, quo_run (show (8 : Int) ≠ 0 by decide), e7]
      rw [lt_R]
      by_cases hc : mid - x' < y' - mid
      · rw [if_pos (by simpa using hc)]
        have := ih (mid - x') (by omega) D2 (x := x') (y := mid) l' (Nat.le_refl _) hl' m1 (by omega) (by omega) hBa
        rw [hs4, hd'] at this
        refine run_callF hb74 (this.mono ?_)
        rintro _ h3 ⟨rfl, C3, d5, D3, p1, p2⟩
        try simp only [ops P]
        obtain ⟨hBL, hfin⟩ := hleft _ p1 p2
        refine on _ _ _ ?_ ⟨mid + 1, y', l', d5, _, ap, rfl, g0, congrArg _ (wInc (by omega)), g2, g3, rfl, rfl, hl', by omega, by omega, hy', p1.1.trans (hs4.trans hd'), hBL, fun R r s => ?_, D3, C2.trans C3⟩
        · omega
        · obtain ⟨q1, q2⟩ := hfin R r s
          exact fin' R q1 q2
      · rw [if_neg (by simpa using hc)]
        try simp only [ops P]
        have e4 : IntKind.i64.wrap ((mid : Int) + 1) = ((mid + 1 : Nat) : Int) := wInc (by omega)
        rw [e4]
        have := ih (y' - (mid + 1)) (by omega) D2 (x := mid + 1) (y := y') l' (Nat.le_refl _) hl' (by omega) (by omega) (by omega) hBr
        rw [hs4, hd'] at this
        refine run_callF hb74 (this.mono ?_)
        rintro _ h3 ⟨rfl, C3, d5, D3, p1, p2⟩
        try simp only [ops P]
        obtain ⟨hBL, hfin⟩ := hright _ p1 p2
        refine on _ _ _ ?_ ⟨x', mid, l', d5, _, ap, rfl, g0, g1, rfl, g3, rfl, rfl, hl', by omega, by omega, by omega, p1.1.trans (hs4.trans hd'), hBL, fun R r s => ?_, D3, C2.trans C3⟩
        · omega
        · obtain ⟨q1, q2⟩ := hfin R r s
          exact fin' R q1 q2
    have h0x : decide ((x' : Int) > 0) = decide (0 < x') := by
      by_cases hh : 0 < x'
      · have : (0 : Int) < x' := by omega
        simp [hh]
      · have : ¬ (0 : Int) < x' := by omega
        simp [hh]
    have h0x : decide ((0 : Int) < (x' : Int)) = decide (0 < x') := h0x
    simp only [h0x]
    by_cases hx0 : 0 < x'
    · have w1 : IntKind.i64.wrap ((x' : Int) - 1) = ((x' - 1 : Nat) : Int) := wDec (by omega) hx0
      simp only [hx0, decide_true, bb, ops P, w1, i1 hx0, i2, l1 hx0, l2]
      refine still_callF hb78 _ (less_spec _ _ h') ?_
      simp only [ops P, if_true]
      by_cases hlt : lt d'[x' - 1]! d'[pv]! = true
      · rw [if_neg (by simp [hlt])]
        exact way2 _ _ _ _ _ _ _ _ _ _ _ _ _ _ _
      · rw [if_pos (by simp [hlt])]
        have hnl : lt d'[x' - 1]! d'[pv]! = false := by simpa using hlt
        have := partEq_spec D' hp1 hp2 (by omega) (by omega)
        rw [hd'] at this
        refine run_callF hb93 (this.mono ?_)
        rintro _ h2 ⟨rfl, D2, C2⟩
        obtain ⟨m1, m2, hs4, hB4, hfin⟩ := Sort.round_eq swo_lt (Sort.partitionEqual_holds lt) hx0 hp1 hp2 (by omega) hB' hnl (show Sort.partitionEqual lt d' x' y' pv = ((Sort.partitionEqual lt d' x' y' pv).1, (Sort.partitionEqual lt d' x' y' pv).2) from rfl)
        refine on _ _ _ ?_ ⟨(Sort.partitionEqual lt d' x' y' pv).1, y', l', (Sort.partitionEqual lt d' x' y' pv).2, bl, pt, rfl, g0, rfl, g2, g3, g8, g9, hl', m2, by omega, hy', hs4.trans hd', hB4, fun R r s => ?_, D2, C'.trans C2⟩
        · omega
        · obtain ⟨q1, q2⟩ := hfin R r s
          exact fin' R q1 q2
    · simp only [hx0, decide_false, bb, ops P, if_false]
      exact way2 _ _ _ _ _ _ _ _ _ _ _ _ _ _ _
  -- the part ahead of it
  have c3 : ∀ (f' : F) (h' : Heap) (d' : Array Nat) (l' pv t : Nat), f' 0 = dv b d0.size cap → f' 1 = I x' → f' 2 = I y' → f' 3 = I l' → f' 8 = .bool bl → f' 9 = .bool pt → f' 10 = I (y' - x') → f' 11 = I pv → f' 12 = I t → l' < 4611686018427387904 → x' ≤ pv → pv < y' → Sort.PermIn x' y' d d' → Dt h' b cap d' → Chg (fun c => c = b) h0 h' → pdq_c3 Q' f' h' := by
    intro f' h' d' l' pv t g0 g1 g2 g3 g8 g9 g10 g11 g12 hl' hp1 hp2 Pm D' C'
    have hd' : d'.size = d0.size := Pm.1.trans hd
    unfold pdq_c3
    have pins : ∀ (w : F) , w 0 = dv b d0.size cap → w 1 = I x' → w 2 = I y' → w 3 = I l' → w 8 = .bool bl → w 9 = .bool pt → w 10 = I (y' - x') → w 11 = I pv → run P (.callF 92 [dv b d0.size cap, I x', I y']) (fun v72 h => br v72 (Q' .ret (U w [(72, v72)]) h) (pdq_c4 Q' (U w [(72, v72)]) h)) h' := by
      intro w k0 k1 k2 k3 k8 k9 k10 k11
      have := partIns_spec D' (x := x') (y := y') (by omega) (by omega) (by omega)
      rw [hd'] at this
      refine run_callF hb92 (this.mono ?_)
      rintro _ h2 ⟨rfl, D2, C2⟩
      have hB' : Sort.Below lt x' y' d' := hB.perm (by omega) Pm
      obtain ⟨p1, p2⟩ := Sort.partialInsertionSort_holds swo_lt d' x' y' (by omega) (by omega) hB'
      simp only [ops P]
      by_cases hc : (Sort.partialInsertionSort lt d' x' y').2 = true
      · rw [if_pos hc]
        refine out _ _ _ (by simp) ?_
        simp only [ex]
        obtain ⟨q1, q2⟩ := fin _ (Sort.permIn_trans _ _ _ _ _ Pm p1) (p2 hc)
        exact post_ret0 ⟨rfl, C'.trans C2, _, D2, q1, q2⟩
      · rw [if_neg hc]
        exact c4 _ _ _ l' pv k0 k1 k2 k3 k8 k9 k10 k11 hl' hp1 hp2 (Sort.permIn_trans _ _ _ _ _ Pm p1) D2 (C'.trans C2)
    simp only [g0, g1, g2, g8, g9, g12, ops P]
    cases bl with
    | false =>
      simp only [ops P, bb, if_false]
      exact c4 _ _ _ l' pv g0 g1 g2 g3 g8 g9 g10 g11 hl' hp1 hp2 Pm D' C'
    | true =>
      cases pt with
      | false =>
        simp only [ops P, bb, if_true, if_false]
        exact c4 _ _ _ l' pv g0 g1 g2 g3 g8 g9 g10 g11 hl' hp1 hp2 Pm D' C'
      | true =>
        simp only [ops P, bb, if_true, if_false]
        by_cases ht : ((t : Int) == 1) = true
        · rw [if_pos ht]
          exact pins (U f' [(61, .bool true), (62, .bool true), (63, .bool true), (64, .bool true), (65, .bool true), (66, I t), (67, .bool ((t : Int) == 1)), (68, .bool ((t : Int) == 1)), (69, dv b d0.size cap), (70, I x'), (71, I y')]) g0 g1 g2 g3 g8 g9 g10 g11
        · rw [if_neg ht]
          exact c4 _ _ _ l' pv g0 g1 g2 g3 g8 g9 g10 g11 hl' hp1 hp2 Pm D' C'
  -- and what is ahead of that
  have c2 : ∀ (f' : F) (h' : Heap) (d' : Array Nat) (l' : Nat), f' 0 = dv b d0.size cap → f' 1 = I x' → f' 2 = I y' → f' 3 = I l' → f' 8 = .bool bl → f' 9 = .bool pt → f' 10 = I (y' - x') → l' < 4611686018427387904 → Sort.PermIn x' y' d d' → Dt h' b cap d' → Chg (fun c => c = b) h0 h' → pdq_c2 Q' f' h' := by
    intro f' h' d' l' g0 g1 g2 g3 g8 g9 g10 hl' Pm D' C'
    have hd' : d'.size = d0.size := Pm.1.trans hd
    unfold pdq_c2
    simp only [g0, g1, g2]
    have := choosePiv_spec D' (x := x') (y := y') (by omega) (by omega) (by omega)
    rw [hd'] at this
    refine run_callF hb90 (this.mono ?_)
    rintro _ h2 ⟨⟨pv, t, rfl, hp1, hp2, ht⟩, C2⟩
    have D2 : Dt h2 b cap d' := D'.keep (C2.get b (Row.lt D') (fun h => h))
    have C2 : Chg (fun c => c = b) h0 h2 := C'.trans (C2.mono fun _ _ h => h.elim)
    simp only [ops P]
    by_cases ht2 : ((t : Int) == 2) = true
    · rw [if_pos ht2]
      have := revRange_spec D2 (x := x') (y := y') (by omega) (by omega) (by omega)
      rw [hd'] at this
      refine run_callF hb91 (this.mono ?_)
      rintro _ h3 ⟨rfl, D3, C3⟩
      have e2 : IntKind.i64.wrap ((y' : Int) - 1) = ((y' - 1 : Nat) : Int) := wDec (by omega) (by omega)
      have e3 : IntKind.i64.wrap ((pv : Int) - x') = ((pv - x' : Nat) : Int) := by rw [show (pv : Int) - x' = ((pv - x' : Nat) : Int) by omega]; exact wI (by omega)
      have e4 : IntKind.i64.wrap (((y' - 1 : Nat) : Int) - ((pv - x' : Nat) : Int)) = ((y' - 1 - (pv - x') : Nat) : Int) := by rw [show ((y' - 1 : Nat) : Int) - ((pv - x' : Nat) : Int) = ((y' - 1 - (pv - x') : Nat) : Int) by omega]; exact wI (by omega)
      try simp only [ops P, e2, e3, e4]
      exact c3 _ _ _ l' (y' - 1 - (pv - x')) 1 g0 g1 g2 g3 g8 g9 g10 (by first | rfl | (simp only [rdU, reduceIte, Nat.reduceEqDiff, e2, e3, e4])) rfl hl' (by omega) (by omega) (Sort.permIn_trans _ _ _ _ _ Pm (Sort.reverseRange_holds d' x' y' hxy' (by omega))) D3 (C2.trans C3)
    · rw [if_neg ht2]
      exact c3 _ _ _ l' pv t g0 g1 g2 g3 g8 g9 g10 rfl rfl hl' hp1 hp2 Pm D2 C2
  cases bl with
  | true =>
    simp only [ops P, bb, if_false]
    exact c2 _ _ d l (by rw [← hd]; exact f0) f1 f2 f3 f8 f9 rfl hl (Sort.permIn_refl _ _ _) D C
  | false =>
    simp only [ops P, bb, if_true]
    have := breakP_spec D (x := x') (y := y') (by omega) (by omega) (by omega)
    rw [hd] at this
    refine run_callF hb89 (this.mono ?_)
    rintro _ h1 ⟨rfl, C1, d1, D1, p1⟩
    try simp only [ops P]
    have e2 : IntKind.i64.wrap ((l : Int) - 1) = ((l - 1 : Nat) : Int) := wDec (by omega) (by omega)
    exact c2 _ _ d1 (l - 1) (by rw [← hd]; exact f0) f1 f2 (congrArg _ e2) f8 f9 rfl (by omega) p1 D1 (C.trans C1)
theorem hb47 : hasBody P 47 = true := by kernel_rfl
/-- sorts the numbers in place -/
theorem sort_spec {h0 : Heap} {b cap : Nat} {d0 : Array Nat} (D0 : Dt h0 b cap d0) (hs : d0.size < 65536) :
    HCalls P 47 #[dv b d0.size cap] h0 fun v h' => v = .tuple #[] ∧ Dt h' b cap (d0.toList.mergeSort (fun x y => !lt y x)).toArray ∧ Chg (fun c => c = b) h0 h' := by
  refine sort_ok ?_
  unfold sort_c0
  have e1 : ∀ K h, run P (.builtin .len #[22] 3 [false] [dv b d0.size cap]) K h = K (I d0.size) h := fun K h => (ans_lenSlice (P := P) s22).run K
  have e2 := (ans_convInt (n := (d0.size : Int)) (h := h0) (j := .i64) u3 u112).run
  rw [wU (by omega)] at e2
  simp only [fr, e1, e2]
  have hlen : HCalls P 75 #[.int .u64 (d0.size : Int)] h0 fun v h' => v = I (Sort.bitsLen d0.size) ∧ h' = h0 := by
    refine len_ok ?_
    unfold len_c0
    simp only [fr, ops P, bb, if_false]
    refine run_callF hb96 ((len64_spec hs h0).mono ?_)
    rintro _ _ ⟨rfl, rfl⟩
    exact post_ret1 ⟨rfl, rfl⟩
  refine run_callF hb75 (hlen.mono ?_)
  rintro _ h1 ⟨rfl, rfl⟩
  have hbl : Sort.bitsLen d0.size ≤ 16 := (Sort.bitsLen_le_iff d0.size 16).2 (by omega)
  refine run_callF hb74 ((pdq_spec d0.size D0 (x := 0) (y := d0.size) (Sort.bitsLen d0.size) (by omega) (by omega) (Nat.zero_le _) (Nat.le_refl _) hs (.inl rfl)).mono ?_)
  rintro _ h2 ⟨rfl, C2, d', D2, p1, p2⟩
  refine post_end0 ⟨rfl, ?_, C2⟩
  have := Sort.sorted_unique_holds swo_lt (fun x y h1 h2 => by simp [lt] at h1 h2; omega) d0 d' p1 p2
  have e : d' = (d0.toList.mergeSort (fun x y => !lt y x)).toArray := by rw [← this]
  rw [← e]; exact D2
end Go.Proofs.G
