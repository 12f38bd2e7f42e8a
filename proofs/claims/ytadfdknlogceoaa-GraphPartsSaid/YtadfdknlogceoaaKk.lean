import Derived.Sort.Defs
import Derived.Sort.LotA
import Derived.Sort.LotB
import Derived.Sort.LotC
import Derived.Sort.LotD1
import Derived.Sort.LotD3
import Derived.Test.YtadfdknlogceoaaKi
import Derived.Test.YtadfdknlogceoaaKf
import Derived.Test.YtadfdknlogceoaaKg
set_option linter.all false
open Go Go.Hv
set_option maxRecDepth 100000
namespace Go.Proofs.G
/-- block b holds the numbers d, with room for cap -/
def Dt (h : Heap) (b cap : Nat) (d : Array Nat) : Prop := Row h b 41 cap (d.toList.map R)
abbrev dv (b n cap : Nat) : Value := .slice (some ⟨b, 0, none⟩) n cap
theorem Dt.keep {h h' : Heap} {b cap : Nat} {d : Array Nat} (D : Dt h b cap d) (hk : h'[b]? = h[b]?) : Dt h' b cap d := Row.keep D hk
theorem ix {b n cap i : Nat} (hi : i < n) (k : IntKind) : (∀ K h, run P (.indexAddr 22 (dv b n cap) (.int k i)) K h = K (.pointer (some ⟨b, i, none⟩)) h) ∧ (∀ K h, still P (.indexAddr 22 (dv b n cap) (.int k i)) K h = K (.pointer (some ⟨b, i, none⟩))) ∧
    (∀ K h, headq P (.indexAddr 22 (dv b n cap) (.int k i)) K h = K (.pointer (some ⟨b, i, none⟩))) ∧ (∀ K, tf P (.indexAddr 22 (dv b n cap) (.int k i)) K = K (.pointer (some ⟨b, i, none⟩))) := by
  have e : ∀ h, Ans P (.indexAddr 22 (dv b n cap) (.int k i)) (.pointer (some ⟨b, i, none⟩)) h := fun h => by
    have := ans_indexAddr (P := P) s22 (a := ⟨b, 0, none⟩) (len := n) (cap := cap) (k := k) (i := (i : Int)) (by omega) (by omega) (h := h)
    rw [Addr.add_add0] at this; simpa using this
  exact ⟨fun K h => (e h).run K, fun K h => (e h).still K, fun K h => (e h).headq K, fun K => Ans.tf e K⟩
theorem Dt.ld {h : Heap} {b cap : Nat} {d : Array Nat} (D : Dt h b cap d) {i : Nat} (hi : i < d.size) : (∀ K, run P (.load 41 (.pointer (some ⟨b, i, none⟩))) K h = K (R d[i]!) h) ∧ (∀ K, still P (.load 41 (.pointer (some ⟨b, i, none⟩))) K h = K (R d[i]!)) ∧ (∀ K, headq P (.load 41 (.pointer (some ⟨b, i, none⟩))) K h = K (R d[i]!)) := by
  have hc : cell h ⟨b, i, none⟩ = some (R d[i]!) := Row.cell D (i := i) (by simp [hi])
  exact ⟨load_run o41 hc, load_still o41 hc, load_headq o41 hc⟩
theorem Dt.st {h : Heap} {b cap : Nat} {d : Array Nat} (D : Dt h b cap d) {i : Nat} (hi : i < d.size) (x : Nat) {K : Value → Heap → Prop} (hk : ∀ h', Dt h' b cap (d.setIfInBounds i x) → Chg (fun c => c = b) h h' → h'.size = h.size → K undef h') : run P (.store 41 (.pointer (some ⟨b, i, none⟩)) (R x)) K h := by
  have hc : cell h ⟨b, i, none⟩ = some (R d[i]!) := Row.cell D (i := i) (by simp [hi])
  refine Hv.run_store o41 rfl hc (Row.froz D i none) (hk _ ?_ (chg_setC h ⟨b, i, none⟩ (R x)) (setC_size _ _ _))
  have := Row.set D (i := i) (R x)
  rw [← List.map_set] at this
  unfold Dt
  simpa using this

def lt (x y : Nat) : Bool := decide (x < y)
theorem swo_lt : Sort.SWO lt where
  irrefl := fun a => by simp [lt]
  trans := fun a b c h1 h2 => by simp [lt] at *; omega
  ntrans := fun a b c h1 h2 => by simp [lt] at *; omega
theorem hb77 : hasBody P 77 = true := by kernel_rfl
theorem hb78 : hasBody P 78 = true := by kernel_rfl
theorem cisNaN_spec (x : Nat) (h : Heap) : HCalls P 77 #[R x] h fun u h' => u = .bool false ∧ h' = h := by
  refine cisNaN_ok ?_
  unfold cisNaN_c0
  simp only [fr, ops P]
  refine post_ret1 ⟨?_, rfl⟩
  simp [rdU]
theorem less_spec (x y : Nat) (h : Heap) : HCalls P 78 #[R x, R y] h fun u h' => u = .bool (lt x y) ∧ h' = h := by
  refine less_ok ?_
  unfold less_c0
  simp only [fr]
  refine run_callF hb77 ((cisNaN_spec x h).mono ?_)
  rintro _ _ ⟨rfl, rfl⟩
  simp only [ops P, bb, if_false]
  refine post_ret1 ⟨?_, rfl⟩
  simp only [rdU, reduceIte, Nat.reduceEqDiff, lt]
  congr 1; simp
end Go.Proofs.G
open Go Go.Hv
set_option maxRecDepth 100000
namespace Go.Proofs.G
/-- what a walk over the numbers leaves -/
def Sorts (b cap : Nat) (h : Heap) (d : Array Nat) (v : Value) (h' : Heap) : Prop := v = .tuple #[] ∧ Dt h' b cap d ∧ Chg (fun c => c = b) h h'
theorem lt_R {a b : Nat} : decide ((a : Int) < (b : Int)) = decide (a < b) := by
  by_cases h : a < b
  · have : ((a : Int) < (b : Int)) := by omega
    simp [h]
  · have : ¬ ((a : Int) < (b : Int)) := by omega
    simp [h, this]
theorem bne_R {a b : Nat} : ((a : Int) != (b : Int)) = decide (a ≠ b) := by
  by_cases h : a = b
  · subst h; simp
  · have : ¬ ((a : Int) = (b : Int)) := by omega
    simp [h, this]
theorem beq_R {a b : Nat} : ((a : Int) == (b : Int)) = decide (a = b) := by
  by_cases h : a = b
  · subst h; simp
  · have : ¬ ((a : Int) = (b : Int)) := by omega
    simp [h, this]
theorem lt_gt {a b : Nat} : decide ((b : Int) < (a : Int)) = decide (a > b) := by
  by_cases h : a > b
  · have : ((b : Int) < (a : Int)) := by omega
    simp [h]
  · have : ¬ ((b : Int) < (a : Int)) := by omega
    simp [h, this]
theorem swp_sz {d : Array Nat} {i j : Nat} : (Sort.swp d i j).size = d.size := by simp [Sort.swp]

theorem insSort_spec {h0 : Heap} {b cap : Nat} {d0 : Array Nat} (D0 : Dt h0 b cap d0) {x y : Nat} (hxy : x ≤ y) (hy : y ≤ d0.size) (hs : d0.size < 4611686018427387904) :
    HCalls P 87 #[dv b d0.size cap, I x, I y] h0 (Sorts b cap h0 (Sort.insertionSort lt d0 x y)) := by
  refine insSort_ok ?_
  unfold insSort_c0
  simp only [fr, ops P]
  rw [wInc (by omega)]
  refine lp_of (fun k f h => ∃ i d, k = y + 1 - i ∧ f 0 = dv b d0.size cap ∧ f 1 = I x ∧ f 2 = I y ∧ f 6 = I i ∧ x + 1 ≤ i ∧ (i ≤ y ∨ i = x + 1) ∧ d.size = d0.size ∧ Sort.insOuter lt x y i d = Sort.insertionSort lt d0 x y ∧ Dt h b cap d ∧ Chg (fun c => c = b) h0 h) _ ⟨x + 1, d0, rfl, ?_⟩ ?_
  · exact ⟨rfl, rfl, rfl, rfl, Nat.le_refl _, .inr rfl, rfl, rfl, D0, Chg.refl _ _⟩
  rintro k f h Q' ⟨i, d, rfl, f0, f1, f2, f6, hi, hiy, hd, hE, D, C⟩ on out
  unfold insSort_L1
  simp only [f2, f6, ops P, lt_R]
  by_cases hiy' : i < y
  · rw [if_pos (by simpa using hiy')]
    refine lp_of (fun j f h => ∃ d', f 0 = dv b d0.size cap ∧ f 1 = I x ∧ f 2 = I y ∧ f 6 = I i ∧ f 7 = I j ∧ j ≤ i ∧ d'.size = d0.size ∧ Sort.insInner lt x j d' = Sort.insInner lt x i d ∧ Dt h b cap d' ∧ Chg (fun c => c = b) h0 h) i ⟨d, ?_⟩ ?_
    · exact ⟨f0, f1, f2, f6, rfl, Nat.le_refl _, hd, rfl, D, C⟩
    rintro j f h Q2 ⟨d', f0, f1, f2, f6, f7, hj, hd', hE', D', C'⟩ on2 out2
    have fin : ∀ f' : F, f' 0 = dv b d0.size cap → f' 1 = I x → f' 2 = I y → f' 6 = I i → d' = Sort.insInner lt x i d → insSort_c2 Q' f' h := by
      intro f' g0 g1 g2 g6 e
      unfold insSort_c2
      simp only [g6, ops P]
      refine on _ _ _ ?_ ⟨i + 1, d', rfl, ?_⟩
      · omega
      · refine ⟨g0, g1, g2, congrArg _ (wInc (by omega)), by omega, .inl (by omega), hd', ?_, D', C'⟩
        rw [← hE, e]
        conv => rhs; rw [Sort.insOuter, if_pos hiy']
    unfold insSort_L3
    simp only [f0, f1, f7, ops P, lt_gt]
    by_cases hjx : j > x
    · obtain ⟨j, rfl⟩ : ∃ j', j = j' + 1 := ⟨j - 1, by omega⟩
      have i1 := ix (b := b) (n := d0.size) (cap := cap) (i := j + 1) (by omega) .i64
      have i2 := ix (b := b) (n := d0.size) (cap := cap) (i := j) (by omega) .i64
      have l1 := D'.ld (i := j + 1) (by omega)
      have l2 := D'.ld (i := j) (by omega)
      have w1 : IntKind.i64.wrap (((j + 1 : Nat) : Int) - 1) = (j : Int) := wDec (n := j + 1) (by omega) (by omega)
      simp only [hjx, decide_true, bb, ops P, w1, i1, i2, l1, l2]
      refine still_callF hb78 _ (less_spec _ _ h) ?_
      simp only [ops P, if_true]
      by_cases hl : lt d'[j + 1]! d'[j]! = true
      · rw [if_pos hl]
        simp only [ops P, opsf P, w1, i1, i2, l1, l2]
        refine D'.st (by omega) _ fun h1 D1 C1 s1 => ?_
        refine D1.st (by simp; omega) _ fun h2 D2 C2 s2 => ?_
        try simp only [ops P, w1]
        refine on2 _ _ _ (Nat.lt_succ_self j) ⟨Sort.swp d' (j + 1) j, ?_⟩
        refine ⟨f0, f1, f2, f6, rfl, by omega, swp_sz.trans hd', ?_, D2, (C'.trans C1).trans C2⟩
        rw [← hE']
        conv => rhs; rw [Sort.insInner, if_pos (by simp [hl]; omega)]
      · rw [if_neg hl]
        refine out2 _ _ _ (by simp) ?_
        simp only [ex]
        refine fin _ f0 f1 f2 f6 ?_
        rw [← hE', Sort.insInner, if_neg (by simp [hl])]
    · simp only [hjx, decide_false, bb, ops P, if_false]
      refine out2 _ _ _ (by simp) ?_
      simp only [ex]
      refine fin _ f0 f1 f2 f6 ?_
      rw [← hE']
      cases j with
      | zero => rfl
      | succ j => rw [Sort.insInner, if_neg (by simp; omega)]
  · rw [if_neg (by simpa using hiy')]
    refine out _ _ _ (by simp) ?_
    simp only [ex]
    refine post_end0 ⟨rfl, ?_, C⟩
    rw [← hE, Sort.insOuter, if_neg hiy']; exact D
end Go.Proofs.G
open Go Go.Hv
set_option maxRecDepth 100000
namespace Go.Proofs.G
theorem hb110 : hasBody P 110 = true := by kernel_rfl
theorem hb111 : hasBody P 111 = true := by kernel_rfl
theorem hb116 : hasBody P 116 = true := by kernel_rfl
theorem o3 : one P 3 = true := by kernel_rfl
theorem z3 : (P.info? 3).map (·.zero) = some (some (.int .i64 0)) := by kernel_rfl
theorem wI' {n : Int} (h0 : -9223372036854775808 ≤ n) (h : n < 9223372036854775808) : IntKind.i64.wrap n = n := IntWalk.i64_in _ (by omega)
/-- the count of swaps -/
def Sw (h : Heap) (sp : Nat) : Prop := ∃ z : Int, h[sp]? = some (.cells #[.int .i64 z] 3 (0, 0))
theorem Sw.cell {h : Heap} {sp : Nat} (s : Sw h sp) : ∃ z : Int, Hv.cell h ⟨sp, 0, none⟩ = some (.int .i64 z) ∧ froz h ⟨sp, 0, none⟩ = false ∧ h[sp]? = some (.cells #[.int .i64 z] 3 (0, 0)) := by
  obtain ⟨z, hz⟩ := s
  exact ⟨z, cell_at hz rfl, by simp [froz, hz], hz⟩
def Pick (sp : Nat) (h : Heap) (h' : Heap) : Prop := Sw h' sp ∧ Chg (fun c => c = sp) h h'
theorem order2_spec {h : Heap} {b cap sp : Nat} {d : Array Nat} (D : Dt h b cap d) (S : Sw h sp) (hne : sp ≠ b) {x y : Nat} (hx : x < d.size) (hy : y < d.size) :
    HCalls P 116 #[dv b d.size cap, I x, I y, .pointer (some ⟨sp, 0, none⟩)] h fun v h' => (∃ u w, v = .tuple #[I u, I w] ∧ (u = x ∨ u = y) ∧ (w = x ∨ w = y)) ∧ Pick sp h h' := by
  refine order2_ok ?_
  unfold order2_c0
  obtain ⟨z, hz, hf, hg⟩ := S.cell
  simp only [fr, ops P, ix hx .i64, ix hy .i64, D.ld hx, D.ld hy]
  refine still_callF hb78 _ (less_spec _ _ h) ?_
  simp only [ops P, load_run o3 hz]
  by_cases hl : lt d[y]! d[x]! = true
  · rw [if_pos hl]
    refine Hv.run_store o3 rfl hz hf ?_
    refine post_ret2 ⟨⟨y, x, rfl, .inr rfl, .inl rfl⟩, ⟨_, setC_get h _ hg⟩, chg_setC h ⟨sp, 0, none⟩ _⟩
  · rw [if_neg hl]
    exact post_ret2 ⟨⟨x, y, rfl, .inl rfl, .inr rfl⟩, S, Chg.refl _ _⟩
theorem median_spec {h : Heap} {b cap sp : Nat} {d : Array Nat} (D : Dt h b cap d) (S : Sw h sp) (hne : sp ≠ b) {x y z : Nat} (hx : x < d.size) (hy : y < d.size) (hz : z < d.size) :
    HCalls P 111 #[dv b d.size cap, I x, I y, I z, .pointer (some ⟨sp, 0, none⟩)] h fun v h' => (∃ u, v = I u ∧ (u = x ∨ u = y ∨ u = z)) ∧ Pick sp h h' := by
  have hlt : ∀ {h'} , Chg (fun c => c = sp) h h' → Dt h' b cap d := fun c => D.keep (c.get b (Row.lt D) (Ne.symm hne))
  refine median_ok ?_
  unfold median_c0
  simp only [fr]
  refine run_callF hb116 ((order2_spec D S hne hx hy).mono ?_)
  rintro _ h1 ⟨⟨u, w, rfl, hu, hw⟩, S1, C1⟩
  simp only [ops P]
  refine run_callF hb116 ((order2_spec (hlt C1) S1 hne (x := w) (by rcases hw with rfl | rfl <;> assumption) hz).mono ?_)
  rintro _ h2 ⟨⟨u2, w2, rfl, hu2, hw2⟩, S2, C2⟩
  simp only [ops P]
  have C12 := C1.trans C2
  refine run_callF hb116 ((order2_spec (hlt C12) S2 hne (x := u) (y := u2) (by rcases hu with rfl | rfl <;> assumption) (by rcases hu2 with rfl | rfl <;> first | assumption | (rcases hw with rfl | rfl <;> assumption))).mono ?_)
  rintro _ h3 ⟨⟨u3, w3, rfl, hu3, hw3⟩, S3, C3⟩
  simp only [ops P]
  refine post_ret1 ⟨⟨w3, rfl, ?_⟩, S3, C12.trans C3⟩
  rcases hw3 with rfl | rfl
  · rcases hu with h | h <;> simp [h]
  · rcases hu2 with rfl | h
    · rcases hw with h | h <;> simp [h]
    · simp [h]
theorem medAdj_spec {h : Heap} {b cap sp : Nat} {d : Array Nat} (D : Dt h b cap d) (S : Sw h sp) (hne : sp ≠ b) (hs : d.size < 4611686018427387904) {x : Nat} (hx : x + 1 < d.size) (h0 : 0 < x) :
    HCalls P 110 #[dv b d.size cap, I x, .pointer (some ⟨sp, 0, none⟩)] h fun v h' => (∃ u, v = I u ∧ x ≤ u + 1 ∧ u ≤ x + 1) ∧ Pick sp h h' := by
  refine medAdj_ok ?_
  unfold medAdj_c0
  simp only [fr, ops P]
  rw [wInc (by omega), wDec (by omega) h0]
  refine run_callF hb111 ((median_spec D S hne (by omega) (by omega) (by omega)).mono ?_)
  rintro _ h1 ⟨⟨u, rfl, hu⟩, S1⟩
  exact post_ret1 ⟨⟨u, rfl, by omega, by omega⟩, S1⟩
theorem quo_run {P : Program} {t : TypeId} {c d : Bool} {k : IntKind} {a b : Int} (hb : b ≠ 0) (K : Value → Heap → Prop) (h : Heap) : run P (.bin .quo t c d (.int k a) (.int k b)) K h = K (.int k (k.wrap (a.tdiv b))) h := (ans_quo hb).run K
theorem choosePiv_spec {h : Heap} {b cap : Nat} {d : Array Nat} (D : Dt h b cap d) {x y : Nat} (hxy : x < y) (hy : y ≤ d.size) (hs : d.size < 1152921504606846976) :
    HCalls P 90 #[dv b d.size cap, I x, I y] h fun v h' => (∃ p t, v = .tuple #[I p, I t] ∧ x ≤ p ∧ p < y ∧ t ≤ 2) ∧ Chg (fun _ => False) h h' := by
  refine choosePiv_ok ?_
  unfold choosePiv_c0
  simp only [fr, ops P, run_alloc z3, quo_run (show (4 : Int) ≠ 0 by decide)]
  have e1 : IntKind.i64.wrap ((y : Int) - x) = ((y - x : Nat) : Int) := by rw [show (y : Int) - x = ((y - x : Nat) : Int) by omega]; exact wI (by omega)
  have e2 : IntKind.i64.wrap (((y - x : Nat) : Int).tdiv 4) = (((y - x) / 4 : Nat) : Int) := by
    rw [Int.tdiv_eq_ediv_of_nonneg (by omega)]
    exact wI (n := (y - x) / 4) (by omega)
  have e3 : ∀ k : Nat, k ≤ 3 → IntKind.i64.wrap ((((y - x) / 4 : Nat) : Int) * (k : Int)) = (((y - x) / 4 * k : Nat) : Int) := fun k hk => by
    rw [← Int.natCast_mul]
    have : (y - x) / 4 * k ≤ (y - x) / 4 * 3 := Nat.mul_le_mul_left _ hk
    exact wI (by omega)
  have e4 : ∀ k : Nat, k ≤ 3 → IntKind.i64.wrap ((x : Int) + (((y - x) / 4 * k : Nat) : Int)) = ((x + (y - x) / 4 * k : Nat) : Int) := fun k hk => by
    rw [← Int.natCast_add]
    have : (y - x) / 4 * k ≤ (y - x) / 4 * 3 := Nat.mul_le_mul_left _ hk
    exact wI (by omega)
  have e31 : IntKind.i64.wrap ((((y - x) / 4 : Nat) : Int) * 1) = (((y - x) / 4 * 1 : Nat) : Int) := e3 1 (by omega)
  have e32 : IntKind.i64.wrap ((((y - x) / 4 : Nat) : Int) * 2) = (((y - x) / 4 * 2 : Nat) : Int) := e3 2 (by omega)
  have e33 : IntKind.i64.wrap ((((y - x) / 4 : Nat) : Int) * 3) = (((y - x) / 4 * 3 : Nat) : Int) := e3 3 (by omega)
  rw [e1, e2, e31, e32, e33, e4 1 (by omega), e4 2 (by omega), e4 3 (by omega)]
  have hb : b < h.size := Row.lt D
  have hS : Sw (h.push (.cells (Value.int .i64 0).cells 3)) h.size := ⟨0, get_push_new _ _⟩
  have hD : Dt (h.push (.cells (Value.int .i64 0).cells 3)) b cap d := D.keep (get_push_old _ _ hb)
  have key : ∀ (f' : F) (h' : Heap) (p : Nat), f' 11 = I p → f' 9 = .pointer (some ⟨h.size, 0, none⟩) → x ≤ p → p < y → Sw h' h.size → Chg (fun c => c = h.size) (h.push (.cells (Value.int .i64 0).cells 3)) h' → choosePiv_c1 (post [.tmp 6, .tmp 7] fun v h' => (∃ p t, v = .tuple #[I p, I t] ∧ x ≤ p ∧ p < y ∧ t ≤ 2) ∧ Chg (fun _ => False) h h') f' h' := by
    intro f' h' p g11 g9 hp1 hp2 S C
    unfold choosePiv_c1
    obtain ⟨z, hz, _⟩ := S.cell
    have CC : Chg (fun _ => False) h h' := ⟨by have := C.size; simp at this; omega, fun i hi _ => by rw [C.get i (by simp; omega) (by omega), get_push_old _ _ hi]⟩
    simp only [g9, g11, load_run o3 hz, ops P]
    by_cases h1 : (z == 0) = true
    · rw [if_pos h1]; exact post_ret2 ⟨⟨p, 1, rfl, hp1, hp2, by omega⟩, CC⟩
    · rw [if_neg h1]
      by_cases h2 : (z == 12) = true
      · rw [if_pos h2]; exact post_ret2 ⟨⟨p, 2, rfl, hp1, hp2, by omega⟩, CC⟩
      · rw [if_neg h2]; exact post_ret2 ⟨⟨p, 0, rfl, hp1, hp2, by omega⟩, CC⟩
  by_cases h8 : (8 : Int) ≤ ((y - x : Nat) : Int)
  · rw [if_pos (by simpa using h8)]
    by_cases h50 : (50 : Int) ≤ ((y - x : Nat) : Int)
    · rw [if_pos (by simpa using h50)]
      refine run_callF hb110 ((medAdj_spec hD hS (by omega) (by omega) (x := x + (y - x) / 4 * 1) (by omega) (by omega)).mono ?_)
      rintro _ h1 ⟨⟨u1, rfl, hu1⟩, S1, C1⟩
      have D1 : Dt h1 b cap d := hD.keep (C1.get b (by simp; omega) (by omega))
      refine run_callF hb110 ((medAdj_spec D1 S1 (by omega) (by omega) (x := x + (y - x) / 4 * 2) (by omega) (by omega)).mono ?_)
      rintro _ h2 ⟨⟨u2, rfl, hu2⟩, S2, C2⟩
      have D2 : Dt h2 b cap d := D1.keep (C2.get b (Row.lt D1) (by omega))
      refine run_callF hb110 ((medAdj_spec D2 S2 (by omega) (by omega) (x := x + (y - x) / 4 * 3) (by omega) (by omega)).mono ?_)
      rintro _ h3 ⟨⟨u3, rfl, hu3⟩, S3, C3⟩
      have D3 : Dt h3 b cap d := D2.keep (C3.get b (Row.lt D2) (by omega))
      unfold choosePiv_c2
      simp only [rdU, reduceIte, Nat.reduceEqDiff, fr]
      refine run_callF hb111 ((median_spec D3 S3 (by omega) (by omega) (by omega) (by omega)).mono ?_)
      rintro _ h4 ⟨⟨u, rfl, hu⟩, S4, C4⟩
      exact key _ _ u rfl rfl (by omega) (by omega) S4 (((C1.trans C2).trans C3).trans C4)
    · rw [if_neg (by simpa using h50)]
      unfold choosePiv_c2
      simp only [rdU, reduceIte, Nat.reduceEqDiff, fr]
      refine run_callF hb111 ((median_spec hD hS (by omega) (x := x + (y - x) / 4 * 1) (y := x + (y - x) / 4 * 2) (z := x + (y - x) / 4 * 3) (by omega) (by omega) (by omega)).mono ?_)
      rintro _ h4 ⟨⟨u, rfl, hu⟩, S4, C4⟩
      exact key _ _ u rfl rfl (by omega) (by omega) S4 C4
  · rw [if_neg (by simpa using h8)]
    exact key _ _ (x + (y - x) / 4 * 2) rfl rfl (by omega) (by omega) hS (Chg.refl _ _)
end Go.Proofs.G
open Go Go.Hv
set_option maxRecDepth 100000
namespace Go.Proofs.G
theorem wAdd {a b : Nat} (h : a + b < 9223372036854775808) : IntKind.i64.wrap ((a : Int) + (b : Int)) = ((a + b : Nat) : Int) := by
  rw [← Int.natCast_add]; exact wI h
theorem ge_R {a b : Nat} : decide ((b : Int) ≤ (a : Int)) = decide (a ≥ b) := by
  by_cases h : a ≥ b
  · have : ((b : Int) ≤ (a : Int)) := by omega
    simp [h]
  · have : ¬ ((b : Int) ≤ (a : Int)) := by omega
    simp [h, this]
theorem siftDown_spec {h0 : Heap} {b cap : Nat} {d0 : Array Nat} (D0 : Dt h0 b cap d0) {lo hi first : Nat} (hlo : lo ≤ hi) (hh : first + hi ≤ d0.size) (hs : d0.size < 1152921504606846976) :
    HCalls P 107 #[dv b d0.size cap, I lo, I hi, I first] h0 (Sorts b cap h0 (Sort.siftDown lt hi first lo d0)) := by
  refine siftDown_ok ?_
  unfold siftDown_c0
  refine lp_of (fun k f h => ∃ root d, k = hi - root ∧ f 0 = dv b d0.size cap ∧ f 2 = I hi ∧ f 3 = I first ∧ f 8 = I root ∧ root ≤ hi ∧ d.size = d0.size ∧ Sort.siftDown lt hi first root d = Sort.siftDown lt hi first lo d0 ∧ Dt h b cap d ∧ Chg (fun c => c = b) h0 h) _ ⟨lo, d0, rfl, rfl, rfl, rfl, rfl, hlo, rfl, rfl, D0, Chg.refl _ _⟩ ?_
  rintro k f h Q' ⟨root, d, rfl, f0, f2, f3, f8, hr, hd, hE, D, C⟩ on out
  unfold siftDown_L1
  simp only [f0, f2, f3, f8, ops P]
  have e1 : IntKind.i64.wrap (2 * (root : Int)) = ((2 * root : Nat) : Int) := wI (n := 2 * root) (by omega)
  have e2 : IntKind.i64.wrap (((2 * root : Nat) : Int) + 1) = ((2 * root + 1 : Nat) : Int) := wInc (by omega)
  have e3 : IntKind.i64.wrap (((2 * root + 1 : Nat) : Int) + 1) = ((2 * root + 1 + 1 : Nat) : Int) := wInc (by omega)
  rw [e1, e2, ge_R]
  rw [Sort.siftDown] at hE
  by_cases h1 : 2 * root + 1 ≥ hi
  · rw [if_pos (by simpa using h1)]
    rw [dif_pos h1] at hE
    refine out _ _ _ (by simp) ?_
    simp only [ex]
    refine post_end0 ⟨rfl, ?_, C⟩
    rw [← hE]; exact D
  · rw [if_neg (by simpa using h1)]
    rw [dif_neg h1] at hE
    have wa : ∀ z : Nat, z < hi → IntKind.i64.wrap ((first : Int) + (z : Int)) = ((first + z : Nat) : Int) := fun z hz => wAdd (by omega)
    -- the second half: the child that is the greater
    have fin : ∀ (f' : F) (ch : Nat), f' 0 = dv b d0.size cap → f' 2 = I hi → f' 3 = I first → f' 8 = I root → f' 9 = I ch → ch < hi → root < ch → (if (!lt d[first + root]! d[first + ch]!) = true then d else Sort.siftDown lt hi first ch (Sort.swp d (first + root) (first + ch))) = Sort.siftDown lt hi first lo d0 → siftDown_c2 Q' f' h := by
      intro f' ch g0 g2 g3 g8 g9 hc hrc hE
      unfold siftDown_c2
      have i1 := ix (b := b) (n := d0.size) (cap := cap) (i := first + root) (by omega) .i64
      have i2 := ix (b := b) (n := d0.size) (cap := cap) (i := first + ch) (by omega) .i64
      have l1 := D.ld (i := first + root) (by omega)
      have l2 := D.ld (i := first + ch) (by omega)
      have w1 := wa root (by omega)
      have w2 := wa ch hc
      simp only [g0, g3, g8, g9, ops P, w1, w2, i1, i2, l1, l2]
      refine still_callF hb78 _ (less_spec _ _ h) ?_
      simp only [ops P]
      by_cases hl : lt d[first + root]! d[first + ch]! = true
      · rw [if_neg (by simp [hl])]
        rw [if_neg (by simp [hl])] at hE
        simp only [ops P, opsf P, w1, w2, i1, i2, l1, l2]
        refine D.st (by omega) _ fun h1 D1 C1 s1 => ?_
        refine D1.st (by simp; omega) _ fun h2 D2 C2 s2 => ?_
        refine on _ _ _ ?_ ⟨ch, Sort.swp d (first + root) (first + ch), rfl, g0, g2, g3, rfl, by omega, swp_sz.trans hd, hE, D2, (C.trans C1).trans C2⟩
        omega
      · rw [if_pos (by simp [hl])]
        rw [if_pos (by simp [hl])] at hE
        refine out _ _ _ (by simp) ?_
        simp only [ex]
        refine post_ret0 ⟨rfl, ?_, C⟩
        rw [← hE]; exact D
    simp only [ops P, e3, lt_R]
    by_cases h2 : 2 * root + 1 + 1 < hi
    · have i1 := ix (b := b) (n := d0.size) (cap := cap) (i := first + (2 * root + 1)) (by omega) .i64
      have i2 := ix (b := b) (n := d0.size) (cap := cap) (i := first + (2 * root + 1) + 1) (by omega) .i64
      have l1 := D.ld (i := first + (2 * root + 1)) (by omega)
      have l2 := D.ld (i := first + (2 * root + 1) + 1) (by omega)
      have w1 := wa (2 * root + 1) (by omega)
      have w2 : IntKind.i64.wrap (((first + (2 * root + 1) : Nat) : Int) + 1) = ((first + (2 * root + 1) + 1 : Nat) : Int) := wInc (by omega)
      simp only [h2, decide_true, bb, ops P, w1, w2, i1, i2, l1, l2]
      refine still_callF hb78 _ (less_spec _ _ h) ?_
      simp only [ops P, if_true]
      by_cases hl : lt d[first + (2 * root + 1)]! d[first + (2 * root + 1) + 1]! = true
      · rw [if_pos hl]
        try simp only [ops P, e3]
        refine fin _ (2 * root + 1 + 1) f0 f2 f3 f8 rfl h2 (by omega) ?_
        rw [if_pos (by simp [hl, h2]), dif_pos h2] at hE
        exact hE
      · rw [if_neg hl]
        refine fin _ (2 * root + 1) f0 f2 f3 f8 rfl (by omega) (by omega) ?_
        rw [if_neg (by simp [hl])] at hE
        exact hE
    · simp only [h2, decide_false, bb, ops P, if_false]
      refine fin _ (2 * root + 1) f0 f2 f3 f8 rfl (by omega) (by omega) ?_
      rw [if_neg (by simp [h2])] at hE
      exact hE
theorem hb107 : hasBody P 107 = true := by kernel_rfl
theorem siftDown_sz {hi first : Nat} : ∀ (n root : Nat) (d : Array Nat), hi - root ≤ n → (Sort.siftDown lt hi first root d).size = d.size := by
  intro n
  induction n with
  | zero => intro root d hn; rw [Sort.siftDown, dif_pos (by omega)]
  | succ n ih =>
    intro root d hn
    rw [Sort.siftDown]
    split
    · rfl
    · split
      · split
        · rfl
        · split
          · rw [ih _ _ (by omega), swp_sz]
          · rfl
      · split
        · rfl
        · rw [ih _ _ (by omega), swp_sz]
theorem heapSort_spec {h0 : Heap} {b cap : Nat} {d0 : Array Nat} (D0 : Dt h0 b cap d0) {x y : Nat} (hxy : x < y) (hy : y ≤ d0.size) (hs : d0.size < 1152921504606846976) :
    HCalls P 88 #[dv b d0.size cap, I x, I y] h0 (Sorts b cap h0 (Sort.heapSort lt d0 x y)) := by
  refine heapSort_ok ?_
  unfold heapSort_c0
  have e1 : IntKind.i64.wrap ((y : Int) - x) = ((y - x : Nat) : Int) := by rw [show (y : Int) - x = ((y - x : Nat) : Int) by omega]; exact wI (by omega)
  have e2 : IntKind.i64.wrap (((y - x : Nat) : Int) - 1) = ((y - x - 1 : Nat) : Int) := wDec (by omega) (by omega)
  have e3 : IntKind.i64.wrap (((y - x - 1 : Nat) : Int).tdiv 2) = (((y - x - 1) / 2 : Nat) : Int) := by
    rw [Int.tdiv_eq_ediv_of_nonneg (by omega)]
    exact wI (n := (y - x - 1) / 2) (by omega)
  simp only [fr, ops P, quo_run (show (2 : Int) ≠ 0 by decide)]
  rw [e1, e2, e3]
  refine lp_of (fun k f h => ∃ d, f 0 = dv b d0.size cap ∧ f 6 = I x ∧ f 7 = I 0 ∧ f 8 = I (y - x) ∧ f 9 = .int .i64 ((k : Int) - 1) ∧ k ≤ y - x ∧ d.size = d0.size ∧ Sort.heapPop lt x (y - x) (Sort.heapBuild lt (y - x) x k d) = Sort.heapSort lt d0 x y ∧ Dt h b cap d ∧ Chg (fun c => c = b) h0 h) ((y - x - 1) / 2 + 1) ⟨d0, rfl, rfl, rfl, rfl, ?_, by omega, rfl, rfl, D0, Chg.refl _ _⟩ ?_
  · show (Value.int .i64 _) = _
    congr 1; omega
  rintro k f h Q' ⟨d, f0, f6, f7, f8, f9, hk, hd, hE, D, C⟩ on out
  unfold heapSort_L3
  simp only [f0, f6, f8, f9, ops P]
  cases k with
  | zero =>
    rw [if_neg (by simp)]
    refine out _ _ _ (by simp) ?_
    simp only [ex]
    unfold heapSort_c1
    have e4 : IntKind.i64.wrap (((y - x : Nat) : Int) - 1) = ((y - x : Nat) : Int) - 1 := by rw [e2]; omega
    show run P (X.bin .sub 3 false true (f 8) (Value.int .i64 1)) _ h
    simp only [f8, ops P, e4]
    refine lp_of (fun k f h => ∃ d, f 0 = dv b d0.size cap ∧ f 6 = I x ∧ f 10 = .int .i64 ((k : Int) - 1) ∧ f 7 = I 0 ∧ k ≤ y - x ∧ d.size = d0.size ∧ Sort.heapPop lt x k d = Sort.heapSort lt d0 x y ∧ Dt h b cap d ∧ Chg (fun c => c = b) h0 h) (y - x) ⟨d, f0, f6, rfl, f7, Nat.le_refl _, hd, hE, D, C⟩ ?_
    rintro k f h Q2 ⟨d, f0, f6, f10, f7, hk, hd, hE, D, C⟩ on2 out2
    unfold heapSort_L2
    simp only [f0, f6, f7, f10, ops P]
    cases k with
    | zero =>
      rw [if_neg (by simp)]
      refine out2 _ _ _ (by simp) ?_
      simp only [ex]
      refine post_end0 ⟨rfl, ?_, C⟩
      rw [← hE]; exact D
    | succ k =>
      rw [show ((k + 1 : Nat) : Int) - 1 = (k : Int) by omega]
      rw [if_pos (by simp)]
      have i1 := ix (b := b) (n := d0.size) (cap := cap) (i := x) (by omega) .i64
      have i2 := ix (b := b) (n := d0.size) (cap := cap) (i := x + k) (by omega) .i64
      have l1 := D.ld (i := x) (by omega)
      have l2 := D.ld (i := x + k) (by omega)
      have w1 : IntKind.i64.wrap ((x : Int) + (k : Int)) = ((x + k : Nat) : Int) := wAdd (by omega)
      simp only [ops P, opsf P, w1, i1, i2, l1, l2]
      refine D.st (by omega) _ fun h1 D1 C1 s1 => ?_
      refine D1.st (by simp; omega) _ fun h2 D2 C2 s2 => ?_
      refine run_callF hb107 ?_
      have D2' : Dt h2 b cap (Sort.swp d x (x + k)) := D2
      have := siftDown_spec D2' (lo := 0) (hi := k) (first := x) (by omega) (by rw [swp_sz]; omega) (by rw [swp_sz]; omega)
      rw [swp_sz, hd] at this
      refine this.mono ?_
      rintro _ h3 ⟨rfl, D3, C3⟩
      try simp only [ops P]
      refine on2 k _ _ (Nat.lt_succ_self k) ⟨Sort.siftDown lt k x 0 (Sort.swp d x (x + k)), f0, f6, ?_, f7, by omega, (siftDown_sz _ _ _ (Nat.le_refl _)).trans (swp_sz.trans hd), hE, D3, ((C.trans C1).trans C2).trans C3⟩
      show (Value.int .i64 _) = _
      congr 1
      exact wI' (by omega) (by omega)
  | succ k =>
    rw [show ((k + 1 : Nat) : Int) - 1 = (k : Int) by omega]
    rw [if_pos (by simp)]
    refine run_callF hb107 ?_
    have := siftDown_spec D (lo := k) (hi := y - x) (first := x) (by omega) (by omega) (by omega)
    rw [hd] at this
    refine this.mono ?_
    rintro _ h1 ⟨rfl, D1, C1⟩
    try simp only [ops P]
    refine on k _ _ (Nat.lt_succ_self k) ⟨Sort.siftDown lt (y - x) x k d, f0, f6, f7, f8, ?_, by omega, (siftDown_sz _ _ _ (Nat.le_refl _)).trans hd, hE, D1, C.trans C1⟩
    show (Value.int .i64 _) = _
    congr 1
    exact wI' (by omega) (by omega)
end Go.Proofs.G
open Go Go.Hv
set_option maxRecDepth 100000
namespace Go.Proofs.G
theorem scanSorted_rng {d : Array Nat} {b : Nat} : ∀ (n i : Nat), b - i ≤ n → i ≤ b → i ≤ Sort.scanSorted lt d b i ∧ Sort.scanSorted lt d b i ≤ b := by
  intro n
  induction n with
  | zero => intro i h1 h2; rw [Sort.scanSorted, if_neg (by simp; omega)]; omega
  | succ n ih =>
    intro i h1 h2
    rw [Sort.scanSorted]
    split
    · rename_i hc
      simp at hc
      have := ih (i + 1) (by omega) (by omega)
      omega
    · omega
theorem shiftDown_sz : ∀ (j : Nat) (d : Array Nat), (Sort.shiftDown lt j d).size = d.size := by
  intro j
  induction j with
  | zero => intro d; rfl
  | succ j ih => intro d; rw [Sort.shiftDown]; split <;> simp [ih, swp_sz]
theorem partIns_spec {h0 : Heap} {b cap : Nat} {d0 : Array Nat} (D0 : Dt h0 b cap d0) {x y : Nat} (hxy : x < y) (hy : y ≤ d0.size) (hs : d0.size < 1152921504606846976) :
    HCalls P 92 #[dv b d0.size cap, I x, I y] h0 fun v h' => v = .bool (Sort.partialInsertionSort lt d0 x y).2 ∧ Dt h' b cap (Sort.partialInsertionSort lt d0 x y).1 ∧ Chg (fun c => c = b) h0 h' := by
  refine partIns_ok ?_
  unfold partIns_c0
  simp only [fr, ops P]
  rw [wInc (by omega)]
  generalize hG : Sort.partialInsertionSort lt d0 x y = G
  refine lp_of (fun k f h => ∃ i d, f 0 = dv b d0.size cap ∧ f 1 = I x ∧ f 2 = I y ∧ f 7 = I i ∧ f 8 = I (5 - k) ∧ k ≤ 5 ∧ x + 1 ≤ i ∧ i ≤ y ∧ d.size = d0.size ∧ Sort.partialIns lt x y k i d = G ∧ Dt h b cap d ∧ Chg (fun c => c = b) h0 h) 5 ⟨x + 1, d0, rfl, rfl, rfl, rfl, rfl, Nat.le_refl _, Nat.le_refl _, hxy, rfl, hG, D0, Chg.refl _ _⟩ ?_
  rintro k f h Q' ⟨i, d, f0, f1, f2, f7, f8, hk, hi, hiy, hd, hE, D, C⟩ on out
  unfold partIns_L2
  simp only [f8, ops P, lt_R]
  cases k with
  | zero =>
    rw [if_neg (by simp)]
    refine out _ _ _ (by simp) ?_
    simp only [ex]
    unfold partIns_c1
    rw [Sort.partialIns] at hE
    exact post_ret1 ⟨by rw [← hE]; rfl, by rw [← hE]; exact D, C⟩
  | succ k =>
    rw [if_pos (by simp; omega)]
    rw [Sort.partialIns] at hE
    have w8 : IntKind.i64.wrap (((5 - (k + 1) : Nat) : Int) + 1) = ((5 - k : Nat) : Int) := by rw [show 5 - k = 5 - (k + 1) + 1 by omega]; exact wInc (by omega)
    refine lp_of (fun m f h' => ∃ j, m = y - j ∧ f 0 = dv b d0.size cap ∧ f 1 = I x ∧ f 2 = I y ∧ f 7 = I j ∧ f 8 = I (5 - (k + 1)) ∧ i ≤ j ∧ j ≤ y ∧ Sort.scanSorted lt d y j = Sort.scanSorted lt d y i ∧ h = h') _ ⟨i, rfl, f0, f1, f2, f7, f8, Nat.le_refl _, hiy, rfl, rfl⟩ ?_
    rintro m f _ Q2 ⟨j, rfl, f0, f1, f2, f7, f8, hj, hjy, hjE, rfl⟩ on2 out2
    -- behind the scan
    have behind : ∀ f' : F, f' 0 = dv b d0.size cap → f' 1 = I x → f' 2 = I y → f' 7 = I j → f' 8 = I (5 - (k + 1)) → Sort.scanSorted lt d y i = j → partIns_c4 Q' f' h := by
      intro f' g0 g1 g2 g7 g8 hj2
      rw [hj2] at hE
      unfold partIns_c4
      have c3 : ∀ (f' : F) (h' : Heap) (d' : Array Nat), f' 0 = dv b d0.size cap → f' 1 = I x → f' 2 = I y → f' 7 = I j → f' 8 = I (5 - (k + 1)) → d'.size = d0.size → Sort.partialIns lt x y k j d' = G → Dt h' b cap d' → Chg (fun c => c = b) h0 h' → partIns_c3 Q' f' h' := by
        intro f' h' d' g0 g1 g2 g7 g8 hd' hE' D' C'
        unfold partIns_c3
        simp only [g8, ops P]
        exact on k _ _ (Nat.lt_succ_self k) ⟨j, d', g0, g1, g2, g7, congrArg _ w8, by omega, by omega, hjy, hd', hE', D', C'⟩
      simp only [g0, g1, g2, g7, ops P, beq_R, lt_R]
      by_cases hjb : j = y
      · rw [if_pos (by simpa using hjb)]
        rw [if_pos hjb] at hE
        refine out _ _ _ (by simp) ?_
        simp only [ex]
        exact post_ret1 ⟨by rw [← hE]; rfl, by rw [← hE]; exact D, C⟩
      · rw [if_neg (by simpa using hjb)]
        rw [if_neg hjb] at hE
        have e1 : IntKind.i64.wrap ((y : Int) - x) = ((y - x : Nat) : Int) := by rw [show (y : Int) - x = ((y - x : Nat) : Int) by omega]; exact wI (by omega)
        rw [e1]
        by_cases h50 : y - x < 50
        · rw [if_pos (by simp; omega)]
          rw [if_pos h50] at hE
          refine out _ _ _ (by simp) ?_
          simp only [ex]
          exact post_ret1 ⟨by rw [← hE]; rfl, by rw [← hE]; exact D, C⟩
        · rw [if_neg (by simp; omega)]
          rw [if_neg h50] at hE
          have i1 := ix (b := b) (n := d0.size) (cap := cap) (i := j) (by omega) .i64
          have i2 := ix (b := b) (n := d0.size) (cap := cap) (i := j - 1) (by omega) .i64
          have l1 := D.ld (i := j) (by omega)
          have l2 := D.ld (i := j - 1) (by omega)
          have w1 : IntKind.i64.wrap ((j : Int) - 1) = ((j - 1 : Nat) : Int) := wDec (by omega) (by omega)
          simp only [ops P, opsf P, w1, i1, i2, l1, l2]
          refine D.st (by omega) _ fun h1 D1 C1 s1 => ?_
          refine D1.st (by simp; omega) _ fun h2 D2 C2 s2 => ?_
          have D2 : Dt h2 b cap (Sort.swp d j (j - 1)) := D2
          have C2 := (C.trans C1).trans C2
          have hd2 : (Sort.swp d j (j - 1)).size = d0.size := swp_sz.trans hd
          dsimp only at hE
          generalize Sort.swp d j (j - 1) = d2 at D2 hd2 hE
          have e2 : IntKind.i64.wrap ((j : Int) - x) = ((j - x : Nat) : Int) := by rw [show (j : Int) - x = ((j - x : Nat) : Int) by omega]; exact wI (by omega)
          have e3 : IntKind.i64.wrap ((y : Int) - j) = ((y - j : Nat) : Int) := by rw [show (y : Int) - j = ((y - j : Nat) : Int) by omega]; exact wI (by omega)
          -- upwards
          have up : ∀ (f' : F) (h' : Heap) (d' : Array Nat), f' 0 = dv b d0.size cap → f' 1 = I x → f' 2 = I y → f' 7 = I j → f' 8 = I (5 - (k + 1)) → d'.size = d0.size → Sort.partialIns lt x y k j (if y - j ≥ 2 then Sort.shiftUp lt y (j + 1) d' else d') = G → Dt h' b cap d' → Chg (fun c => c = b) h0 h' → partIns_c5 Q' f' h' := by
            intro f' h' d' g0 g1 g2 g7 g8 hd' hE' D' C'
            unfold partIns_c5
            simp only [g2, g7, ops P, e3]
            by_cases hu : y - j ≥ 2
            · rw [if_pos (by simp; omega)]
              rw [if_pos hu] at hE'
              rw [wInc (by omega)]
              refine lp_of (fun m f h => ∃ t d, m = y - t ∧ f 0 = dv b d0.size cap ∧ f 1 = I x ∧ f 2 = I y ∧ f 7 = I j ∧ f 8 = I (5 - (k + 1)) ∧ f 10 = I t ∧ j + 1 ≤ t ∧ t ≤ y ∧ d.size = d0.size ∧ Sort.shiftUp lt y t d = Sort.shiftUp lt y (j + 1) d' ∧ Dt h b cap d ∧ Chg (fun c => c = b) h0 h) _ ⟨j + 1, d', rfl, g0, g1, g2, g7, g8, rfl, Nat.le_refl _, by omega, hd', rfl, D', C'⟩ ?_
              rintro m f h Q3 ⟨t, d, rfl, f0, f1, f2, f7, f8, f10, ht, hty, hd, hE2, D, C⟩ on3 out3
              unfold partIns_L6
              simp only [f0, f2, f10, ops P, lt_R]
              rw [Sort.shiftUp] at hE2
              by_cases h1 : t < y
              · rw [if_pos (by simpa using h1)]
                rw [if_pos h1] at hE2
                have i1 := ix (b := b) (n := d0.size) (cap := cap) (i := t) (by omega) .i64
                have i2 := ix (b := b) (n := d0.size) (cap := cap) (i := t - 1) (by omega) .i64
                have l1 := D.ld (i := t) (by omega)
                have l2 := D.ld (i := t - 1) (by omega)
                have w1 : IntKind.i64.wrap ((t : Int) - 1) = ((t - 1 : Nat) : Int) := wDec (by omega) (by omega)
                simp only [ops P, w1, i1, i2, l1, l2]
                refine still_callF hb78 _ (less_spec _ _ h) ?_
                simp only [ops P]
                by_cases hl : lt d[t]! d[t - 1]! = true
                · rw [if_neg (by simp [hl])]
                  rw [if_neg (by simp [hl])] at hE2
                  simp only [ops P, opsf P, w1, i1, i2, l1, l2]
                  refine D.st (by omega) _ fun h1 D1 C1 s1 => ?_
                  refine D1.st (by simp; omega) _ fun h2 D2 C2 s2 => ?_
                  try simp only [ops P]
                  refine on3 _ _ _ ?_ ⟨t + 1, Sort.swp d t (t - 1), rfl, f0, f1, f2, f7, f8, congrArg _ (wInc (by omega)), by omega, by omega, swp_sz.trans hd, hE2, D2, (C.trans C1).trans C2⟩
                  omega
                · rw [if_pos (by simp [hl])]
                  rw [if_pos (by simp [hl])] at hE2
                  refine out3 _ _ _ (by simp) ?_
                  simp only [ex]
                  exact c3 _ _ d f0 f1 f2 f7 f8 hd (by rw [hE2]; exact hE') D C
              · rw [if_neg (by simpa using h1)]
                rw [if_neg h1] at hE2
                refine out3 _ _ _ (by simp) ?_
                simp only [ex]
                exact c3 _ _ d f0 f1 f2 f7 f8 hd (by rw [hE2]; exact hE') D C
            · rw [if_neg (by simp; omega)]
              rw [if_neg hu] at hE'
              exact c3 _ _ d' g0 g1 g2 g7 g8 hd' hE' D' C'
          try simp only [ops P, e2]
          by_cases hu : j - x ≥ 2
          · rw [if_pos (by simp; omega)]
            rw [if_pos hu] at hE
            try rw [w1]
            refine lp_of (fun m f h => ∃ d, f 0 = dv b d0.size cap ∧ f 1 = I x ∧ f 2 = I y ∧ f 7 = I j ∧ f 8 = I (5 - (k + 1)) ∧ f 9 = I m ∧ m + 1 ≤ j ∧ d.size = d0.size ∧ Sort.shiftDown lt m d = Sort.shiftDown lt (j - 1) d2 ∧ Dt h b cap d ∧ Chg (fun c => c = b) h0 h) (j - 1) ⟨d2, g0, g1, g2, g7, g8, rfl, by omega, hd2, rfl, D2, C2⟩ ?_
            rintro m f h Q3 ⟨d, f0, f1, f2, f7, f8, f9, hm, hd, hE2, D, C⟩ on3 out3
            unfold partIns_L7
            simp only [f0, f9, ops P]
            cases m with
            | zero =>
              rw [if_neg (by simp)]
              refine out3 _ _ _ (by simp) ?_
              simp only [ex]
              rw [Sort.shiftDown] at hE2
              exact up _ _ d f0 f1 f2 f7 f8 hd (by rw [hE2]; exact hE) D C
            | succ m =>
              rw [if_pos (by simp; omega)]
              rw [Sort.shiftDown] at hE2
              have i1 := ix (b := b) (n := d0.size) (cap := cap) (i := m + 1) (by omega) .i64
              have i2 := ix (b := b) (n := d0.size) (cap := cap) (i := m) (by omega) .i64
              have l1 := D.ld (i := m + 1) (by omega)
              have l2 := D.ld (i := m) (by omega)
              have w1 : IntKind.i64.wrap (((m + 1 : Nat) : Int) - 1) = (m : Int) := wDec (n := m + 1) (by omega) (by omega)
              simp only [ops P, w1, i1, i2, l1, l2]
              refine still_callF hb78 _ (less_spec _ _ h) ?_
              simp only [ops P]
              by_cases hl : lt d[m + 1]! d[m]! = true
              · rw [if_neg (by simp [hl])]
                rw [if_neg (by simp [hl])] at hE2
                simp only [ops P, opsf P, w1, i1, i2, l1, l2]
                refine D.st (by omega) _ fun h1 D1 C1 s1 => ?_
                refine D1.st (by simp; omega) _ fun h2 D2 C2 s2 => ?_
                try simp only [ops P, w1]
                exact on3 m _ _ (Nat.lt_succ_self m) ⟨Sort.swp d (m + 1) m, f0, f1, f2, f7, f8, rfl, by omega, swp_sz.trans hd, hE2, D2, (C.trans C1).trans C2⟩
              · rw [if_pos (by simp [hl])]
                rw [if_pos (by simp [hl])] at hE2
                refine out3 _ _ _ (by simp) ?_
                simp only [ex]
                exact up _ _ d f0 f1 f2 f7 f8 hd (by rw [hE2]; exact hE) D C
          · rw [if_neg (by simp; omega)]
            rw [if_neg hu] at hE
            exact up _ _ d2 g0 g1 g2 g7 g8 hd2 hE D2 C2
    unfold partIns_L8
    simp only [f0, f2, f7, ops P, lt_R]
    rw [Sort.scanSorted] at hjE
    by_cases hjy2 : j < y
    · have i1 := ix (b := b) (n := d0.size) (cap := cap) (i := j) (by omega) .i64
      have i2 := ix (b := b) (n := d0.size) (cap := cap) (i := j - 1) (by omega) .i64
      have l1 := D.ld (i := j) (by omega)
      have l2 := D.ld (i := j - 1) (by omega)
      have w1 : IntKind.i64.wrap ((j : Int) - 1) = ((j - 1 : Nat) : Int) := wDec (by omega) (by omega)
      simp only [hjy2, decide_true, bb, ops P, w1, i1, i2, l1, l2]
      refine still_callF hb78 _ (less_spec _ _ h) ?_
      simp only [ops P, if_true]
      by_cases hl : lt d[j]! d[j - 1]! = true
      · rw [if_neg (by simp [hl])] at hjE ⊢
        refine out2 _ _ _ (by simp) ?_
        simp only [ex]
        exact behind _ f0 f1 f2 f7 f8 hjE.symm
      · rw [if_pos (by simp [hl, hjy2])] at hjE
        rw [if_pos (by simp [hl])]
        refine on2 _ _ _ ?_ ⟨j + 1, rfl, f0, f1, f2, congrArg _ (wInc (by omega)), f8, by omega, by omega, hjE, rfl⟩
        omega
    · simp only [hjy2, decide_false, bb, ops P, if_false]
      rw [if_neg (by simp [hjy2])] at hjE
      refine out2 _ _ _ (by simp) ?_
      simp only [ex]
      exact behind _ f0 f1 f2 f7 f8 hjE.symm
end Go.Proofs.G
