import Derived.Test.YtadfdknlogceoaaKl
import Derived.Test.YtadfdknlogceoaaKc
set_option linter.all false
open Go Go.Hv
set_option maxRecDepth 100000
namespace Go.Proofs.G
theorem hb84 : hasBody P 84 = true := by kernel_rfl
theorem hb82 : hasBody P 82 = true := by kernel_rfl
theorem hb83 : hasBody P 83 = true := by kernel_rfl
theorem hb85 : hasBody P 85 = true := by kernel_rfl
theorem hb86 : hasBody P 86 = true := by kernel_rfl
theorem hb106 : hasBody P 106 = true := by kernel_rfl
theorem hb70 : hasBody P 70 = true := by kernel_rfl
theorem hb71 : hasBody P 71 = true := by kernel_rfl
/-- new memory: the slice v holds the nodes l, its block is beyond n -/
structure Nw (n : Nat) (h : Heap) (v : Value) (l : List Nat) : Prop where
  own : Own h v 41 (l.map R)
  lo : ∀ c, blkOf v = some c → n ≤ c
theorem Nw.keep {n m : Nat} {h h' : Heap} {v : Value} {l : List Nat} (w : Nw n h v l) (O : Old m h h') (hm : h.size ≤ m) : Nw n h' v l := ⟨w.own.keep fun b hb => O.get b (Nat.lt_of_lt_of_le (w.own.lt hb) hm), w.lo⟩
theorem Nw.mono {n m : Nat} {h : Heap} {v : Value} {l : List Nat} (w : Nw n h v l) (hm : m ≤ n) : Nw m h v l := ⟨w.own, fun c hc => Nat.le_trans hm (w.lo c hc)⟩
theorem Nw.rs {n : Nat} {h : Heap} {v : Value} {l : List Nat} (w : Nw n h v l) : Rs h.size h v l := ⟨w.own.sl, fun c hc => w.own.lt hc⟩
theorem Nw.nil (n : Nat) (h : Heap) : Nw n h (.slice none 0 0) [] := ⟨Own.nil _ _, fun c hc => by cases hc⟩

theorem get_push_at (h : Heap) (o : Obj) {b : Nat} (hb : b = h.size) : (h.push o)[b]? = some o := by subst hb; exact get_push_new h o
theorem get_set_at (h : Heap) (o : Obj) {b : Nat} (hb : b < h.size) : (h.setIfInBounds b o)[b]? = some o := by simp [hb]
/-- AppendSeq over a slice's values: they are appended to nothing -/
theorem appendSeq_spec {n : Nat} {h0 : Heap} {sv : Value} {xs : List Nat} {bx : Nat} (S : Rs n h0 sv xs) (hx : h0[bx]? = some (.cells #[sv] 22 (0, 0))) (hn : n ≤ h0.size) (hlen : xs.length ≤ 1000000) :
    HCalls P 106 #[.slice none 0 0, .func (.func 86) #[] #[.pointer (some ⟨bx, 0, none⟩)]] h0 fun v h' => Nw h0.size h' v xs ∧ Old h0.size h0 h' := by
  have hbx : bx < h0.size := lt_of_get hx
  refine appendSeq_ok ?_
  unfold appendSeq_c0
  refine runR_of ?_
  rw [run_box]
  simp only [fr]
  refine ⟨by trivial, 86, #[], #[.pointer (some ⟨bx, 0, none⟩)], rfl, hb86, fun r L => ?_⟩
  simp only [Array.size_push]
  refine valuesf_ok (a0 := .func (.yield (h0.size + 1 + 1)) #[] #[]) (c0 := .pointer (some ⟨bx, 0, none⟩)) ?_
  unfold valuesf_c0
  simp only [fr]
  have hx1 : (((h0.push (.cells (Value.slice none 0 0).cells 22)).push (.deferred (some []))).push (.loop r))[bx]? = some (.cells #[sv] 22 (0, 0)) := by
    rw [get_push_old _ _ (by simp; omega), get_push_old _ _ (by simp; omega), get_push_old _ _ hbx]; exact hx
  refine runR_of ?_
  rw [load_run o22 (cell_at hx1 (v := sv) rfl)]
  refine runR_of ?_
  rw [(S.len false).1]
  refine lp_up xs.length (fun j f h => f 0 = .func (.yield (h0.size + 1 + 1)) #[] #[] ∧ f 5 = sv ∧ f 6 = I xs.length ∧ f 7 = I j ∧ h[h0.size + 1 + 1]? = some (.loop r) ∧ h[h0.size + 1]? = some (.deferred (some [])) ∧ (∃ lv, h[h0.size]? = some (.cells #[lv] 22 (0, 0)) ∧ Nw (h0.size + 3) h lv (xs.take j)) ∧ Old h0.size h0 h) ?_ ?_
  · refine ⟨rfl, rfl, rfl, rfl, get_push_at _ _ (by simp), ?_, ⟨.slice none 0 0, ?_, Nw.nil _ _⟩, ?_⟩
    · rw [get_push_old _ _ (by simp)]; exact get_push_at _ _ (by simp)
    · rw [get_push_old _ _ (by simp only [Array.size_push]; omega), get_push_old _ _ (by simp)]; exact get_push_at _ _ rfl
    · exact ((old_push _ _ (Nat.le_refl _)).trans (old_push _ _ (by simp only [Array.size_push]; omega))).trans (old_push _ _ (by simp only [Array.size_push]; omega))
  rintro j f h Q' hj ⟨f0, f5, f6, f7, hl, hD, ⟨lv, hlv, N⟩, O⟩ on out
  unfold valuesf_L1
  refine runR_of ?_
  simp only [f0, f5, f6, f7, ops P, lt_R]
  by_cases hjl : j < xs.length
  · obtain ⟨x, hxj⟩ : ∃ x, xs[j]? = some x := ⟨_, List.getElem?_eq_getElem hjl⟩
    obtain ⟨a, a1, _, a2, _, a4⟩ := S.at hxj .i64
    rw [if_pos (by simpa using hjl)]
    refine runR_of ?_
    rw [a1]
    refine runR_of ?_
    rw [load_run o41 (show cell h a = _ from (by unfold cell; rw [O.get _ (Nat.lt_of_lt_of_le a4 hn)]; exact a2))]
    refine runR_yield hl L.ps ?_
    have hfit := L.fits.put (d := some 7) (by decide) (R x)
    refine hroundC hl L.ready L.none' L.assign L.body hfit (by kernel_rfl) (by kernel_rfl) ?_
    rw [← appendSeq_A_code]
    unfold appendSeq_A_a0
    refine ⟨rfl, hl, ?_⟩
    rw [← appendSeq_B_code]
    unfold appendSeq_B_b0
    have hsz : h0.size + 1 + 1 < h.size := lt_of_get hl
    generalize hh1 : h.setIfInBounds (h0.size + 1 + 1) (.loop { r with state := .busy }) = h1
    have s1 : h1.size = h.size := by rw [← hh1]; simp
    have g1 : ∀ c, c ≠ h0.size + 1 + 1 → h1[c]? = h[c]? := fun c hc => by rw [← hh1]; simp only [Array.getElem?_setIfInBounds]; rw [if_neg (by omega)]
    have gl : h1[h0.size + 1 + 1]? = some (.loop { r with state := .busy }) := by rw [← hh1]; exact get_set_at _ _ hsz
    have hlv1 : h1[h0.size]? = some (.cells #[lv] 22 (0, 0)) := (g1 _ (by omega)).trans hlv
    simp only [Hv.put, rdU, reduceIte, Nat.reduceEqDiff, fr]
    refine runR_of ?_
    rw [load_run o22 (cell_at hlv1 (v := lv) rfl)]
    refine runR_of ?_
    refine run_buildSlice1 eRef rfl ?_
    refine runR_of ?_
    have o1 : Own h1 lv 41 ((xs.take j).map R) := N.own.keep fun c hc => g1 c (by have := N.lo c hc; omega)
    have o2 : Own (h1.push (.cells #[R x] 41)) lv 41 ((xs.take j).map R) := o1.keep fun c hc => get_push_old _ _ (o1.lt hc)
    have sw : Sl (h1.push (.cells #[R x] 41)) (.slice (some ⟨h1.size, 0, none⟩) 1 1) [R x] := Row.sl (Row.mk' (get_push_new _ _))
    refine run_append1 eRef o2 sw (by simp [oneC]) (by simp; omega) (by simp; omega) fun v' h2 o3 c3 b3 => ?_
    have k2 : ∀ c, c < h1.size → (∀ d, blkOf lv = some d → c ≠ d) → h2[c]? = h1[c]? := fun c hc hne => by
      rw [c3.get c (by simp; omega) (fun e => hne c e rfl), get_push_old _ _ hc]
    have hlv2 : h2[h0.size]? = some (.cells #[lv] 22 (0, 0)) := (k2 _ (by omega) (fun d hd => by have := N.lo d hd; omega)).trans hlv1
    refine runR_of ?_
    have hv' : oneC v' = true := by rcases o3 with ⟨rfl, _⟩ | ⟨_, _, rfl, _⟩ <;> rfl
    refine Hv.run_store o22 hv' (cell_at hlv2 (v := lv) rfl) (by simp [froz, hlv2]) ?_
    have b3' : ∀ c, blkOf v' = some c → h0.size + 3 ≤ c := fun c hc => by
      rcases b3 c hc with h' | h'
      · exact N.lo c h'
      · simp at h'; omega
    generalize hh3 : setC h2 ⟨h0.size, 0, none⟩ v' = h3
    have g3 : ∀ c, c ≠ h0.size → h3[c]? = h2[c]? := fun c hc => by rw [← hh3, setC_get_ne _ _ _ (by simpa using hc)]
    have g3' : h3[h0.size]? = some (.cells #[v'] 22 (0, 0)) := by rw [← hh3, setC_get _ _ hlv2]; rfl
    have s3 : h3.size = h2.size := by rw [← hh3, setC_size]
    have hs2 : h1.size ≤ h2.size := by have := c3.size; simp at this; omega
    have l3 : h3[h0.size + 1 + 1]? = some (.loop { r with state := .busy }) := (g3 _ (by omega)).trans ((k2 _ (by omega) (fun d hd => by have := N.lo d hd; omega)).trans gl)
    refine ⟨trivial, l3, ?_⟩
    refine runR_of ?_
    simp only [ops P, bb, if_false]
    refine runR_of ?_
    simp only [ops P]
    refine on _ _ hjl ⟨f0, f5, f6, congrArg _ (wInc (by omega)), get_set_at _ _ (by omega), ?_, ⟨v', ?_, ?_⟩, ?_⟩
    · rw [Array.getElem?_setIfInBounds_ne (by omega), g3 _ (by omega), k2 _ (by omega) (fun d hd => by have := N.lo d hd; omega), g1 _ (by omega)]; exact hD
    · rw [Array.getElem?_setIfInBounds_ne (by omega)]; exact g3'
    · refine ⟨?_, b3'⟩
      rw [take_at hxj, List.map_append]
      exact o3.keep fun c hc => by
        have := b3' c hc
        rw [Array.getElem?_setIfInBounds_ne (by omega), g3 _ (by omega)]
    · refine O.trans ⟨by simp; omega, fun c hc => ?_⟩
      rw [Array.getElem?_setIfInBounds_ne (by omega), g3 _ (by omega), k2 _ (by omega) (fun d hd => by have := N.lo d hd; omega), g1 _ (by omega)]
  · rw [if_neg (by simpa using hjl)]
    refine out _ _ _ (by simp) ?_
    simp only [ex]
    refine post_end0 ⟨r, hl, by rw [L.ready]; simp, L.none', ?_⟩
    unfold appendSeq_r2 appendSeq_c1
    have hjj : xs.take j = xs := List.take_of_length_le (by omega)
    rw [hjj] at N
    refine runR_of ?_
    have hsz : h0.size + 1 + 1 < h.size := lt_of_get hl
    show run P (.load 22 (.pointer (some ⟨h0.size, 0, none⟩))) _ _
    have hlv' : (h.setIfInBounds (h0.size + 1 + 1) (.loop { r with state := .exhausted }))[h0.size]? = some (.cells #[lv] 22 (0, 0)) := by rw [Array.getElem?_setIfInBounds_ne (by omega)]; exact hlv
    rw [load_run o22 (cell_at hlv' (v := lv) rfl)]
    refine ⟨by rw [Array.getElem?_setIfInBounds_ne (by omega)]; exact hD, [lv], rfl, ?_, ?_⟩
    · refine ⟨N.own.keep fun c hc => ?_, fun c hc => by have := N.lo c hc; omega⟩
      have := N.lo c hc
      rw [Array.getElem?_setIfInBounds_ne (by omega), Array.getElem?_setIfInBounds_ne (by omega)]
    · exact ⟨by simp; exact O.size, fun c hc => by rw [Array.getElem?_setIfInBounds_ne (by omega), Array.getElem?_setIfInBounds_ne (by omega)]; exact O.get c hc⟩
end Go.Proofs.G
open Go Go.Hv
set_option maxRecDepth 100000
namespace Go.Proofs.G
theorem build75 (a : Option Addr) (l c : Nat) (m1 m2 : Option Nat) (h : Heap) : Ans P (.build 75 [(0, .slice a l c), (1, .map m1), (2, .map m2)]) (.agg #[.slice a l c, .map m1, .map m2]) h := by unfold Ans; kernel_rfl
theorem build107 (h : Heap) : Ans P (.build 107 []) (.agg #[]) h := by unfold Ans; kernel_rfl
theorem build57 (a b : Int) (h : Heap) : Ans P (.build 57 [(0, .int .u64 a), (1, .int .u64 b)]) (.agg #[.int .u64 a, .int .u64 b]) h := by unfold Ans; kernel_rfl
theorem Own.one {h : Heap} {v : Value} {e : TypeId} {xs : List Value} (o : Own h v e xs) : oneC v = true := by rcases o with ⟨rfl, _⟩ | ⟨_, _, rfl, _⟩ <;> rfl

/-- the rising list of some numbers -/
def srt (l : List Nat) : List Nat := l.mergeSort (fun x y => !lt y x)
theorem srt_perm (l : List Nat) : (srt l).Perm l := List.mergeSort_perm l _
theorem srt_mem {l : List Nat} {x : Nat} : x ∈ srt l ↔ x ∈ l := (srt_perm l).mem_iff
theorem srt_len (l : List Nat) : (srt l).length = l.length := (srt_perm l).length_eq
theorem srt_le (l : List Nat) : (srt l).Pairwise (· ≤ ·) := by
  have := List.pairwise_mergeSort (le := fun x y => !lt y x) (fun a b c h1 h2 => by simp [lt] at *; omega) (fun a b => by simp [lt]; omega) l
  exact this.imp fun h => by simp [lt] at h; exact h

/-- slices.Sort of a slice of one's own -/
theorem sort_own {h0 : Heap} {v : Value} {l : List Nat} (o : Own h0 v 41 (l.map R)) (hl : l.length < 65536) :
    HCalls P 47 #[v] h0 fun u h' => u = .tuple #[] ∧ Own h' v 41 ((srt l).map R) ∧ Chg (fun c => blkOf v = some c) h0 h' := by
  rcases o with ⟨rfl, hl0⟩ | ⟨b, cap, rfl, r⟩
  · have hl0 : l = [] := by simpa using hl0
    subst hl0
    refine sort_ok ?_
    unfold sort_c0
    have e1 : ∀ K h, run P (.builtin .len #[22] 3 [false] [.slice none 0 0]) K h = K (I 0) h := fun K h => (ans_lenSlice (P := P) s22).run K
    have e2 := (ans_convInt (n := ((0 : Nat) : Int)) (h := h0) (j := .i64) u3 u112).run
    rw [wU (by omega)] at e2
    simp only [fr, e1, e2]
    have hlen : HCalls P 75 #[.int .u64 ((0 : Nat) : Int)] h0 fun v h' => v = I (Sort.bitsLen 0) ∧ h' = h0 := by
      refine len_ok ?_
      unfold len_c0
      simp only [fr, ops P, bb, if_false]
      refine run_callF hb96 ((len64_spec (by omega) h0).mono ?_)
      rintro _ _ ⟨rfl, rfl⟩
      exact post_ret1 ⟨rfl, rfl⟩
    refine run_callF hb75 (hlen.mono ?_)
    rintro _ h1 ⟨rfl, rfl⟩
    have key : HCalls P 74 #[.slice none 0 0, I 0, I 0, I (Sort.bitsLen 0)] h1 fun u h' => u = .tuple #[] ∧ h' = h1 := by
      refine pdq_ok ?_
      unfold pdq_c0
      refine lp_of (fun k f h => f 0 = .slice none 0 0 ∧ f 1 = I 0 ∧ f 2 = I 0 ∧ h = h1) 0 ⟨rfl, rfl, rfl, rfl⟩ ?_
      rintro k f h Q' ⟨f0, f1, f2, rfl⟩ on out
      unfold pdq_L1
      simp only [f0, f1, f2, ops P]
      rw [if_pos (by decide)]
      have ins : HCalls P 87 #[.slice none 0 0, I 0, I 0] h fun u h' => u = .tuple #[] ∧ h' = h := by
        refine insSort_ok ?_
        unfold insSort_c0
        simp only [fr, ops P]
        refine lp_of (fun k f h' => f 6 = I 1 ∧ f 2 = I 0 ∧ h' = h) 0 ⟨rfl, rfl, rfl⟩ ?_
        rintro k f h' Q2 ⟨f6, f2, rfl⟩ on2 out2
        unfold insSort_L1
        simp only [f6, f2, ops P]
        rw [if_neg (by decide)]
        refine out2 _ _ _ (by simp) ?_
        simp only [ex]
        exact post_end0 ⟨rfl, rfl⟩
      refine run_callF hb87 (ins.mono ?_)
      rintro _ h2 ⟨rfl, rfl⟩
      refine out _ _ _ (by simp) ?_
      simp only [ex]
      exact post_ret0 ⟨rfl, rfl⟩
    refine run_callF hb74 (key.mono ?_)
    rintro _ h2 ⟨rfl, rfl⟩
    exact post_end0 ⟨rfl, .inl ⟨rfl, by simp [srt]⟩, Chg.refl _ _⟩
  · have D : Dt h0 b cap l.toArray := by unfold Dt; simpa using r
    have := sort_spec D (by simpa using hl)
    have e : dv b l.toArray.size cap = .slice (some ⟨b, 0, none⟩) (l.map R).length cap := by simp
    rw [e] at this
    refine this.mono ?_
    rintro _ h' ⟨rfl, D', C⟩
    refine ⟨rfl, .inr ⟨b, cap, ?_, ?_⟩, C.mono fun i _ hi => by subst hi; rfl⟩
    · rw [List.length_map, List.length_map, srt_len]
    · unfold Dt at D'; simpa [srt] using D'

theorem values_spec (ao : Option Addr) (n c : Nat) (h : Heap) : HCalls P 71 #[.slice ao n c] h fun v h' => v = .func (.func 86) #[] #[.pointer (some ⟨h.size, 0, none⟩)] ∧ h' = h.push (.cells #[.slice ao n c] 22) := by
  refine values_ok ?_
  unfold values_c0
  simp only [fr, run_box, ops P]
  exact post_ret1 ⟨rfl, rfl⟩
/-- slices.Sorted of a slice's values -/
theorem sorted_spec {n : Nat} {h0 : Heap} {sv : Value} {xs : List Nat} {bx : Nat} (S : Rs n h0 sv xs) (hx : h0[bx]? = some (.cells #[sv] 22 (0, 0))) (hn : n ≤ h0.size) (hlen : xs.length < 65536) :
    HCalls P 70 #[.func (.func 86) #[] #[.pointer (some ⟨bx, 0, none⟩)]] h0 fun v h' => Nw h0.size h' v (srt xs) ∧ Old h0.size h0 h' := by
  refine sorted_ok ?_
  unfold sorted_c0
  simp only [fr]
  refine run_callF hb85 ?_
  refine HCalls.mono (R := fun v h' => Nw h0.size h' v xs ∧ Old h0.size h0 h') ?_ ?_
  · refine collect_ok ?_
    unfold collect_c0
    simp only [fr]
    refine run_callF hb106 ((appendSeq_spec S hx hn (by omega)).mono ?_)
    rintro v h1 ⟨N, O⟩
    exact post_ret1 ⟨N, O⟩
  · rintro v h1 ⟨N, O⟩
    refine run_callF hb47 ((sort_own N.own (by omega)).mono ?_)
    rintro _ h2 ⟨rfl, o2, C2⟩
    refine post_ret1 ⟨⟨o2, N.lo⟩, O.chg C2 O.size fun i hi e => ?_⟩
    have := N.lo i e; omega
end Go.Proofs.G
namespace Go.Proofs.G
/-- of equal neighbours the first alone -/
def cpt (l : List Nat) : List Nat := l.foldl (fun acc x => if acc.getLast? = some x then acc else acc ++ [x]) []
theorem cpt_step {l : List Nat} {i x : Nat} (h : l[i]? = some x) : cpt (l.take (i + 1)) = if (cpt (l.take i)).getLast? = some x then cpt (l.take i) else cpt (l.take i) ++ [x] := by
  unfold cpt; rw [take_at h, List.foldl_append]; rfl
theorem cpt_last (l : List Nat) : ∀ i, i < l.length → (cpt (l.take (i + 1))).getLast? = l[i]? := by
  intro i hi
  have h : l[i]? = some l[i] := List.getElem?_eq_getElem hi
  rw [cpt_step h, h]
  split
  · assumption
  · simp
theorem cpt_len (l : List Nat) : ∀ i, (cpt (l.take i)).length ≤ i := by
  intro i
  induction i with
  | zero => simp [cpt]
  | succ i ih =>
    rcases Nat.lt_or_ge i l.length with hi | hi
    · rw [cpt_step (List.getElem?_eq_getElem hi)]
      split
      · omega
      · simp; omega
    · rw [List.take_of_length_le (by omega)]
      rw [List.take_of_length_le hi] at ih
      omega
theorem cpt_mem {l : List Nat} {x : Nat} : x ∈ cpt l ↔ x ∈ l := by
  have key : ∀ i, i ≤ l.length → (x ∈ cpt (l.take i) ↔ x ∈ l.take i) := by
    intro i
    induction i with
    | zero => intro _; simp [cpt]
    | succ i ih =>
      intro hi
      have h : l[i]? = some l[i] := List.getElem?_eq_getElem (by omega)
      rw [cpt_step h, take_at h]
      have ih := ih (by omega)
      split
      · rename_i hl
        rw [ih, List.mem_append]
        constructor
        · exact .inl
        · rintro (h1 | h1)
          · exact h1
          · simp at h1; subst h1
            exact ih.1 (List.mem_of_getLast? hl)
      · rw [List.mem_append, List.mem_append, ih]
  have := key l.length (Nat.le_refl _)
  rwa [List.take_length] at this
theorem cpt_up {l : List Nat} (hs : l.Pairwise (· ≤ ·)) : (cpt l).Pairwise (· < ·) := by
  have key : ∀ i, i ≤ l.length → (cpt (l.take i)).Pairwise (· < ·) := by
    intro i
    induction i with
    | zero => intro _; simp [cpt]
    | succ i ih =>
      intro hi
      have h : l[i]? = some l[i] := List.getElem?_eq_getElem (by omega)
      rw [cpt_step h]
      split
      · exact ih (by omega)
      · rename_i hl
        refine List.pairwise_append.2 ⟨ih (by omega), by simp, ?_⟩
        intro a ha b hb
        simp at hb; subst hb
        have ha' : a ∈ l.take i := by
          have := @cpt_mem (l.take i) a
          exact this.1 ha
        -- a is at most the last, the last at most l[i], and they differ
        cases i with
        | zero => simp at ha'
        | succ i =>
          have hlast := cpt_last l i (by omega)
          have hi' : l[i]? = some l[i] := List.getElem?_eq_getElem (by omega)
          rw [hi'] at hlast
          have hle : l[i] ≤ l[i + 1] := List.pairwise_iff_getElem.1 hs i (i + 1) (by omega) (by omega) (by omega)
          have hne : l[i] ≠ l[i + 1] := fun e => hl (by rw [hlast, e])
          have hal : a ≤ l[i] := by
            obtain ⟨j, hj, rfl⟩ := List.mem_iff_getElem.1 ha'
            rw [List.getElem_take]
            simp at hj
            rcases Nat.lt_or_ge j i with h1 | h1
            · exact List.pairwise_iff_getElem.1 hs j i (by omega) (by omega) h1
            · have : j = i := by omega
              subst this; exact Nat.le_refl _
          omega
  have := key l.length (Nat.le_refl _)
  rwa [List.take_length] at this
theorem cpt_take_same {l : List Nat} : ∀ k, k ≤ l.length → (∀ i, 0 < i → i < k → l[i]? ≠ l[i - 1]?) → cpt (l.take k) = l.take k := by
  intro k
  induction k with
  | zero => intro _ _; simp [cpt]
  | succ k ih =>
    intro hk hd
    have h : l[k]? = some l[k] := List.getElem?_eq_getElem (by omega)
    rw [cpt_step h, ih (by omega) (fun i h1 h2 => hd i h1 (by omega)), take_at h, if_neg]
    intro hl
    cases k with
    | zero => simp at hl
    | succ k =>
      have := cpt_last l k (by omega)
      rw [ih (by omega) (fun i h1 h2 => hd i h1 (by omega))] at this
      rw [this] at hl
      have := hd (k + 1) (by omega) (by omega)
      rw [h] at this
      exact this hl.symm
end Go.Proofs.G
open Go Go.Hv
set_option maxRecDepth 100000
namespace Go.Proofs.G
theorem dt_take {h : Heap} {b cap : Nat} {d : Array Nat} (D : Dt h b cap d) (k : Nat) : Row h b 41 cap ((d.toList.take k).map R) := by
  have := Row.take D k
  rwa [← List.map_take] at this
/-- slices.Compact of a slice of one's own -/
theorem compact_own {h0 : Heap} {v : Value} {l : List Nat} (o : Own h0 v 41 (l.map R)) (hl : l.length < 65536) :
    HCalls P 72 #[v] h0 fun u h' => Own h' u 41 ((cpt l).map R) ∧ (∀ c, blkOf u = some c → blkOf v = some c) ∧ Chg (fun c => blkOf v = some c) h0 h' := by
  refine compact_ok ?_
  unfold compact_c0
  have elen : ∀ K h, run P (.builtin .len #[22] 3 [false] [v]) K h = K (I l.length) h := fun K h => by
    obtain ⟨ao, c, rfl, _⟩ := o.sl
    have := ans_lenSlice (P := P) s22 (ty := 3) (c := false) (a := ao) (n := (l.map R).length) (k := c) (h := h)
    rw [this.run, List.length_map]
  simp only [fr, elen, ops P]
  by_cases h2 : (l.length : Int) < 2
  · rw [if_pos (by simpa using h2)]
    refine post_ret1 ⟨?_, fun c hc => hc, Chg.refl _ _⟩
    have : cpt l = l := by
      have := cpt_take_same (l := l) l.length (Nat.le_refl _) (fun i h1 h3 => by omega)
      rwa [List.take_length] at this
    rw [this]; exact o
  rw [if_neg (by simpa using h2)]
  obtain ⟨b, cap, rfl, r⟩ : ∃ b cap, v = .slice (some ⟨b, 0, none⟩) (l.map R).length cap ∧ Row h0 b 41 cap (l.map R) := by
    rcases o with ⟨rfl, hl0⟩ | h
    · have : l = [] := by simpa using hl0
      subst this; simp at h2
    · exact h
  have hcap : l.length ≤ cap := by have := r.le; simpa using this
  rw [List.length_map] at *
  have D0 : Dt h0 b cap l.toArray := by unfold Dt; simpa using r
  have esl : ∀ (lo hi : Option Value) (x y : Nat), (lo = none ∧ x = 0 ∨ ∃ k, lo = some (.int k (x : Int))) → (hi = none ∧ y = l.length ∨ ∃ k, hi = some (.int k (y : Int))) → x ≤ y → y ≤ cap → x < cap → ∀ K h, run P (.slice 22 (.slice (some ⟨b, 0, none⟩) l.length cap) lo hi none) K h = K (.slice (some ⟨b, x, none⟩) (y - x) (cap - x)) h := by
    intro lo hi x y h1 h2 h3 h4 h5 K h
    have := ans_slice (P := P) s22 (ao := some ⟨b, 0, none⟩) (n := l.length) (c := cap) h1 h2 h3 h4 (h := h)
    rw [this.run, if_neg (by omega), Option.map_some, Addr.add_add0, Nat.zero_add, Nat.mul_one]
  refine lp_of (fun k f h => ∃ i, k = l.length - i ∧ f 0 = dv b l.length cap ∧ f 3 = I i ∧ 1 ≤ i ∧ i ≤ l.length ∧ (∀ j, 0 < j → j < i → l[j]? ≠ l[j - 1]?) ∧ h = h0) _ ⟨1, rfl, rfl, rfl, Nat.le_refl _, by omega, fun j h1 h3 => by omega, rfl⟩ ?_
  rintro k f h Q' ⟨i, rfl, f0, f3, hi1, hi2, hd, rfl⟩ on out
  unfold compact_L2
  simp only [f0, f3, elen, ops P, lt_R]
  by_cases hil : i < l.length
  · rw [if_pos (by simpa using hil)]
    have i1 := ix (b := b) (n := l.length) (cap := cap) (i := i) (by omega) .i64
    have i2 := ix (b := b) (n := l.length) (cap := cap) (i := i - 1) (by omega) .i64
    have l1 := D0.ld (i := i) (by simpa using hil)
    have l2 := D0.ld (i := i - 1) (by simp; omega)
    have w1 : IntKind.i64.wrap ((i : Int) - 1) = ((i - 1 : Nat) : Int) := wDec (by omega) (by omega)
    simp only [ops P, w1, i1, i2, l1, l2, beq_R]
    have g1 : l.toArray[i]! = l[i] := by simp [hil]
    have g2 : l.toArray[i - 1]! = l[i - 1] := by simp [show i - 1 < l.length by omega]
    rw [g1, g2]
    by_cases he : l[i] = l[i - 1]
    · rw [if_pos (by simpa using he)]
      rw [esl (some (I i)) none i l.length (.inr ⟨_, rfl⟩) (.inl ⟨rfl, rfl⟩) (by omega) (by omega) (by omega)]
      have hpre : cpt (l.take (i + 1)) = l.take i := by
        have e1 := cpt_take_same (l := l) i hi2 hd
        rw [cpt_step (List.getElem?_eq_getElem hil), e1, if_pos]
        have := cpt_last l (i - 1) (by omega)
        rw [show i - 1 + 1 = i by omega, e1] at this
        rw [this, List.getElem?_eq_getElem (by omega), he]
      refine lp_of (fun k f h' => ∃ m k' d, k = l.length - m ∧ f 0 = dv b l.length cap ∧ f 3 = I k' ∧ f 4 = .slice (some ⟨b, i, none⟩) (l.length - i) (cap - i) ∧ f 5 = I (m - i) ∧ i + 1 ≤ m ∧ m ≤ l.length ∧ d.size = l.length ∧ k' + 1 ≤ m ∧ (cpt (l.take m)).length = k' ∧ d.toList.take k' = cpt (l.take m) ∧ (∀ j, m ≤ j + 1 → d[j]! = l.toArray[j]!) ∧ Dt h' b cap d ∧ Chg (fun c => c = b) h h') _ ⟨i + 1, i, l.toArray, rfl, f0, f3, rfl, ?_, Nat.le_refl _, by omega, by simp, Nat.le_refl _, by rw [hpre]; simp; omega, by rw [hpre], fun j _ => rfl, D0, Chg.refl _ _⟩ ?_
      · show (Value.int .i64 1) = _
        congr 1; omega
      rintro k f h' Q2 ⟨m, k', d, rfl, f0, f3, f4, f5, hm1, hm2, hds, hk', hcl, hcp, hsame, D, C⟩ on2 out2
      unfold compact_L5
      have elen2 : ∀ K h, run P (.builtin .len #[22] 3 [false] [.slice (some ⟨b, i, none⟩) (l.length - i) (cap - i)]) K h = K (I (l.length - i)) h := fun K h => (ans_lenSlice (P := P) s22).run K
      simp only [f0, f3, f4, f5, elen2, ops P, lt_R]
      have ix2 : ∀ j, i ≤ j → j < l.length → (∀ K h, run P (.indexAddr 22 (.slice (some ⟨b, i, none⟩) (l.length - i) (cap - i)) (I (j - i))) K h = K (.pointer (some ⟨b, j, none⟩)) h) ∧ (∀ K h, still P (.indexAddr 22 (.slice (some ⟨b, i, none⟩) (l.length - i) (cap - i)) (I (j - i))) K h = K (.pointer (some ⟨b, j, none⟩))) := by
        intro j h1 h2
        have e : ∀ h, Ans P (.indexAddr 22 (.slice (some ⟨b, i, none⟩) (l.length - i) (cap - i)) (I (j - i))) (.pointer (some ⟨b, j, none⟩)) h := fun h => by
          have := ans_indexAddr (P := P) s22 (a := ⟨b, i, none⟩) (len := l.length - i) (cap := cap - i) (k := .i64) (i := ((j - i : Nat) : Int)) (by omega) (by omega) (h := h)
          rw [Addr.add_add0, Int.toNat_natCast, Nat.mul_one, show i + (j - i) = j by omega] at this; exact this
        exact ⟨fun K h => (e h).run K, fun K h => (e h).still K⟩
      by_cases hml : m - i < l.length - i
      · rw [if_pos (by simpa using hml)]
        have a1 := ix2 m (by omega) (by omega)
        have a2 := ix2 (m - 1) (by omega) (by omega)
        have l1 := D.ld (i := m) (by omega)
        have l2 := D.ld (i := m - 1) (by omega)
        have w1 : IntKind.i64.wrap (((m - i : Nat) : Int) - 1) = ((m - 1 - i : Nat) : Int) := by rw [wDec (by omega) (by omega)]; congr 1; omega
        have w2 : IntKind.i64.wrap (((m - i : Nat) : Int) + 1) = ((m + 1 - i : Nat) : Int) := by rw [wInc (by omega)]; congr 1; omega
        simp only [ops P, w1, a1, a2, l1, l2, bne_R]
        have g1 : d[m]! = l[m] := by rw [hsame m (by omega)]; simp [show m < l.length by omega]
        have g2 : d[m - 1]! = l[m - 1] := by rw [hsame (m - 1) (by omega)]; simp [show m - 1 < l.length by omega]
        rw [g1, g2]
        have hlast : (cpt (l.take m)).getLast? = some l[m - 1] := by
          have := cpt_last l (m - 1) (by omega)
          rw [show m - 1 + 1 = m by omega] at this
          rw [this, List.getElem?_eq_getElem (by omega)]
        have hstep := cpt_step (l := l) (List.getElem?_eq_getElem (show m < l.length by omega))
        rw [hlast] at hstep
        have fin : ∀ (f' : F) (h2 : Heap) (d' : Array Nat) (k2 : Nat), f' 0 = dv b l.length cap → f' 3 = I k2 → f' 4 = .slice (some ⟨b, i, none⟩) (l.length - i) (cap - i) → f' 5 = I (m - i) → d'.size = l.length → k2 + 1 ≤ m + 1 → (cpt (l.take (m + 1))).length = k2 → d'.toList.take k2 = cpt (l.take (m + 1)) → (∀ j, m + 1 ≤ j + 1 → d'[j]! = l.toArray[j]!) → Dt h2 b cap d' → Chg (fun c => c = b) h h2 → compact_c6 Q2 f' h2 := by
          intro f' h2 d' k2 g0 g3 g4 g5 q1 q2 q3 q4 q5 q6 q7
          unfold compact_c6
          simp only [g5, ops P]
          refine on2 _ _ _ ?_ ⟨m + 1, k2, d', rfl, g0, g3, g4, congrArg _ w2, by omega, by omega, q1, q2, q3, q4, q5, q6, q7⟩
          omega
        by_cases hne : l[m] = l[m - 1]
        · rw [if_neg (by simpa using hne)]
          rw [if_pos (by rw [hne])] at hstep
          exact fin _ _ d k' f0 f3 f4 f5 hds (by omega) (by rw [hstep]; exact hcl) (by rw [hstep]; exact hcp) (fun j hj => hsame j (by omega)) D C
        · rw [if_pos (by simpa using hne)]
          rw [if_neg (fun e => hne (by simpa using e.symm))] at hstep
          have ik := ix (b := b) (n := l.length) (cap := cap) (i := k') (by omega) .i64
          rw [ik.1]
          refine D.st (by omega) _ fun h2 D2 C2 s2 => ?_
          try simp only [ops P]
          refine fin _ _ (d.setIfInBounds k' l[m]) (k' + 1) f0 (congrArg _ (wInc (by omega))) f4 f5 (by simp [hds]) (by omega) (by rw [hstep]; simp [hcl]) ?_ (fun j hj => ?_) D2 (C.trans C2)
          · rw [hstep, ← hcp]
            have hk2 : k' < d.toList.length := by simp; omega
            rw [Array.toList_setIfInBounds, List.take_set, List.take_succ_eq_append_getElem hk2, List.set_append_right _ _ (by simp; omega)]
            simp [show min k' d.size = k' by omega]
          · rw [← hsame j (by omega)]
            by_cases hjd : j < d.size
            · simp only [Array.getElem!_eq_getD, Array.getD_eq_getD_getElem?, Array.getElem?_setIfInBounds]
              rw [if_neg (by omega)]
            · simp [Array.getElem!_eq_getD, Array.getD_eq_getD_getElem?, hjd]
      · rw [if_neg (by simpa using hml)]
        have hml' : m = l.length := by omega
        subst hml'
        refine out2 _ _ _ (by simp) ?_
        simp only [ex]
        unfold compact_c4
        rw [List.take_length] at hcl hcp
        have e1 := esl (some (I k')) none k' l.length (.inr ⟨_, rfl⟩) (.inl ⟨rfl, rfl⟩) (by omega) (by omega) (by omega)
        have e2 := esl none (some (I k')) 0 k' (.inl ⟨rfl, rfl⟩) (.inr ⟨_, rfl⟩) (by omega) (by omega) (by omega)
        simp only [rdU, reduceIte, Nat.reduceEqDiff, f0, f3]
        rw [e1]
        refine run_clearTail eRef rfl (o := k') (n := l.length - k') (r := D) (by simp; omega) (by omega) fun h2 s2 k2 R2 => ?_
        simp only [e2]
        refine out _ _ _ (by simp) ?_
        simp only [ex]
        rw [← List.map_take, hcp] at R2
        refine post_ret1 ⟨.inr ⟨b, cap, ?_, R2⟩, fun c hc => ?_, C.trans ⟨by omega, fun c _ hc => k2 c hc⟩ |>.mono fun c _ hc => ?_⟩
        · show Value.slice _ _ _ = _
          rw [List.length_map, hcl]; rfl
        · exact hc
        · subst hc; rfl
    · rw [if_neg (by simpa using he)]
      unfold compact_c3
      simp only [rdU, reduceIte, Nat.reduceEqDiff, f3, ops P]
      refine on _ _ _ ?_ ⟨i + 1, rfl, f0, congrArg _ (wInc (by omega)), by omega, by omega, fun j h1 h3 => ?_, rfl⟩
      · omega
      · rcases Nat.lt_or_ge j i with h4 | h4
        · exact hd j h1 h4
        · have : j = i := by omega
          subst this
          rw [List.getElem?_eq_getElem hil, List.getElem?_eq_getElem (by omega)]
          intro e; exact he (by simpa using e)
  · rw [if_neg (by simpa using hil)]
    refine out _ _ _ (by simp) ?_
    simp only [ex]
    unfold compact_c1
    have hil' : i = l.length := by omega
    subst hil'
    refine post_ret1 ⟨?_, fun c hc => ?_, Chg.refl _ _⟩
    · have := cpt_take_same (l := l) l.length (Nat.le_refl _) hd
      rw [List.take_length] at this
      rw [this]
      refine .inr ⟨b, cap, ?_, r⟩
      rw [List.length_map]; exact f0
    · have e : (U f [(10, I l.length), (11, dv b l.length cap), (12, I l.length), (13, .bool false)]) 0 = dv b l.length cap := f0
      simp only [rdU, reduceIte, Nat.reduceEqDiff, f0] at hc
      exact hc
end Go.Proofs.G
open Go Go.Hv
set_option maxRecDepth 100000
namespace Go.Proofs.G
theorem hb40 : hasBody P 40 = true := by kernel_rfl
theorem hb41 : hasBody P 41 = true := by kernel_rfl
theorem hb42 : hasBody P 42 = true := by kernel_rfl
theorem hb72 : hasBody P 72 = true := by kernel_rfl
/-- a graph that is being made: memory beyond n alone, each list its own -/
structure GM (n : Nat) (h : Heap) (b : Nat) (nv : Value) (bt bh : Nat) (es hs : List (Nat × Value)) (g : Gr) : Prop where
  lo : n ≤ b ∧ n ≤ bt ∧ n ≤ bh ∧ bt ≠ bh
  cells : h[b]? = some (.cells #[nv, .map (some bt), .map (some bh)] 75 (0, 0))
  nodes : Nw n h nv g.N
  tm : MapR h bt R es
  tv : ∀ k v, alook es k = some v → Own h v 41 ((g.to k).map R) ∧ ∀ c, blkOf v = some c → n ≤ c ∧ c ≠ b ∧ blkOf nv ≠ some c
  sep : ∀ k k' v v' c, alook es k = some v → alook es k' = some v' → blkOf v = some c → blkOf v' = some c → k = k'
  tx : ∀ k, alook es k = none → g.to k = []
  hm : MapR h bh R hs
  hv : ∀ k v, alook hs k = some v → v = .agg #[]
  hk : ∀ k, k ∈ hs.map (·.1) ↔ k ∈ g.N
theorem GM.ga {n : Nat} {h : Heap} {b : Nat} {nv : Value} {bt bh : Nat} {es hs : List (Nat × Value)} {g : Gr} (x : GM n h b nv bt bh es hs g) : GA h.size h b nv bt bh es hs g where
  bl := ⟨lt_of_get x.cells, x.tm.lt, x.hm.lt, x.lo.2.2.2⟩
  cells := x.cells
  nodes := x.nodes.rs
  tm := x.tm
  tv := fun k v e => ⟨(x.tv k v e).1.sl, fun c hc => (x.tv k v e).1.lt hc⟩
  tx := x.tx
  hm := x.hm
  hv := x.hv
  hk := x.hk
theorem cells_nw {n : Nat} {h : Heap} {v : Value} {l : List Nat} (w : Nw n h v l) : ∃ ao k c, v = .slice ao k c := by
  rcases w.own with ⟨rfl, _⟩ | ⟨_, _, rfl, _⟩ <;> exact ⟨_, _, _, rfl⟩
theorem run_box75 {ao : Option Addr} {k c bt bh : Nat} {K : Value → Heap → Prop} {h : Heap} : run P (.box 75 (.agg #[.slice ao k c, .map (some bt), .map (some bh)])) K h = K (.pointer (some ⟨h.size, 0, none⟩)) (h.push (.cells #[.slice ao k c, .map (some bt), .map (some bh)] 75)) := rfl
/-- empty: nodes, no edges -/
theorem empty_spec {n : Nat} {h0 : Heap} {sv : Value} {xs : List Nat} (S : Rs n h0 sv xs) (hn : n ≤ h0.size) (hlen : xs.length < 65536) :
    HCalls P 40 #[sv] h0 fun v h' => Old h0.size h0 h' ∧ ∃ b nv bt bh hs, v = .pointer (some ⟨b, 0, none⟩) ∧ GM h0.size h' b nv bt bh [] hs ⟨srt xs, fun _ => []⟩ := by
  refine empty_ok ?_
  unfold empty_c0
  simp only [fr]
  obtain ⟨ao, c, rfl, _⟩ := S.sl
  rw [List.length_map] at *
  refine run_callF hb71 ((values_spec ao xs.length c h0).mono ?_)
  rintro _ h1 ⟨rfl, rfl⟩
  have O1 : Old h0.size h0 (h0.push (.cells #[.slice ao xs.length c] 22)) := old_push _ _ (Nat.le_refl _)
  have S1 : Rs h0.size (h0.push (.cells #[.slice ao xs.length c] 22)) (.slice ao xs.length c) xs := (S.mono hn).keep O1.get
  refine run_callF hb70 ((sorted_spec S1 (get_push_new _ _) O1.size hlen).mono ?_)
  rintro nv h2 ⟨N2, O2⟩
  obtain ⟨ao', k', c', rfl⟩ := cells_nw N2
  have O2' : Old h0.size h0 h2 := O1.trans (O2.mono O1.size)
  simp only [run_mkMap, (build75 _ _ _ _ _ _).run, run_box75, (S.len false).1, Array.size_push]
  have e3 : ((h2.push (.map #[] 0)).push (.map #[] 0)).size = h2.size + 2 := by simp
  have N2' : Nw h0.size h2 (.slice ao' k' c') (srt xs) := N2.mono O1.size
  have O3 : Old h2.size h2 (((h2.push (.map #[] 0)).push (.map #[] 0)).push (.cells #[.slice ao' k' c', .map (some h2.size), .map (some (h2.size + 1))] 75)) :=
    ((old_push _ _ (Nat.le_refl _)).trans (old_push _ _ (by simp))).trans (old_push _ _ (by simp only [Array.size_push]; omega))
  have hsz : h0.size ≤ h2.size := O2'.size
  refine lp_up xs.length (fun j f h => f 3 = .pointer (some ⟨h2.size + 1 + 1, 0, none⟩) ∧ f 13 = .slice ao xs.length c ∧ f 14 = I xs.length ∧ f 15 = I j ∧ Old h2.size h2 h ∧ h[h2.size + 1 + 1]? = some (.cells #[.slice ao' k' c', .map (some h2.size), .map (some (h2.size + 1))] 75 (0, 0)) ∧ MapR h h2.size R [] ∧ ∃ hs, MapR h (h2.size + 1) R hs ∧ (∀ k v, alook hs k = some v → v = .agg #[]) ∧ (∀ k, k ∈ hs.map (·.1) ↔ k ∈ xs.take j)) ?_ ?_
  · refine ⟨rfl, rfl, rfl, rfl, O3, get_push_at _ _ (by simp), ?_, [], ?_, fun k v e => (by cases e), fun k => by simp⟩
    · exact ((MapR.new h2 R).keep (get_push_old _ _ (by simp))).keep (get_push_old _ _ (by simp only [Array.size_push]; omega))
    · have := MapR.new (h2.push (.map #[] 0)) R
      rw [Array.size_push] at this
      exact this.keep (get_push_old _ _ (by simp))
  rintro j f h Q' hj ⟨f3, f13, f14, f15, O, hc, ht, hs, hm, hv, hk⟩ on out
  unfold empty_L2
  simp only [f3, f13, f14, f15, ops P, lt_R]
  by_cases hjl : j < xs.length
  · obtain ⟨x, hx⟩ : ∃ x, xs[j]? = some x := ⟨_, List.getElem?_eq_getElem hjl⟩
    obtain ⟨a, a1, _, a2, _, a4⟩ := S.at hx .i64
    rw [if_pos (by simpa using hjl), a1]
    have ha : cell h a = some (R x) := by
      unfold cell
      rw [O.get _ (by omega), O2'.get _ (by omega)]; exact a2
    simp only [load_run o41 ha, (fld P f75_2).1, load_run o73 (cell_at hc (i := 2) (v := .map (some (h2.size + 1))) rfl), (build107 h).run]
    obtain ⟨arr, clk, m⟩ := hm
    refine run_mapUpdate mHas kR m x (.agg #[]) fun h3 arr3 clk3 m3 c3 s3 _ => ?_
    have s1 : h2.size + 1 < h.size := lt_of_get m.get
    have s2 : h2.size + 1 + 1 < h.size := lt_of_get hc
    refine on _ _ hjl ⟨f3, f13, f14, congrArg _ (wInc (by omega)), ?_, ?_, ?_, aset hs x (.agg #[]), ⟨arr3, clk3, m3⟩, fun k v e => ?_, fun k => ?_⟩
    · exact O.chg c3 (by omega) fun i hi e => by omega
    · rw [c3.get _ s2 (by omega)]; exact hc
    · exact ht.keep (c3.get _ (by omega) (by omega))
    · rw [alook_aset] at e
      split at e
      · cases e; rfl
      · exact hv k v e
    · rw [take_at hx, List.mem_append, List.mem_singleton, ← hk k]
      by_cases hxm : x ∈ hs.map (·.1)
      · rw [aset_keys_of_mem x _ hxm]
        constructor
        · exact .inl
        · rintro (h | rfl)
          · exact h
          · exact hxm
      · rw [aset_of_not_mem x _ hxm]; simp
  · rw [if_neg (by simpa using hjl)]
    refine out _ _ _ (by simp) ?_
    simp only [ex]
    unfold empty_c1
    have hjj : xs.take j = xs := List.take_of_length_le (by omega)
    rw [hjj] at hk
    refine post_ret1 ⟨O2'.trans (O.mono hsz), h2.size + 1 + 1, .slice ao' k' c', h2.size, h2.size + 1, hs, f3, ?_⟩
    exact { lo := ⟨by omega, by omega, by omega, by omega⟩, cells := hc, nodes := N2'.keep O (Nat.le_refl _), tm := ht, tv := fun k v e => (by cases e), sep := fun k k' v v' c e => (by cases e), tx := fun _ _ => rfl, hm := hm, hv := hv, hk := fun k => by rw [hk k]; exact srt_mem.symm }
end Go.Proofs.G
open Go Go.Hv
set_option maxRecDepth 100000
namespace Go.Proofs.G
theorem fldt {s i o b : Nat} (hf : fOff P s i = some o) : (∀ K, tf P (.fieldAddr s (.pointer (some ⟨b, 0, none⟩)) i) K = K (.pointer (some ⟨b, o, none⟩))) ∧ (∀ K h, headq P (.fieldAddr s (.pointer (some ⟨b, 0, none⟩)) i) K h = K (.pointer (some ⟨b, o, none⟩))) :=
  ⟨fun K => Ans.tf (fld P hf).2.2 K, fun K h => ((fld P hf).2.2 h).headq K⟩
theorem own_cells {h : Heap} {v : Value} {e : TypeId} {xs : List Value} (o : Own h v e xs) {c : Nat} (hc : blkOf v = some c) : ∃ arr, h[c]? = some (.cells arr e (0, 0)) := by
  rcases o with ⟨rfl, _⟩ | ⟨b, cap, rfl, arr, hb, _⟩
  · cases hc
  · cases hc; exact ⟨arr, hb⟩
theorem map_obj {h : Heap} {b : Nat} {es : List (Nat × Value)} (m : MapR h b R es) : ∃ arr clk, h[b]? = some (.map arr clk) := by
  obtain ⟨arr, clk, m⟩ := m; exact ⟨arr, clk, m.get⟩
/-- one node's list is replaced -/
theorem GM.upd {n : Nat} {h h' : Heap} {b : Nat} {nv : Value} {bt bh : Nat} {es hs : List (Nat × Value)} {g : Gr} {k : Nat} {v' : Value} {l : List Nat} (x : GM n h b nv bt bh es hs g)
    (hm' : MapR h' bt R (aset es k v')) (o' : Own h' v' 41 (l.map R)) (hb' : ∀ c, blkOf v' = some c → (∃ v, alook es k = some v ∧ blkOf v = some c) ∨ h.size ≤ c)
    (keep : ∀ c, c < h.size → c ≠ bt → (∀ v, alook es k = some v → blkOf v ≠ some c) → h'[c]? = h[c]?) : GM n h' b nv bt bh (aset es k v') hs ⟨g.N, fun j => if j = k then l else g.to j⟩ := by
  have hbs : b < h.size := lt_of_get x.cells
  have hnmap : ∀ v, alook es k = some v → ∀ c arr clk, h[c]? = some (.map arr clk) → blkOf v ≠ some c := fun v e c arr clk hc hv => by
    obtain ⟨arr', h1⟩ := own_cells (x.tv k v e).1 hv
    rw [h1] at hc; cases hc
  have hbt : b ≠ bt := fun e => by
    obtain ⟨arr, clk, h1⟩ := map_obj x.tm
    rw [← e, x.cells] at h1; cases h1
  have kb : h'[b]? = h[b]? := keep b hbs hbt fun v e hv => ((x.tv k v e).2 b hv).2.1 rfl
  have kh : h'[bh]? = h[bh]? := keep bh x.hm.lt (Ne.symm x.lo.2.2.2) fun v e => by
    obtain ⟨arr, clk, h1⟩ := map_obj x.hm
    exact hnmap v e bh arr clk h1
  refine { lo := x.lo, cells := kb.trans x.cells, nodes := ⟨x.nodes.own.keep fun c hc => keep c (x.nodes.own.lt hc) (fun e => ?_) fun v e hv => ((x.tv k v e).2 c hv).2.2 hc, x.nodes.lo⟩, tm := hm', tv := fun j v e => ?_, sep := fun j j' v v2 c e1 e2 h1 h2 => ?_, tx := fun j e => ?_, hm := x.hm.keep kh, hv := x.hv, hk := x.hk }
  · obtain ⟨arr, clk, h1⟩ := map_obj x.tm
    obtain ⟨arr', h2⟩ := own_cells x.nodes.own hc
    rw [e, h1] at h2; cases h2
  · rw [alook_aset] at e
    split at e
    · rename_i hjk
      cases e
      refine ⟨by simpa [hjk] using o', fun c hc => ?_⟩
      rcases hb' c hc with ⟨v, e1, e2⟩ | h1
      · exact (x.tv k v e1).2 c e2
      · exact ⟨by have := x.lo.1; omega, by omega, fun e => by have := x.nodes.own.lt e; omega⟩
    · rename_i hjk
      have t := x.tv j v e
      refine ⟨?_, t.2⟩
      simp only [if_neg hjk]
      refine t.1.keep fun c hc => keep c (t.1.lt hc) (fun e' => ?_) fun v2 e2 hv2 => hjk (x.sep j k v v2 c e e2 hc hv2)
      obtain ⟨arr, clk, h1⟩ := map_obj x.tm
      obtain ⟨arr', h2⟩ := own_cells t.1 hc
      rw [e', h1] at h2; cases h2
  · rw [alook_aset] at e1 e2
    have low : ∀ j v, alook es j = some v → ∀ c, blkOf v = some c → c < h.size := fun j v e c hc => (x.tv j v e).1.lt hc
    split at e1 <;> split at e2
    · omega
    · rename_i hj hj'
      cases e1
      rcases hb' c h1 with ⟨v, q1, q2⟩ | q
      · exact absurd (x.sep j' k v2 v c e2 q1 h2 q2) hj'
      · have := low _ _ e2 c h2; omega
    · rename_i hj hj'
      cases e2
      rcases hb' c h2 with ⟨v, q1, q2⟩ | q
      · exact absurd (x.sep j k _ v c e1 q1 h1 q2) hj
      · have := low _ _ e1 c h1; omega
    · exact x.sep j j' v v2 c e1 e2 h1 h2
  · rw [alook_aset] at e
    split at e
    · cases e
    · rename_i hjk
      simp only [if_neg hjk]; exact x.tx j e
theorem GM.keep {n : Nat} {h h' : Heap} {b : Nat} {nv : Value} {bt bh : Nat} {es hs : List (Nat × Value)} {g : Gr} (x : GM n h b nv bt bh es hs g)
    (K : ∀ c : Nat, ((∃ arr e, h[c]? = some (Obj.cells arr e (0, 0))) ∨ ∃ arr clk, h[c]? = some (Obj.map arr clk)) → h'[c]? = h[c]?) : GM n h' b nv bt bh es hs g :=
  { x with
    cells := (K b (.inl ⟨_, _, x.cells⟩)).trans x.cells
    nodes := ⟨x.nodes.own.keep fun c hc => K c (.inl (let ⟨arr, h1⟩ := own_cells x.nodes.own hc; ⟨arr, _, h1⟩)), x.nodes.lo⟩
    tm := x.tm.keep (K bt (.inr (map_obj x.tm)))
    tv := fun k v e => ⟨(x.tv k v e).1.keep fun c hc => K c (.inl (let ⟨arr, h1⟩ := own_cells (x.tv k v e).1 hc; ⟨arr, _, h1⟩)), (x.tv k v e).2⟩
    hm := x.hm.keep (K bh (.inr (map_obj x.hm))) }
theorem GM.to {n : Nat} {h : Heap} {b : Nat} {nv : Value} {bt bh : Nat} {es hs : List (Nat × Value)} {g g' : Gr} (x : GM n h b nv bt bh es hs g) (hN : g.N = g'.N) (ht : ∀ k, g.to k = g'.to k) : GM n h b nv bt bh es hs g' :=
  { x with nodes := hN ▸ x.nodes, tv := fun k v e => ht k ▸ x.tv k v e, tx := fun k e => ht k ▸ x.tx k e, hk := hN ▸ x.hk }
theorem nodup_erase {l : List (Nat × Value)} (hn : (l.map (·.1)).Nodup) {i : Nat} {k : Nat} {v : Value} (h : l[i]? = some (k, v)) : k ∉ (l.eraseIdx i).map (·.1) ∧ ∀ j, j ∈ l.map (·.1) ↔ j = k ∨ j ∈ (l.eraseIdx i).map (·.1) := by
  induction l generalizing i with
  | nil => cases h
  | cons p l ih =>
    simp only [List.map_cons, List.nodup_cons] at hn
    cases i with
    | zero =>
      simp only [List.getElem?_cons_zero, Option.some.injEq] at h
      subst h
      exact ⟨hn.1, fun j => by simp⟩
    | succ i =>
      have h' : l[i]? = some (k, v) := by simpa using h
      obtain ⟨h1, h2⟩ := ih hn.2 h'
      have hm : k ∈ l.map (·.1) := List.mem_map.2 ⟨_, List.mem_of_getElem? h', rfl⟩
      refine ⟨?_, fun j => ?_⟩
      · simp only [List.eraseIdx_cons_succ, List.map_cons, List.mem_cons, not_or]
        exact ⟨fun e => hn.1 (by rw [← e]; exact hm), h1⟩
      · simp only [List.map_cons, List.mem_cons, List.eraseIdx_cons_succ, h2 j]
        constructor
        · rintro (h | h | h) <;> simp [h]
        · rintro (h | h | h) <;> simp [h]
/-- rises: all lists rising, each node once -/
theorem rises_spec {n : Nat} {h0 : Heap} {b : Nat} {nv : Value} {bt bh : Nat} {es hs : List (Nat × Value)} {g : Gr} (G : GM n h0 b nv bt bh es hs g) (hl : ∀ k, (g.to k).length < 65536) :
    HCalls P 42 #[.pointer (some ⟨b, 0, none⟩)] h0 fun v h' => v = .pointer (some ⟨b, 0, none⟩) ∧ Old n h0 h' ∧ ∃ es', GM n h' b nv bt bh es' hs ⟨g.N, fun k => cpt (srt (g.to k))⟩ := by
  have hnb : n ≤ h0.size := by have := lt_of_get G.cells; have := G.lo.1; omega
  refine rises_ok ?_
  unfold rises_c0
  simp only [fr, ops P, (fld P f75_1).1, load_run o72 (cell_at G.cells (i := 1) (v := .map (some bt)) rfl)]
  refine run_range Try.underlying72 G.tm fun h1 it1 c1 s1 => ?_
  refine lp_of (fun k f h => ∃ es' todo, k = todo.length ∧ f 0 = .pointer (some ⟨b, 0, none⟩) ∧ f 9 = .pointer (some ⟨h0.size, 0, none⟩) ∧ ItR h h0.size bt R es' todo ∧ (todo.map (·.1)).Nodup ∧ (∀ k v, (k, v) ∈ todo → alook es' k = some v) ∧ GM n h b nv bt bh es' hs ⟨g.N, fun k => if k ∈ todo.map (·.1) then g.to k else cpt (srt (g.to k))⟩ ∧ Old n h0 h) _ ⟨es, es, rfl, rfl, rfl, it1, G.tm.nodup, fun k v hm => alook_of_mem G.tm.nodup hm, ?_, ?_⟩ ?_
  · refine (G.keep (h' := h1) fun c hc => c1.get c (by rcases hc with ⟨_, _, h⟩ | ⟨_, _, h⟩ <;> exact lt_of_get h) (fun h => h)).to rfl fun k => ?_
    show g.to k = if _ then _ else _
    split
    · rfl
    · rename_i hk
      rw [G.tx k (alook_none.2 hk)]; simp [srt, cpt]
  · exact c1.old hnb fun _ _ h => h
  rintro k f h Q' ⟨es', todo, rfl, f0, f9, it, hnd, hto, M, O⟩ on out
  unfold rises_L2
  simp only [f0, f9]
  refine run_next it (fun ht => ?_) fun h2 k v i hi it2 c2 s2 hent => ?_
  · simp only [ops P, bb, if_false]
    refine out _ _ _ (by simp) ?_
    simp only [ex]
    unfold rises_c1
    subst ht
    refine post_ret1 ⟨f0, O, es', M.to rfl fun k => by simp⟩
  · have hr0 : ∃ s se st, h[h0.size]? = some (.mapIter (some bt) s se st) := by
      obtain ⟨_, _, _, ⟨⟨s, se, st, q, _⟩⟩, _⟩ := it
      exact ⟨s, se, st, q⟩
    have M2 : GM n h2 b nv bt bh es' hs ⟨g.N, fun k => if k ∈ todo.map (·.1) then g.to k else cpt (srt (g.to k))⟩ := M.keep fun c hc => c2.get c (by rcases hc with ⟨_, _, h⟩ | ⟨_, _, h⟩ <;> exact lt_of_get h) (fun e => by
      subst e
      obtain ⟨s, se, st, q⟩ := hr0
      rcases hc with ⟨_, _, h⟩ | ⟨_, _, h⟩ <;> rw [q] at h <;> cases h)
    obtain ⟨hnk, hks⟩ := nodup_erase hnd hi
    have hkm : k ∈ todo.map (·.1) := List.mem_map.2 ⟨_, List.mem_of_getElem? hi, rfl⟩
    have hlk : alook es' k = some v := hto k v (List.mem_of_getElem? hi)
    have hv := M2.tv k v hlk
    simp only [if_pos hkm] at hv
    simp only [ops P, bb, if_true]
    rw [hent.run]
    try simp only [ops P]
    refine run_callF hb47 ((sort_own hv.1 (hl k)).mono ?_)
    rintro _ h3 ⟨rfl, o3, c3⟩
    have bne : ∀ c, (¬ ∃ arr e, h2[c]? = some (.cells arr e (0, 0))) → c < h2.size → h3[c]? = h2[c]? := fun c hc hlt => c3.get c hlt fun e => hc (let ⟨arr, q⟩ := own_cells hv.1 e; ⟨arr, _, q⟩)
    have hb3 : h3[b]? = h2[b]? := c3.get b (lt_of_get M2.cells) fun e => (hv.2 b e).2.1 rfl
    refine ⟨fun h' => h'[b]? = h2[b]?, ?_⟩
    try simp only [opsf P, ops P, (fldt f75_1).1]
    refine tk_of (.map (some bt)) hb3 (fun h' hh => ans_load o72 (cell_at (hh.trans M2.cells) (i := 1) rfl)) ?_
    try simp only [opsf P, ops P]
    refine run_callF hb72 ((compact_own o3 (by rw [srt_len]; exact hl k)).mono ?_)
    rintro v4 h4 ⟨o4, b4, c4⟩
    have hb4 : h4[b]? = h3[b]? := c4.get b (by have := c3.size; have := lt_of_get M2.cells; omega) fun e => (hv.2 b e).2.1 rfl
    refine ⟨hb4.trans hb3, ?_⟩
    -- the map as it was
    have C24 : ∀ c, c < h2.size → blkOf v ≠ some c → h4[c]? = h2[c]? := fun c hc hne => (c4.get c (Nat.lt_of_lt_of_le hc c3.size) hne).trans (c3.get c hc hne)
    have hnv : ∀ c arr clk, h2[c]? = some (.map arr clk) → blkOf v ≠ some c := fun c arr clk q e => by
      obtain ⟨arr', q'⟩ := own_cells hv.1 e
      rw [q] at q'; cases q'
    obtain ⟨arr, clk, m2, ita, hbn, hsc⟩ := it2
    have hr2 : ∃ s se st, h2[h0.size]? = some (.mapIter (some bt) s se st) := by
      obtain ⟨s, se, st, q, _⟩ := ita.it
      exact ⟨s, se, st, q⟩
    have hrv : blkOf v ≠ some h0.size := fun e => by
      obtain ⟨s, se, st, q⟩ := hr2
      obtain ⟨arr', q'⟩ := own_cells hv.1 e
      rw [q] at q'; cases q'
    have hrs : h0.size < h2.size := by obtain ⟨s, se, st, q⟩ := hr2; exact lt_of_get q
    have kt : h4[bt]? = h2[bt]? := C24 bt (lt_of_get m2.get) (hnv bt _ _ m2.get)
    have kr : h4[h0.size]? = h2[h0.size]? := C24 _ hrs hrv
    have m4 : MapAt h4 bt R es' arr clk := ⟨kt.trans m2.get, m2.kv, m2.nodup, m2.born, m2.clock⟩
    have it4 : ItAt h4 h0.size bt R (todo.eraseIdx i) arr clk := ⟨let ⟨s, se, st, q, rest⟩ := ita.it; ⟨s, se, st, kr.trans q, rest⟩⟩
    have hsc4 : ∃ since seen stepped, h4[h0.size]? = some (.mapIter (some bt) since seen stepped) ∧ since ≤ clk := let ⟨s, se, st, q, rest⟩ := hsc; ⟨s, se, st, kr.trans q, rest⟩
    refine run_mapUpdate mTo kR m4 k v4 fun h5 arr5 clk5 m5 c5 s5 hin => ?_
    obtain ⟨hclk, j, harr, hj⟩ := hin (List.mem_map.2 ⟨_, alook_mem hlk, rfl⟩)
    have hbtr : bt ≠ h0.size := fun e => by obtain ⟨s, se, st, q⟩ := hr2; rw [← e, m2.get] at q; cases q
    have it5 := ItR.update kR m4 it4 hbn hsc4 m5 hclk harr hj (c5.get h0.size (by have := c3.size; have := c4.size; omega) (fun e => hbtr e.symm)) hnk
    have hb4' : ∀ c, blkOf v4 = some c → c ≠ bt := fun c hc e => by
      have := b4 c hc
      exact hnv bt _ _ m2.get (by rw [← e]; exact this)
    have M5 := M2.upd (k := k) (v' := v4) (l := cpt (srt (g.to k))) ⟨_, _, m5⟩ (o4.keep fun c hc => c5.get c (o4.lt hc) (hb4' c hc)) (fun c hc => .inl ⟨v, hlk, b4 c hc⟩) (fun c hc hne hnb => by
      rw [c5.get c (by have := c3.size; have := c4.size; omega) hne]
      exact C24 c hc (hnb v hlk))
    refine on (todo.eraseIdx i).length _ _ ?_ ⟨aset es' k v4, todo.eraseIdx i, rfl, f0, f9, it5, ?_, fun k2 v2 hm => ?_, M5.to rfl fun k2 => ?_, ?_⟩
    · have := (List.getElem?_eq_some_iff.1 hi).1
      rw [List.length_eraseIdx, if_pos this]; omega
    · exact hnd.sublist ((List.eraseIdx_sublist _ _).map _)
    · rw [alook_aset, if_neg]
      · exact hto k2 v2 (List.mem_of_mem_eraseIdx hm)
      · rintro rfl
        exact hnk (List.mem_map.2 ⟨_, hm, rfl⟩)
    · show (if k2 = k then _ else _) = if _ then _ else _
      by_cases hkk : k2 = k
      · subst hkk
        rw [if_pos rfl, if_neg hnk]
      · rw [if_neg hkk]
        have : k2 ∈ todo.map (·.1) ↔ k2 ∈ (todo.eraseIdx i).map (·.1) := by rw [hks k2]; simp [hkk]
        show (if _ then _ else _) = _
        by_cases h1 : k2 ∈ todo.map (·.1)
        · rw [if_pos h1, if_pos (this.1 h1)]
        · rw [if_neg h1, if_neg (fun h => h1 (this.2 h))]
    · refine O.trans ⟨by have := c2.size; have := c3.size; have := c4.size; have := c5.size; omega, fun c hc => ?_⟩
      have hcs : c < h.size := by have := O.size; omega
      rw [c5.get c (by have := c2.size; have := c3.size; have := c4.size; omega) (by have := G.lo.2.1; omega), C24 c (by have := c2.size; omega) (fun e => by have := (hv.2 c e).1; omega), c2.get c hcs (by omega)]
end Go.Proofs.G
open Go Go.Hv
set_option maxRecDepth 100000
namespace Go.Proofs.G
theorem a57 : aggs P 57 = some 2 := by kernel_rfl
theorem z57 : (P.info? 57).map (·.zero) = some (some (.agg #[R 0, R 0])) := by kernel_rfl
theorem f57_0 : fOff P 57 0 = some 0 := by kernel_rfl
theorem f57_1 : fOff P 57 1 = some 1 := by kernel_rfl
theorem s23 : eSz P 23 = some 2 := by kernel_rfl
/-- the slice v reads as the edges l, below n -/
structure Ed (n : Nat) (h : Heap) (v : Value) (l : List (Nat × Nat)) : Prop where
  ex : ∃ ao c, v = .slice ao l.length c ∧ (∀ a, ao = some a → a.spot = none ∧ a.block < n) ∧ ∀ i x y, l[i]? = some (x, y) → ∃ a, ao = some a ∧ cell h ⟨a.block, a.off + i * 2, none⟩ = some (R x) ∧ cell h ⟨a.block, a.off + i * 2 + 1, none⟩ = some (R y)
theorem Ed.keep {n : Nat} {h h' : Heap} {v : Value} {l : List (Nat × Nat)} (s : Ed n h v l) (hk : ∀ b, b < n → h'[b]? = h[b]?) : Ed n h' v l := by
  obtain ⟨ao, c, rfl, hs, hx⟩ := s.ex
  refine ⟨ao, c, rfl, hs, fun i x y hi => ?_⟩
  obtain ⟨a, ha, h1, h2⟩ := hx i x y hi
  have := hk _ (hs a ha).2
  refine ⟨a, ha, ?_, ?_⟩
  · unfold cell at h1 ⊢; rw [this]; exact h1
  · unfold cell at h2 ⊢; rw [this]; exact h2
theorem Ed.len {n : Nat} {h : Heap} {v : Value} {l : List (Nat × Nat)} (s : Ed n h v l) (c : Bool) : (∀ K h, run P (.builtin .len #[23] 3 [c] [v]) K h = K (I l.length) h) := by
  intro K h'
  obtain ⟨ao, k, rfl, _⟩ := s.ex
  exact (ans_lenSlice (P := P) s23).run K
theorem Ed.at {n : Nat} {h : Heap} {v : Value} {l : List (Nat × Nat)} (s : Ed n h v l) {i x y : Nat} (hx : l[i]? = some (x, y)) :
    ∃ a : Addr, (∀ K h', run P (.indexAddr 23 v (I i)) K h' = K (.pointer (some a)) h') ∧ (∀ K, run P (.load 57 (.pointer (some a))) K h = K (.agg #[R x, R y]) h) := by
  obtain ⟨ao, c, rfl, hs, hxx⟩ := s.ex
  obtain ⟨⟨ab, aof, sp⟩, rfl, h1, h2⟩ := hxx i x y hx
  obtain ⟨rfl, hlt⟩ := hs _ rfl
  have hi : i < l.length := (List.getElem?_eq_some_iff.1 hx).1
  refine ⟨⟨ab, aof + i * 2, none⟩, fun K h' => ?_, fun K => ?_⟩
  · have := ans_indexAddr (P := P) s23 (a := ⟨ab, aof, none⟩) (len := l.length) (cap := c) (k := .i64) (i := (i : Int)) (by omega) (by omega) (h := h')
    rw [Addr.add_add0, Int.toNat_natCast] at this
    exact this.run K
  · refine (ans_loadS (P := P) a57 (l := [R x, R y]) ?_).run K
    have e0 : (Addr.mk ab (aof + i * 2) none).add 0 = ⟨ab, aof + i * 2, none⟩ := by rw [Addr.add_add0, Nat.add_zero]
    have e1 : (Addr.mk ab (aof + i * 2) none).add 1 = ⟨ab, aof + i * 2 + 1, none⟩ := by rw [Addr.add_add0]
    simp only [cellsAt, e0, e1, Nat.zero_add, h1, h2]
    rfl
/-! Make, plainly -/
/-- an edge more -/
def addTo (to : Nat → List Nat) (e : Nat × Nat) : Nat → List Nat := fun k => if k = e.1 then to k ++ [e.2] else to k
def toAll (E : List (Nat × Nat)) : Nat → List Nat := E.foldl addTo fun _ => []
theorem toAll_eq (E : List (Nat × Nat)) (k : Nat) : toAll E k = (E.filter fun e => e.1 == k).map (·.2) := by
  have key : ∀ (E : List (Nat × Nat)) (to : Nat → List Nat), E.foldl addTo to k = to k ++ (E.filter fun e => e.1 == k).map (·.2) := by
    intro E
    induction E with
    | nil => intro to; simp
    | cons e E ih =>
      intro to
      rw [List.foldl_cons, ih, addTo]
      by_cases h : k = e.1
      · simp [h]
      · have : (e.1 == k) = false := by simpa using fun x : e.1 = k => h x.symm
        simp [h, this]
  have := key E fun _ => []
  simpa [toAll] using this
/-- the graph of some nodes and edges -/
def grOf (N : List Nat) (E : List (Nat × Nat)) : Gr := ⟨srt N, fun k => cpt (srt (toAll E k))⟩
/-- what Make answers -/
inductive MkE where
  | long | arg | node | ok
  deriving DecidableEq
def mkE (N : List Nat) (E : List (Nat × Nat)) : MkE :=
  if 4096 < N.length ∨ 16384 < E.length then .long else if 0 ∈ N ∨ ¬ N.Nodup then .arg else if ∃ e ∈ E, e.1 ∉ N ∨ e.2 ∉ N then .node else .ok
theorem grOf_wf {N : List Nat} {E : List (Nat × Nat)} (h : mkE N E = .ok) : (grOf N E).WF := by
  unfold mkE at h
  split at h
  · cases h
  rename_i h1
  split at h
  · cases h
  rename_i h2
  split at h
  · cases h
  rename_i h3
  simp only [not_or, Nat.not_lt] at h1
  simp only [not_or, Classical.not_not] at h2
  refine ⟨?_, fun n => cpt_up (srt_le _), fun n t ht => ?_, ?_, ?_⟩
  · have hs := srt_le N
    have hn : (srt N).Nodup := (srt_perm N).nodup_iff.2 h2.2
    refine (hs.and hn).imp fun ⟨a, b⟩ => by omega
  · have ht' : t ∈ toAll E n := srt_mem.1 (cpt_mem.1 ht)
    rw [toAll_eq] at ht'
    obtain ⟨e, he, rfl⟩ := List.mem_map.1 ht'
    have := (List.mem_filter.1 he).1
    refine srt_mem.2 (Classical.byContradiction fun hn => h3 ⟨e, this, .inr hn⟩)
  · show (srt N).length ≤ 4096; rw [srt_len]; exact h1.1
  · exact fun h0 => h2.1 (srt_mem.1 h0)
end Go.Proofs.G
