import Derived.Test.YtadfdknlogceoaaKp
import Derived.Test.YtadfdknlogceoaaKc
import Derived.Test.YtadfdknlogceoaaKo
set_option linter.all false
open Go Go.Hv
set_option maxRecDepth 100000
namespace Go.Proofs.G
theorem hb51 : hasBody P 51 = true := by kernel_rfl
theorem hb52 : hasBody P 52 = true := by kernel_rfl
theorem hb79 : hasBody P 79 = true := by kernel_rfl
theorem isNaN_spec (x : Nat) (h : Heap) : HCalls P 79 #[R x] h fun u h' => u = .bool false ∧ h' = h := by
  refine isNaN_ok ?_
  unfold isNaN_c0
  simp only [fr, ops P]
  refine post_ret1 ⟨?_, rfl⟩
  simp [rdU]
/-- slices.BinarySearch in a rising list -/
theorem bsearch_spec {n : Nat} {h0 : Heap} {v : Value} {l : List Nat} (S : Rs n h0 v l) (hl : l.length < 65536) (hs : l.Pairwise (· < ·)) (t : Nat) :
    HCalls P 51 #[v, R t] h0 fun u h' => h' = h0 ∧ ∃ p c, u = .tuple #[I p, .bool c] ∧ p ≤ l.length ∧ (∀ x ∈ l.take p, x < t) ∧ (∀ x ∈ l.drop p, t ≤ x) := by
  have hget := List.pairwise_iff_getElem.1 hs
  refine bsearch_ok ?_
  unfold bsearch_c0
  simp only [fr, (S.len false).1]
  refine lp_of (fun k f h => ∃ i j, k = j - i ∧ f 0 = v ∧ f 1 = R t ∧ f 6 = I l.length ∧ f 7 = I i ∧ f 8 = I j ∧ i ≤ j ∧ j ≤ l.length ∧ (∀ x ∈ l.take i, x < t) ∧ (∀ x ∈ l.drop j, t ≤ x) ∧ h = h0) _ ⟨0, l.length, rfl, rfl, rfl, rfl, rfl, rfl, Nat.zero_le _, Nat.le_refl _, by simp, by simp, rfl⟩ ?_
  rintro k f h Q' ⟨i, j, rfl, f0, f1, f6, f7, f8, hij, hj, hlo, hhi, rfl⟩ on out
  unfold bsearch_L2
  simp only [f0, f1, f6, f7, f8, ops P, lt_R]
  by_cases hlt : i < j
  · rw [if_pos (by simpa using hlt)]
    have w1 : IntKind.i64.wrap ((i : Int) + (j : Int)) = ((i + j : Nat) : Int) := wI (n := i + j) (by omega)
    rw [w1]
    have c1 := (ans_convInt (n := ((i + j : Nat) : Int)) (h := h) (j := .i64) u3 u112).run
    rw [c1]
    have w2 : IntKind.u64.wrap ((i + j : Nat) : Int) = ((i + j : Nat) : Int) := by
      simp only [IntKind.wrap]; simp [IntKind.signed, IntKind.bits]; omega
    rw [w2]
    have c2 := (ans_shr (P := P) (t := 112) (c := false) (d := true) (k := .u64) (j := .u64) (a := ((i + j : Nat) : Int)) (b := 1) (h := h) (by decide)).run
    rw [c2]
    have w3 : ((i + j : Nat) : Int).fdiv (2 ^ min (Int.toNat 1) IntKind.u64.bits) = (((i + j) / 2 : Nat) : Int) := by
      rw [show min (Int.toNat 1) IntKind.u64.bits = 1 by decide, Int.fdiv_eq_ediv_of_nonneg _ (by decide)]
      omega
    rw [w3]
    have c3 := (ans_convInt (n := (((i + j) / 2 : Nat) : Int)) (h := h) (j := .u64) u112 u3).run
    rw [c3, wI (n := (i + j) / 2) (by omega)]
    have hm1 : i ≤ (i + j) / 2 := by omega
    have hm2 : (i + j) / 2 < j := by omega
    generalize (i + j) / 2 = m at *
    obtain ⟨x, hx⟩ : ∃ x, l[m]? = some x := ⟨_, List.getElem?_eq_getElem (by omega)⟩
    obtain ⟨a, a1, _, a2, _, _⟩ := S.at hx .i64
    rw [a1, load_run o41 a2]
    refine run_callF hb78 ((less_spec x t h).mono ?_)
    rintro _ _ ⟨rfl, rfl⟩
    simp only [ops P]
    have hml : m < l.length := by omega
    have hxm : l[m] = x := by rw [List.getElem?_eq_getElem hml] at hx; simpa using hx
    by_cases hlx : lt x t = true
    · rw [if_pos hlx]
      have hlx' : x < t := by simpa [lt] using hlx
      refine on (j - (m + 1)) _ _ (by omega) ⟨m + 1, j, rfl, f0, f1, f6, congrArg _ (wInc (by omega)), f8, by omega, hj, fun y hy => ?_, hhi, rfl⟩
      rw [take_at hx] at hy
      rcases List.mem_append.1 hy with hy | hy
      · obtain ⟨q, hq, he⟩ := List.mem_iff_getElem.1 hy
        rw [List.length_take] at hq
        rw [List.getElem_take] at he
        have := hget q m (by omega) hml (by omega)
        omega
      · simp at hy; omega
    · rw [if_neg hlx]
      have hlx' : t ≤ x := by simp [lt] at hlx; omega
      refine on (m - i) _ _ (by omega) ⟨i, m, rfl, f0, f1, f6, f7, rfl, by omega, by omega, hlo, fun y hy => ?_, rfl⟩
      obtain ⟨q, hq, he⟩ := List.mem_iff_getElem.1 hy
      rw [List.length_drop] at hq
      rw [List.getElem_drop] at he
      by_cases h0 : q = 0
      · subst h0; simp only [Nat.add_zero] at he; omega
      · have := hget m (m + q) hml (by omega) (by omega)
        omega
  · rw [if_neg (by simpa using hlt)]
    refine out _ _ _ (by simp) ?_
    simp only [ex]
    have hij' : i = j := by omega
    subst hij'
    unfold bsearch_c1
    simp only [rdU, reduceIte, Nat.reduceEqDiff, f0, f1, f6, f7, ops P, lt_R]
    by_cases hil : i < l.length
    · obtain ⟨x, hx⟩ : ∃ x, l[i]? = some x := ⟨_, List.getElem?_eq_getElem hil⟩
      obtain ⟨a, a1, _, a2, _, _⟩ := S.at hx .i64
      simp only [decide_eq_true hil, bb, when_t, ops P, a1, load_run o41 a2, beq_R]
      have gu : gw undef true = false := rfl
      have gu' : gw undef false = false := rfl
      by_cases hxt : x = t
      · simp only [decide_eq_true hxt, bb, when_f, when_t, ops P, if_true, gu, gu']
        exact post_ret2 ⟨rfl, i, true, rfl, hj, hlo, hhi⟩
      · simp only [decide_eq_false hxt, bb, when_f, when_t, ops P, if_false, a1, load_run o41 a2]
        refine run_callF hb79 ((isNaN_spec x h).mono ?_)
        rintro _ _ ⟨rfl, rfl⟩
        simp only [ops P, bb, when_f, when_t, if_false, gu, gu']
        exact post_ret2 ⟨rfl, i, false, rfl, hj, hlo, hhi⟩
    · have gu : gw undef true = false := rfl
      have gu' : gw undef false = false := rfl
      simp only [decide_eq_false hil, bb, when_f, when_t, ops P, if_false, gu, gu']
      exact post_ret2 ⟨rfl, i, false, rfl, hj, hlo, hhi⟩
end Go.Proofs.G
open Go Go.Hv
set_option maxRecDepth 100000
namespace Go.Proofs.G
theorem hname80 : (Try.f80.name == "runtime.NumGoroutine") = false := by kernel_rfl
theorem rd_over {b1 o1 l1 k1 b2 o2 l2 k2 : Nat} {ta tb : TypeId} {xa xb : Array Value} {h : Heap}
    (ha : h[b1]? = some (.cells xa ta (0, 0))) (hb : h[b2]? = some (.cells xb tb (0, 0))) (hne : b1 ≠ b2) (hxb : xb.size ≠ 0) :
    rd P (callFunc 80 #[.slice (some ⟨b1, o1, none⟩) l1 k1, .slice (some ⟨b2, o2, none⟩) l2 k2]) h = some (.value (.bool false)) := by
  have hp : ∀ {α : Type} (k : Program → Sem α), rd P (program >>= k) h = rd P (k P) h := fun k => rfl
  unfold callFunc
  rw [hp, Try.func80]
  simp only [hname80, Bool.false_eq_true, if_false]
  rw [if_pos (by kernel_rfl)]
  have hm : ∀ {α : Type} m (k : Unit → Sem α), rd P (mark m >>= k) h = rd P (k ()) h := fun m k => rfl
  rw [hm, show Extern.findNext Try.f80 = none by kernel_rfl]
  simp only []
  rw [show Extern.find Try.f80 = some (Extern.SlicesOverlaps.overlaps #[22, 22] #[4]) by kernel_rfl]
  simp only []
  rw [rd_bind', rd_overlaps (P := P) (e := 41) (by kernel_rfl) (by kernel_rfl) (a := ⟨b1, o1, none⟩) (b := ⟨b2, o2, none⟩) ha hb hne hxb]
  rfl
/-- memory of one's own beyond n, maybe from a block's midst on -/
structure NwO (n : Nat) (h : Heap) (v : Value) (l : List Nat) : Prop where
  own : OwnO h v 41 (l.map R)
  lo : ∀ c, blkOf v = some c → n ≤ c
theorem NwO.keep {n m : Nat} {h h' : Heap} {v : Value} {l : List Nat} (w : NwO n h v l) (O : Old m h h') (hm : h.size ≤ m) : NwO n h' v l := ⟨OwnO.keep w.own fun b hb => O.get b (by have := OwnO.lt w.own hb; omega), w.lo⟩
theorem NwO.rs {n : Nat} {h : Heap} {v : Value} {l : List Nat} (w : NwO n h v l) : Rs h.size h v l := ⟨OwnO.sl w.own, fun c hc => OwnO.lt w.own hc⟩
theorem Nw.o {n : Nat} {h : Heap} {v : Value} {l : List Nat} (w : Nw n h v l) : NwO n h v l := ⟨Own.o w.own, w.lo⟩
theorem NwO.nil (n : Nat) (h : Heap) : NwO n h (.slice none 0 0) [] := ⟨.inl ⟨rfl, rfl⟩, fun c hc => by cases hc⟩
/-- what stands behind both copies -/
theorem ins_list {α : Type} {A L : List α} {o i : Nat} {x : α} (hA : (A.drop o).take L.length = L) (hi : i ≤ L.length) (ho : o + L.length + 1 ≤ A.length) {A1 A2 : List α}
    (h1 : A1 = A.take (o + i + 1) ++ L.drop i ++ A.drop (o + i + 1 + (L.drop i).length)) (h2 : A2 = A1.take (o + i) ++ [x] ++ A1.drop (o + i + 1)) : (A2.drop o).take (L.length + 1) = L.take i ++ x :: L.drop i := by
  have e1 : A1.take (o + i) = A.take o ++ L.take i := by
    rw [h1, List.append_assoc, List.take_append_of_le_length (by rw [List.length_take]; omega), List.take_take, Nat.min_eq_left (by omega), List.take_add]
    congr 1
    rw [← hA, List.take_take, Nat.min_eq_left (by omega)]
  have e2 : A1.drop (o + i + 1) = L.drop i ++ A.drop (o + i + 1 + (L.drop i).length) := by
    rw [h1, List.append_assoc, List.drop_append_of_le_length (by rw [List.length_take]; omega), List.drop_eq_nil_of_le (by rw [List.length_take]; omega)]; rfl
  rw [h2, e1, e2, List.append_assoc, List.append_assoc, List.drop_append_of_le_length (by rw [List.length_take]; omega), List.drop_eq_nil_of_le (by rw [List.length_take]; omega)]
  simp only [List.nil_append, List.singleton_append, List.cons_append]
  have e3 : L.take i ++ x :: (L.drop i ++ A.drop (o + i + 1 + (L.drop i).length)) = (L.take i ++ x :: L.drop i) ++ A.drop (o + i + 1 + (L.drop i).length) := by simp
  have e4 : (L.take i ++ x :: L.drop i).length = L.length + 1 := by simp; omega
  rw [e3, ← e4, List.take_append_of_le_length (Nat.le_refl _), List.take_of_length_le (Nat.le_refl _)]
theorem ins_list2 {α : Type} {A L : List α} {i : Nat} {x : α} (hA : A.take i = L.take i) (hi : i ≤ L.length) {A1 A2 : List α} (hl : L.length + 1 ≤ A.length)
    (h1 : A1 = A.take i ++ [x] ++ A.drop (i + 1)) (h2 : A2 = A1.take (i + 1) ++ L.drop i ++ A1.drop (i + 1 + (L.drop i).length)) : A2.take (L.length + 1) = L.take i ++ x :: L.drop i := by
  have e1 : A1.take (i + 1) = L.take i ++ [x] := by
    rw [h1, hA]
    have : (L.take i ++ [x]).length = i + 1 := by simp; omega
    rw [← this, List.take_append_of_le_length (Nat.le_refl _), List.take_of_length_le (Nat.le_refl _)]
  have e4 : (L.take i ++ [x] ++ L.drop i).length = L.length + 1 := by simp; omega
  rw [h2, e1, ← e4, List.take_append_of_le_length (Nat.le_refl _), List.take_of_length_le (Nat.le_refl _)]
  simp
/-- slices.Insert of one -/
theorem insert_spec {h0 : Heap} {v : Value} {l : List Nat} (N : OwnO h0 v 41 (l.map R)) (hl : l.length ≤ 100000) {i x bx : Nat} (hi : i ≤ l.length) (hbx : h0[bx]? = some (.cells #[R x] 41 (0, 0))) (hsep : ∀ c, blkOf v = some c → c ≠ bx) :
    HCalls P 52 #[v, I i, .slice (some ⟨bx, 0, none⟩) 1 1] h0 fun u h' => OwnO h' u 41 ((l.take i ++ x :: l.drop i).map R) ∧ Chg (fun c => blkOf v = some c) h0 h' ∧ ∀ c, blkOf u = some c → blkOf v = some c ∨ h0.size ≤ c := by
  have NR : Rs h0.size h0 v l := ⟨OwnO.sl N, fun c hc => OwnO.lt N hc⟩
  have SX : Sl h0 (.slice (some ⟨bx, 0, none⟩) 1 1) [R x] := Row.sl (Row.mk' hbx)
  have elen : ∀ K h, run P (.builtin .len #[22] 3 [false] [v]) K h = K (I l.length) h := (NR.len false).1
  have elx : ∀ K h, run P (.builtin .len #[22] 3 [false] [.slice (some ⟨bx, 0, none⟩) 1 1]) K h = K (I 1) h := fun K h => (ans_lenSlice (P := P) s22).run K
  refine insert_ok ?_
  unfold insert_c0
  simp only [fr]
  have sl0 : ∃ w, ∀ K h, run P (.slice 22 v (some (I i)) none none) K h = K w h := by
    rcases N with ⟨rfl, h0'⟩ | ⟨b, o, cap, rfl, r, h2⟩
    · have : l = [] := by simpa using h0'
      subst this
      refine ⟨_, fun K h => (ans_slice (P := P) s22 (ao := none) (n := 0) (c := 0) (lo := some (I i)) (hi := none) (l := i) (m := 0) (.inr ⟨_, rfl⟩) (.inl ⟨rfl, rfl⟩) (by simpa using hi) (Nat.le_refl _)).run K⟩
    · refine ⟨_, fun K h => (ans_slice (P := P) s22 (n := (l.map R).length) (c := cap) (lo := some (I i)) (hi := none) (l := i) (m := (l.map R).length) (.inr ⟨_, rfl⟩) (.inl ⟨rfl, rfl⟩) (by simpa using hi) h2).run K⟩
  obtain ⟨w0, sl0⟩ := sl0
  rw [sl0, elx]
  simp only [ops P, elen, beq_R]
  rw [if_neg (by simp)]
  by_cases hil : i = l.length
  · subst hil
    simp only [decide_true, if_true]
    have e1 : l.take l.length ++ x :: l.drop l.length = l ++ [x] := by simp
    rw [e1]
    refine run_appendO eRef N SX (by simp [oneC]) (by simp; omega) (by simp; omega) fun u h' o' C' b' => ?_
    exact post_ret1 ⟨by show OwnO h' u 41 _; simpa using o', C', b'⟩
  simp only [decide_eq_false hil, bb, if_false]
  have hil' : i < l.length := by omega
  obtain ⟨b, o, cap, hv, r, hcap⟩ : ∃ b o cap, v = .slice (some ⟨b, o, none⟩) l.length cap ∧ RowO h0 b 41 o cap (l.map R) ∧ l.length ≤ cap := by
    rcases N with ⟨rfl, h0'⟩ | ⟨b, o, cap, rfl, r, h2⟩
    · have : l = [] := by simpa using h0'
      subst this; simp at hil'
    · exact ⟨b, o, cap, by simp, r, by simpa using h2⟩
  subst hv
  have hbb : b ≠ bx := hsep b rfl
  have esl : ∀ (b o len cap : Nat) (lo hi : Option Value) (x y : Nat), (lo = none ∧ x = 0 ∨ ∃ k, lo = some (.int k (x : Int))) → (hi = none ∧ y = len ∨ ∃ k, hi = some (.int k (y : Int))) → x ≤ y → y ≤ cap → x < cap → ∀ h, Ans P (.slice 22 (.slice (some ⟨b, o, none⟩) len cap) lo hi none) (.slice (some ⟨b, o + x, none⟩) (y - x) (cap - x)) h := by
    intro b o len cap lo hi x y h1 h2 h3 h4 h5 h
    have := ans_slice (P := P) s22 (ao := some ⟨b, o, none⟩) (n := len) (c := cap) h1 h2 h3 h4 (h := h)
    rw [if_neg (by omega), Option.map_some, Addr.add_add0, Nat.mul_one] at this
    exact this
  obtain ⟨arr, harr, hsz, htk⟩ := r
  have hLlen : (l.map R).length = l.length := by simp
  rw [hLlen] at htk
  have hone : ∀ y ∈ (l.map R).drop i, oneC y = true := fun y hy => by
    obtain ⟨z, _, rfl⟩ := List.mem_map.1 (List.mem_of_mem_drop hy); rfl
  have hdl : ((l.map R).drop i).length = l.length - i := by simp
  have hmap : (l.take i ++ x :: l.drop i).map R = (l.map R).take i ++ R x :: (l.map R).drop i := by simp
  have hcapR := (ans_capSlice (P := P) s22 (ty := 3) (c := false) (a := some ⟨b, o, none⟩) (n := l.length) (k := cap) (h := h0)).run
  have w1 : IntKind.i64.wrap ((l.length : Int) + ((1 : Nat) : Int)) = ((l.length + 1 : Nat) : Int) := wI (n := l.length + 1) (by omega)
  have hcell : ∀ j y, ((l.map R).drop i)[j]? = some y → cell h0 ⟨b, o + i + j, none⟩ = some y := by
    intro j y hj
    rw [List.getElem?_drop, ← htk] at hj
    have hlt : i + j < l.length := by
      have := (List.getElem?_eq_some_iff.1 hj).1
      rw [List.length_take] at this; omega
    rw [List.getElem?_take_of_lt (by omega), List.getElem?_drop, Array.getElem?_toList] at hj
    exact cell_at harr (by rw [← hj]; congr 1; omega)
  rw [w1, hcapR]
  simp only [ops P, lt_R]
  by_cases hroom : cap < l.length + 1
  · rw [if_pos (by simpa using hroom)]
    rw [(esl b o l.length cap none (some (I i)) 0 i (.inl ⟨rfl, rfl⟩) (.inr ⟨_, rfl⟩) (by omega) (by omega) (by omega) h0).run]
    have w2 : IntKind.i64.wrap (((l.length + 1 : Nat) : Int) - (i : Int)) = ((l.length + 1 - i : Nat) : Int) := by
      rw [show ((l.length + 1 : Nat) : Int) - (i : Int) = ((l.length + 1 - i : Nat) : Int) by omega]; exact wI (by omega)
    rw [w2]
    have rI : RowO h0 b 41 (o + 0) (cap - 0) ((l.map R).take i) := ⟨arr, harr, by omega, by
      rw [Nat.add_zero, List.length_take, Nat.min_eq_left (by simp; omega), ← htk, List.take_take, Nat.min_eq_left (by omega)]⟩
    have hti : ((l.map R).take i).length = i := by simp; omega
    have key := fun (K : Value → Heap → Prop) hk => run_appendZ (P := P) (K := K) eRef (it := 3) u3 (ty := 22) (cs := [false, false]) (m := l.length + 1 - i) rI (by rw [hti]; omega) (by rw [hti]; omega) (by rw [hti]; omega) (by rw [hti]; omega) hk
    rw [hti] at key
    have e0 : i - 0 = i := rfl
    refine key _ fun nc A hnc hAs hAt => ?_
    have hA' : (h0.push (.cells A 41))[h0.size]? = some (.cells A 41 (0, 0)) := get_push_new _ _
    have hold : ∀ c, c < h0.size → (h0.push (.cells A 41))[c]? = h0[c]? := fun c hc => get_push_old _ _ hc
    have hs1 : (h0.push (.cells A 41)).size = h0.size + 1 := by simp
    generalize h0.push (.cells A 41) = h1 at *
    have hbs : b < h0.size := lt_of_get harr
    have hbxs : bx < h0.size := lt_of_get hbx
    rw [(esl h0.size 0 (i + (l.length + 1 - i)) nc (some (I i)) none i (i + (l.length + 1 - i)) (.inr ⟨_, rfl⟩) (.inl ⟨rfl, rfl⟩) (by omega) (by omega) (by omega) h1).run]
    refine run_copy eRef (ys := [R x]) hA' (by simp; omega) (fun j y hj => ⟨⟨bx, 0, none⟩, rfl, ?_⟩) (by simp [oneC]) (by omega) fun u1 h2 A1 s2 k2 hA1 hs2 hL1 => ?_
    · cases j with
      | zero => simp at hj; subst hj; exact cell_at ((hold _ hbxs).trans hbx) rfl
      | succ j => simp at hj
    try simp only [opsf P, ops P]
    have w3 : IntKind.i64.wrap ((i : Int) + ((1 : Nat) : Int)) = ((i + 1 : Nat) : Int) := wInc (by omega)
    try rw [w3]
    rw [(esl h0.size 0 (i + (l.length + 1 - i)) nc (some (I (i + 1))) none (i + 1) (i + (l.length + 1 - i)) (.inr ⟨_, rfl⟩) (.inl ⟨rfl, rfl⟩) (by omega) (by omega) (by omega) h2).headq]
    rw [(esl b o l.length cap (some (I i)) none i l.length (.inr ⟨_, rfl⟩) (.inl ⟨rfl, rfl⟩) (by omega) (by omega) (by omega) h2).headq]
    have hb2 : h2[b]? = h0[b]? := (k2 b (by omega)).trans (hold b hbs)
    refine run_copy eRef (ys := (l.map R).drop i) hA1 (by rw [hdl]; omega) (fun j y hj => ⟨_, rfl, ?_⟩) hone (by omega) fun u2 h3 A2 s3 k3 hA2 hs3 hL2 => ?_
    · rw [Addr.add_add0]
      have := hcell j y hj
      unfold cell at this ⊢
      rw [hb2]; exact this
    have hO : Chg (fun c => blkOf (.slice (some ⟨b, o, none⟩) l.length cap) = some c) h0 h3 := ⟨by omega, fun c hc _ => by rw [k3 c (by omega), k2 c (by omega), hold c (by omega)]⟩
    refine post_ret1 ⟨.inr ⟨h0.size, 0, nc, ?_, ⟨A2, hA2, by omega, ?_⟩, ?_⟩, hO, fun c hc => .inr ?_⟩
    · show Value.slice _ _ _ = _
      congr 1
      simp; omega
    · rw [hmap]
      have hlen : ((l.map R).take i ++ R x :: (l.map R).drop i).length = (l.map R).length + 1 := by simp; omega
      rw [hlen, List.drop_zero]
      refine ins_list2 (A := A.toList) hAt (by simp; omega) (by simp; omega) ?_ ?_ (A1 := A1.toList)
      · rw [hL1]; simp
      · rw [hL2]; simp
    · simp; omega
    · have hc : blkOf (.slice (some ⟨h0.size, 0, none⟩) (i + (l.length + 1 - i)) nc) = some c := hc
      have : h0.size = c := by simpa [blkOf] using hc
      omega
  · rw [if_neg (by simpa using hroom)]
    rw [(esl b o l.length cap none (some (I (l.length + 1))) 0 (l.length + 1) (.inl ⟨rfl, rfl⟩) (.inr ⟨_, rfl⟩) (by omega) (by omega) (by omega) h0).run]
    have w3 : IntKind.i64.wrap ((i : Int) + ((1 : Nat) : Int)) = ((i + 1 : Nat) : Int) := wInc (by omega)
    rw [w3]
    rw [(esl b (o + 0) (l.length + 1 - 0) (cap - 0) (some (I (i + 1))) none (i + 1) (l.length + 1 - 0) (.inr ⟨_, rfl⟩) (.inl ⟨rfl, rfl⟩) (by omega) (by omega) (by omega) h0).run]
    have ov : Ans P (.callF 80 [.slice (some ⟨bx, 0, none⟩) 1 1, .slice (some ⟨b, o + 0 + (i + 1), none⟩) (l.length + 1 - 0 - (i + 1)) (cap - 0 - (i + 1))]) (.bool false) h0 := rd_over hbx harr (Ne.symm hbb) (by omega)
    rw [ov.run]
    simp only [ops P, bb, if_true, opsf P]
    try rw [w3]
    rw [(esl b (o + 0) (l.length + 1 - 0) (cap - 0) (some (I (i + 1))) none (i + 1) (l.length + 1 - 0) (.inr ⟨_, rfl⟩) (.inl ⟨rfl, rfl⟩) (by omega) (by omega) (by omega) h0).headq]
    rw [(esl b (o + 0) (l.length + 1 - 0) (cap - 0) (some (I i)) none i (l.length + 1 - 0) (.inr ⟨_, rfl⟩) (.inl ⟨rfl, rfl⟩) (by omega) (by omega) (by omega) h0).headq]
    refine run_copy eRef (ys := (l.map R).drop i) harr (by rw [hdl]; omega) (fun j y hj => ⟨_, rfl, ?_⟩) hone (by omega) fun u1 h2 A1 s2 k2 hA1 hs2 hL1 => ?_
    · rw [Addr.add_add0]; exact hcell j y hj
    rw [(esl b (o + 0) (l.length + 1 - 0) (cap - 0) (some (I i)) none i (l.length + 1 - 0) (.inr ⟨_, rfl⟩) (.inl ⟨rfl, rfl⟩) (by omega) (by omega) (by omega) h2).run]
    refine run_copy eRef (ys := [R x]) hA1 (by simp; omega) (fun j y hj => ⟨⟨bx, 0, none⟩, rfl, ?_⟩) (by simp [oneC]) (by omega) fun u2 h3 A2 s3 k3 hA2 hs3 hL2 => ?_
    · cases j with
      | zero => simp at hj; subst hj; exact cell_at ((k2 bx (Ne.symm hbb)).trans hbx) rfl
      | succ j => simp at hj
    have hO : Chg (fun c => blkOf (.slice (some ⟨b, o, none⟩) l.length cap) = some c) h0 h3 := ⟨by omega, fun c hc e => by
      have : c ≠ b := fun h => e (by rw [h]; rfl)
      rw [k3 c this, k2 c this]⟩
    refine post_ret1 ⟨.inr ⟨b, o, cap, ?_, ⟨A2, hA2, by omega, ?_⟩, ?_⟩, hO, fun c hc => .inl ?_⟩
    · show Value.slice _ _ _ = _
      have : (List.map R (l.take i ++ x :: l.drop i)).length = l.length + 1 := by simp; omega
      rw [this]; rfl
    · rw [hmap]
      have hlen : ((l.map R).take i ++ R x :: (l.map R).drop i).length = (l.map R).length + 1 := by simp; omega
      rw [hlen]
      refine ins_list (A := arr.toList) (i := i) (by rw [hLlen]; exact htk) (by simp; omega) (by simp; omega) ?_ ?_ (A1 := A1.toList)
      · rw [hL1, Nat.add_zero]; rfl
      · rw [hL2, Nat.add_zero]; rfl
    · simp; omega
    · have hc : blkOf (.slice (some ⟨b, o + 0, none⟩) (l.length + 1 - 0) (cap - 0)) = some c := hc
      have : b = c := by simpa [blkOf] using hc
      rw [← this]; rfl
end Go.Proofs.G
namespace Go.Proofs.G
/-- how many that are not in S have an edge to k -/
def preN (g : Gr) (S : List Nat) (k : Nat) : Nat := g.N.countP fun n => !decide (n ∈ S) && decide (k ∈ g.to n)
/-- a rising list with one more -/
def insR : List Nat → Nat → List Nat
  | [], t => [t]
  | x :: xs, t => if x < t then x :: insR xs t else t :: x :: xs
theorem insR_mem {l : List Nat} {t y : Nat} : y ∈ insR l t ↔ y = t ∨ y ∈ l := by
  induction l with
  | nil => simp [insR]
  | cons x xs ih =>
    unfold insR
    split
    · simp only [List.mem_cons, ih]
      constructor
      · rintro (h | h | h); exact .inr (.inl h); exact .inl h; exact .inr (.inr h)
      · rintro (h | h | h); exact .inr (.inl h); exact .inl h; exact .inr (.inr h)
    · simp
theorem insR_sorted {l : List Nat} {t : Nat} (hs : l.Pairwise (· < ·)) (ht : t ∉ l) : (insR l t).Pairwise (· < ·) := by
  induction l with
  | nil => simp [insR]
  | cons x xs ih =>
    rw [List.pairwise_cons] at hs
    simp only [List.mem_cons, not_or] at ht
    unfold insR
    split
    · rename_i hx
      rw [List.pairwise_cons]
      refine ⟨fun y hy => ?_, ih hs.2 ht.2⟩
      rcases insR_mem.1 hy with rfl | hy
      · exact hx
      · exact hs.1 y hy
    · rename_i hx
      rw [List.pairwise_cons]
      refine ⟨fun y hy => ?_, List.pairwise_cons.2 hs⟩
      rcases List.mem_cons.1 hy with rfl | hy
      · omega
      · have := hs.1 y hy; omega
theorem insR_at {l : List Nat} {t p : Nat} (hp : p ≤ l.length) (h1 : ∀ x ∈ l.take p, x < t) (h2 : ∀ x ∈ l.drop p, t ≤ x) : l.take p ++ t :: l.drop p = insR l t := by
  induction l generalizing p with
  | nil => simp [insR]
  | cons x xs ih =>
    cases p with
    | zero =>
      have := h2 x (by simp)
      unfold insR
      rw [if_neg (by omega)]; rfl
    | succ p =>
      have := h1 x (by simp)
      unfold insR
      rw [if_pos this]
      rw [← ih (p := p) (by simpa using hp) (fun y hy => h1 y (by simp [hy])) (fun y hy => h2 y (by simpa using hy))]
      rfl
theorem insR_len (l : List Nat) (t : Nat) : (insR l t).length = l.length + 1 := by
  induction l with
  | nil => rfl
  | cons x xs ih => unfold insR; split <;> simp [ih]
/-- the least first: what Order lists -/
structure Greedy (g : Gr) (l : List Nat) : Prop where
  nodup : l.Nodup
  at' : ∀ i x, l[i]? = some x → x ∈ g.N ∧ preN g (l.take i) x = 0 ∧ ∀ y ∈ g.N, y ∉ l.take i → preN g (l.take i) y = 0 → x ≤ y
/-- under way: T of the edges of the last are done -/
structure Kahn (g : Gr) (l : List Nat) (c : Nat → Nat) (free : List Nat) : Prop where
  gr : Greedy g l
  cnt : ∀ k, c k = preN g l k
  sorted : free.Pairwise (· < ·)
  mem : ∀ k, k ∈ l ∨ k ∈ free ↔ k ∈ g.N ∧ preN g l k = 0
  disj : ∀ k ∈ l, k ∉ free
theorem preN_snoc {g : Gr} (w : g.WF) {l : List Nat} {n : Nat} (hn : n ∈ g.N) (hl : n ∉ l) (k : Nat) : preN g l k = preN g (l ++ [n]) k + if k ∈ g.to n then 1 else 0 := by
  unfold preN
  have hnd := nodup_up w.up
  generalize g.N = N at hn hnd
  induction N with
  | nil => cases hn
  | cons m N ih =>
    rw [List.nodup_cons] at hnd
    rw [List.countP_cons, List.countP_cons]
    rcases List.mem_cons.1 hn with rfl | hn'
    · have hrest : N.countP (fun m => !decide (m ∈ l) && decide (k ∈ g.to m)) = N.countP (fun m => !decide (m ∈ l ++ [n]) && decide (k ∈ g.to m)) := by
        refine List.countP_congr fun m hm => ?_
        have : m ≠ n := fun e => hnd.1 (e ▸ hm)
        simp [this]
      rw [hrest]
      by_cases hk : k ∈ g.to n <;> simp [hl, hk]
    · have hne : m ≠ n := fun e => hnd.1 (e ▸ hn')
      rw [ih hn' hnd.2]
      have : (decide (m ∈ l ++ [n])) = decide (m ∈ l) := by simp [hne]
      rw [this]
      omega
/-- .. one edge of the last done -/
structure KahnT (g : Gr) (l : List Nat) (n : Nat) (T : List Nat) (c : Nat → Nat) (free : List Nat) : Prop where
  cnt : ∀ k, c k + (if k ∈ T then 1 else 0) = preN g l k
  sorted : free.Pairwise (· < ·)
  mem : ∀ k, k ∈ l ++ [n] ∨ k ∈ free ↔ k ∈ g.N ∧ c k = 0
  disj : ∀ k ∈ l ++ [n], k ∉ free
theorem Kahn.begin {g : Gr} (w : g.WF) {c : Nat → Nat} (hc : ∀ k, c k = preN g [] k) : Kahn g [] c (g.N.filter fun n => decide (c n = 0)) := by
  refine ⟨⟨by simp, fun i x h => by simp at h⟩, hc, w.up.filter _, fun k => ?_, fun k hk => by cases hk⟩
  simp only [List.not_mem_nil, false_or, List.mem_filter, decide_eq_true_eq, hc]
theorem Kahn.pop {g : Gr} (w : g.WF) {l : List Nat} {c : Nat → Nat} {n : Nat} {free : List Nat} (K : Kahn g l c (n :: free)) : n ∈ g.N ∧ n ∉ l ∧ Greedy g (l ++ [n]) ∧ KahnT g l n [] c free := by
  have hn : n ∈ g.N ∧ preN g l n = 0 := (K.mem n).1 (.inr (by simp))
  have hnl : n ∉ l := fun h => K.disj n h (by simp)
  have hs := List.pairwise_cons.1 K.sorted
  refine ⟨hn.1, hnl, ⟨?_, ?_⟩, ⟨fun k => by simpa using K.cnt k, hs.2, fun k => ?_, fun k hk => ?_⟩⟩
  · exact List.nodup_append.2 ⟨K.gr.nodup, by simp, fun a ha b hb => by simp at hb; subst hb; intro e; subst e; exact hnl ha⟩
  · intro i x h
    by_cases hi : i < l.length
    · rw [List.getElem?_append_left hi] at h
      rw [List.take_append_of_le_length (by omega)]
      exact K.gr.at' i x h
    · rw [List.getElem?_append_right (by omega)] at h
      have h0 : i - l.length = 0 := by
        by_cases h0 : i - l.length = 0
        · exact h0
        · rw [List.getElem?_eq_none (by simp; omega)] at h; cases h
      rw [h0] at h
      simp at h
      subst h
      have : (l ++ [n]).take i = l := by rw [show i = l.length by omega]; simp
      rw [this]
      refine ⟨hn.1, hn.2, fun y hy hyl hp => ?_⟩
      rcases (K.mem y).2 ⟨hy, hp⟩ with h | h
      · exact absurd h hyl
      · rcases List.mem_cons.1 h with rfl | h
        · exact Nat.le_refl _
        · exact Nat.le_of_lt (hs.1 y h)
  · rw [K.cnt k, ← K.mem k]
    simp only [List.mem_append, List.mem_cons, List.not_mem_nil, or_false]
    constructor
    · rintro ((h | h) | h); exact .inl h; exact .inr (.inl h); exact .inr (.inr h)
    · rintro (h | h | h); exact .inl (.inl h); exact .inl (.inr h); exact .inr h
  · rcases List.mem_append.1 hk with hk | hk
    · exact fun h => K.disj k hk (List.mem_cons_of_mem _ h)
    · simp at hk; subst hk
      exact fun h => absurd (hs.1 k h) (Nat.lt_irrefl _)
theorem preN_pos {g : Gr} {l : List Nat} {n t : Nat} (hn : n ∈ g.N) (hl : n ∉ l) (ht : t ∈ g.to n) : 0 < preN g l t := by
  unfold preN
  exact List.countP_pos_iff.2 ⟨n, hn, by simp [hl, ht]⟩
theorem KahnT.step {g : Gr} (w : g.WF) {l : List Nat} {n : Nat} {T : List Nat} {c : Nat → Nat} {free : List Nat} {t : Nat} (K : KahnT g l n T c free) (hn : n ∈ g.N) (hl : n ∉ l) (ht : t ∈ g.to n) (hT : t ∉ T) :
    0 < c t ∧ KahnT g l n (T ++ [t]) (fun k => if k = t then c t - 1 else c k) (if c t - 1 = 0 then insR free t else free) := by
  have hpos : 0 < c t := by
    have := K.cnt t
    rw [if_neg hT] at this
    have := preN_pos hn hl ht
    omega
  have hnot : t ∉ l ++ [n] ∧ t ∉ free := by
    constructor
    · intro h; have := ((K.mem t).1 (.inl h)).2; omega
    · intro h; have := ((K.mem t).1 (.inr h)).2; omega
  have htN := w.sub _ _ ht
  refine ⟨hpos, ⟨fun k => ?_, ?_, fun k => ?_, fun k hk => ?_⟩⟩
  · have := K.cnt k
    by_cases hk : k = t
    · subst hk
      rw [if_neg hT] at this
      simp; omega
    · simp only [List.mem_append, List.mem_singleton, hk, or_false, if_false]; exact this
  · split
    · exact insR_sorted K.sorted hnot.2
    · exact K.sorted
  · by_cases hk : k = t
    · subst hk
      simp only [if_true]
      by_cases hz : c k - 1 = 0
      · rw [if_pos hz]
        exact ⟨fun _ => ⟨htN, hz⟩, fun _ => .inr (insR_mem.2 (.inl rfl))⟩
      · rw [if_neg hz]
        exact ⟨fun h => by rcases h with h | h; exact absurd h hnot.1; exact absurd h hnot.2, fun h => absurd h.2 hz⟩
    · rw [if_neg hk]
      rw [← K.mem k]
      by_cases hz : c t - 1 = 0
      · rw [if_pos hz, insR_mem]
        constructor
        · rintro (h | h | h); exact .inl h; exact absurd h hk; exact .inr h
        · rintro (h | h); exact .inl h; exact .inr (.inr h)
      · rw [if_neg hz]
  · have : k ≠ t := fun e => hnot.1 (e ▸ hk)
    split
    · rw [insR_mem]
      rintro (h | h)
      · exact this h
      · exact K.disj k hk h
    · exact K.disj k hk
theorem KahnT.stop {g : Gr} (w : g.WF) {l : List Nat} {n : Nat} {c : Nat → Nat} {free : List Nat} (K : KahnT g l n (g.to n) c free) (G : Greedy g (l ++ [n])) (hn : n ∈ g.N) (hl : n ∉ l) : Kahn g (l ++ [n]) c free := by
  have hc : ∀ k, c k = preN g (l ++ [n]) k := fun k => by
    have h1 := K.cnt k
    have h2 := preN_snoc w hn hl k
    omega
  exact ⟨G, hc, K.sorted, fun k => by rw [← hc]; exact K.mem k, K.disj⟩
theorem Greedy.sub {g : Gr} {l : List Nat} (G : Greedy g l) : ∀ x ∈ l, x ∈ g.N := fun x hx => by
  obtain ⟨i, hi, he⟩ := List.mem_iff_getElem.1 hx
  exact (G.at' i x (by rw [List.getElem?_eq_getElem hi, he])).1
theorem Kahn.len {g : Gr} (w : g.WF) {l : List Nat} {c : Nat → Nat} {free : List Nat} (K : Kahn g l c free) : l.length + free.length ≤ g.N.length := by
  have : (l ++ free).Nodup := List.nodup_append.2 ⟨K.gr.nodup, nodup_up K.sorted, fun a ha b hb e => K.disj a ha (e ▸ hb)⟩
  have := len_le_of_nodup this fun x hx => by
    rcases List.mem_append.1 hx with hx | hx
    · exact K.gr.sub x hx
    · exact ((K.mem x).1 (.inr hx)).1
  simpa using this
theorem KahnT.len {g : Gr} {l : List Nat} {n : Nat} {T : List Nat} {c : Nat → Nat} {free : List Nat} (K : KahnT g l n T c free) : free.length ≤ g.N.length :=
  len_le_of_nodup (nodup_up K.sorted) fun x hx => ((K.mem x).1 (.inr hx)).1
end Go.Proofs.G
open Go Go.Hv
set_option maxRecDepth 100000
namespace Go.Proofs.G
theorem hb19 : hasBody P 19 = true := by kernel_rfl
/-- block b is a map of counts -/
def CM (h : Heap) (b : Nat) (c : Nat → Nat) : Prop := ∃ es, MapR h b R es ∧ ∀ k, lkV (I 0) (alook es k) false = I (c k)
theorem CM.lt {h : Heap} {b : Nat} {c : Nat → Nat} (m : CM h b c) : b < h.size := let ⟨_, m, _⟩ := m; m.lt
theorem CM.keep {h h' : Heap} {b : Nat} {c : Nat → Nat} (m : CM h b c) (hk : h'[b]? = h[b]?) : CM h' b c := let ⟨es, m, e⟩ := m; ⟨es, m.keep hk, e⟩
theorem CM.look {h : Heap} {b : Nat} {c : Nat → Nat} (m : CM h b c) (k : Nat) (K : Value → Heap → Prop) : run P (.lookup 86 (.map (some b)) (R k) false) K h = K (I (c k)) h := by
  obtain ⟨es, m, e⟩ := m
  rw [(m.lookup mInt kR k false).run, e]
theorem CM.upd {h : Heap} {b : Nat} {c : Nat → Nat} (m : CM h b c) (k v : Nat) {K : Value → Heap → Prop} (hk : ∀ h', CM h' b (fun j => if j = k then v else c j) → (∀ d, d ≠ b → h'[d]? = h[d]?) → h'.size = h.size → K undef h') : run P (.mapUpdate 86 (.map (some b)) (R k) (I v)) K h := by
  obtain ⟨es, m, e⟩ := m
  refine m.update mInt kR k (I v) fun h' m' C s => hk h' ⟨_, m', fun j => ?_⟩ (fun d hd => ?_) s
  · rw [alook_aset]
    show _ = I (if j = k then v else c j)
    by_cases hj : j = k
    · rw [if_pos hj, if_pos hj]; rfl
    · rw [if_neg hj, if_neg hj]; exact e j
  · by_cases hds : d < h.size
    · exact C.get d hds hd
    · rw [Array.getElem?_eq_none (by omega), Array.getElem?_eq_none (by omega)]
theorem CM.new (h : Heap) : CM (h.push (.map #[] 0)) h.size fun _ => 0 := ⟨[], MapR.new h R, fun k => rfl⟩
theorem not_mem_take {l : List Nat} (hn : l.Nodup) {i t : Nat} (h : l[i]? = some t) : t ∉ l.take i := by
  have h1 : (l.take (i + 1)).Nodup := hn.sublist (List.take_sublist _ _)
  rw [take_at h, List.nodup_append] at h1
  exact fun hm => h1.2.2 t hm t (by simp) rfl
theorem countP_snoc {α : Type} (p : α → Bool) (l : List α) (x : α) : (l ++ [x]).countP p = l.countP p + if p x = true then 1 else 0 := by
  rw [List.countP_append, List.countP_cons]; simp
theorem preN_le (g : Gr) (S : List Nat) (k : Nat) : preN g S k ≤ g.N.length := List.countP_le_length
theorem order_spec {n : Nat} {h0 : Heap} {p : Value} {g : Gr} (G : GR n h0 p g) (w : g.WF) (hn : n ≤ h0.size) :
    HCalls P 19 #[p] h0 fun v h' => Old h0.size h0 h' ∧ ∃ l, Greedy g l ∧ (∀ y ∈ g.N, y ∉ l → preN g l y ≠ 0) ∧ ((l.length < g.N.length ∧ v = .tuple #[.slice none 0 0, I 141]) ∨ (¬ l.length < g.N.length ∧ ∃ lv, v = .tuple #[lv, I 0] ∧ Nw h0.size h' lv l)) := by
  obtain ⟨b, nv, c1, c2, es, hs, rfl, A⟩ := G
  have hfew := w.few
  refine order_ok ?_
  unfold order_c0
  simp only [fr, run_mkMap]
  have hold : ∀ c, c < h0.size → (h0.push (.map #[] 0))[c]? = h0[c]? := fun c hc => get_push_old _ _ hc
  have M0 := CM.new h0
  have hs0 : (h0.push (.map #[] 0)).size = h0.size + 1 := by simp
  generalize h0.push (.map #[] 0) = h1 at *
  have A1 := A.keep (h' := h1) fun c hc => hold c (by omega)
  simp only [ops P, (fld P f75_0).1, load_run o22 A1.c0, (A1.nodes.len false).1]
  -- counting
  refine lp_up g.N.length (fun j f h => f 0 = .pointer (some ⟨b, 0, none⟩) ∧ f 4 = .map (some h0.size) ∧ f 22 = nv ∧ f 23 = I g.N.length ∧ f 24 = I j ∧ CM h h0.size (fun k => (g.N.take j).countP fun m => decide (k ∈ g.to m)) ∧ (∀ d, d ≠ h0.size → h[d]? = h1[d]?) ∧ h.size = h1.size) ⟨rfl, rfl, rfl, rfl, rfl, by simpa using M0, fun _ _ => rfl, rfl⟩ ?_
  rintro j f h Q' hj ⟨f0, f4, f22, f23, f24, M, hk, hsz⟩ on out
  have A' := A.keep (h' := h) fun c hc => by rw [hk c (by omega), hold c (by omega)]
  unfold order_L9
  simp only [f0, f4, f22, f23, f24, ops P, lt_R]
  by_cases hjl : j < g.N.length
  · obtain ⟨x, hx⟩ : ∃ x, g.N[j]? = some x := ⟨_, List.getElem?_eq_getElem hjl⟩
    obtain ⟨q', a1, _, a2, _, _⟩ := A'.nodes.at hx .i64
    obtain ⟨tv, t1, _, T⟩ := A'.look x
    rw [if_pos (by simpa using hjl), a1, load_run o41 a2]
    simp only [ops P, (fld P f75_1).1, load_run o72 A'.c1, t1, (T.len false).1]
    have hto := w.fewt x
    have hnd := nodup_up (w.upt x)
    refine lp_up (g.to x).length (fun i f h' => f 0 = .pointer (some ⟨b, 0, none⟩) ∧ f 4 = .map (some h0.size) ∧ f 22 = nv ∧ f 23 = I g.N.length ∧ f 24 = I j ∧ f 33 = tv ∧ f 34 = I (g.to x).length ∧ f 35 = I i ∧ CM h' h0.size (fun k => ((g.N.take j).countP fun m => decide (k ∈ g.to m)) + if k ∈ (g.to x).take i then 1 else 0) ∧ (∀ d, d ≠ h0.size → h'[d]? = h1[d]?) ∧ h'.size = h1.size) ⟨f0, f4, f22, f23, f24, rfl, rfl, rfl, by simpa using M, hk, hsz⟩ ?_
    rintro i f h2 Q2 hi ⟨f0, f4, f22, f23, f24, f33, f34, f35, M2, hk2, hsz2⟩ on2 out2
    unfold order_L11
    simp only [f0, f4, f33, f34, f35, ops P, lt_R]
    by_cases hil : i < (g.to x).length
    · obtain ⟨t, ht⟩ : ∃ t, (g.to x)[i]? = some t := ⟨_, List.getElem?_eq_getElem hil⟩
      have T2 := T.keep (h' := h2) fun c hc => by rw [hk2 c (by omega), hk c (by omega)]
      obtain ⟨q2, b1, _, b2, _, _⟩ := T2.at ht .i64
      rw [if_pos (by simpa using hil), b1, load_run o41 b2, M2.look]
      simp only [ops P]
      have htn : t ∉ (g.to x).take i := not_mem_take hnd ht
      have hcb : (g.N.take j).countP (fun m => decide (t ∈ g.to m)) ≤ 4096 := Nat.le_trans List.countP_le_length (by rw [List.length_take]; omega)
      simp only [htn, if_false, Nat.add_zero]
      rw [wInc (by omega)]
      refine M2.upd t _ fun h3 M3 k3 s3 => ?_
      refine on2 _ _ hil ⟨f0, f4, f22, f23, f24, f33, f34, congrArg _ (wInc (by omega)), ?_, fun d hd => (k3 d hd).trans (hk2 d hd), by omega⟩
      have e : (fun k => if k = t then (g.N.take j).countP (fun m => decide (t ∈ g.to m)) + 1 else ((g.N.take j).countP fun m => decide (k ∈ g.to m)) + if k ∈ (g.to x).take i then 1 else 0) = fun k => ((g.N.take j).countP fun m => decide (k ∈ g.to m)) + if k ∈ (g.to x).take (i + 1) then 1 else 0 := by
        funext k
        rw [take_at ht]
        by_cases hkt : k = t
        · subst hkt; simp
        · simp [hkt]
      rw [← e]; exact M3
    · rw [if_neg (by simpa using hil)]
      refine out2 _ _ _ (by simp) ?_
      simp only [ex]
      unfold order_c10
      simp only [rdU, reduceIte, Nat.reduceEqDiff, f24, ops P]
      refine on _ _ hjl ⟨f0, f4, f22, f23, congrArg _ (wInc (by omega)), ?_, hk2, hsz2⟩
      have e : (fun k => ((g.N.take j).countP fun m => decide (k ∈ g.to m)) + if k ∈ (g.to x).take i then 1 else 0) = fun k => (g.N.take (j + 1)).countP fun m => decide (k ∈ g.to m) := by
        funext k
        rw [take_at hx, countP_snoc, List.take_of_length_le (show (g.to x).length ≤ i by omega)]
        simp
      rw [← e]; exact M2
  rw [if_neg (by simpa using hjl)]
  refine out _ _ _ (by simp) ?_
  simp only [ex]
  rw [List.take_of_length_le (show g.N.length ≤ j by omega)] at M
  have ecnt : (fun k => g.N.countP fun m => decide (k ∈ g.to m)) = fun k => preN g [] k := by
    funext k; unfold preN; simp
  rw [ecnt] at M
  -- the free ones
  unfold order_c1
  simp only [rdU, reduceIte, Nat.reduceEqDiff, f0, f4, ops P, (fld P f75_0).1, load_run o22 A'.c0, (A'.nodes.len false).1]
  have O' : Old h0.size h0 h := ⟨by omega, fun c hc => by rw [hk c (by omega), hold c hc]⟩
  clear on out
  refine lp_up g.N.length (fun j f h2 => f 0 = .pointer (some ⟨b, 0, none⟩) ∧ f 4 = .map (some h0.size) ∧ f 10 = .slice none 0 0 ∧ f 48 = nv ∧ f 49 = I g.N.length ∧ f 50 = I j ∧ CM h2 h0.size (fun k => preN g [] k) ∧ Nw (h0.size + 1) h2 (f 9) ((g.N.take j).filter fun m => decide (preN g [] m = 0)) ∧ Old h0.size h0 h2) ⟨f0, f4, rfl, rfl, rfl, rfl, M, Nw.nil _ _, O'⟩ ?_
  rintro j f h2 Q' hj ⟨f0, f4, f10, f48, f49, f50, M2, N2, O2⟩ on out
  have q2 := O2.size
  have hlt2 := M2.lt
  have A2 := A.keep (h' := h2) fun c hc => O2.get c (by omega)
  unfold order_L7
  simp only [f0, f4, f48, f49, f50, ops P, lt_R]
  by_cases hjl : j < g.N.length
  · obtain ⟨x, hx⟩ : ∃ x, g.N[j]? = some x := ⟨_, List.getElem?_eq_getElem hjl⟩
    obtain ⟨q', a1, _, a2, _, _⟩ := A2.nodes.at hx .i64
    rw [if_pos (by simpa using hjl), a1, load_run o41 a2, M2.look]
    simp only [ops P, beq_R0]
    have estep : (g.N.take (j + 1)).filter (fun m => decide (preN g [] m = 0)) = (g.N.take j).filter (fun m => decide (preN g [] m = 0)) ++ if preN g [] x = 0 then [x] else [] := by
      rw [take_at hx, List.filter_append]
      congr 1
      by_cases h0 : preN g [] x = 0 <;> simp [h0]
    have fin : ∀ (f' : F) (h' : Heap), f' 0 = .pointer (some ⟨b, 0, none⟩) → f' 4 = .map (some h0.size) → f' 10 = .slice none 0 0 → f' 48 = nv → f' 49 = I g.N.length → f' 50 = I j → CM h' h0.size (fun k => preN g [] k) → Nw (h0.size + 1) h' (f' 9) ((g.N.take (j + 1)).filter fun m => decide (preN g [] m = 0)) → Old h0.size h0 h' → order_c8 Q' f' h' := by
      intro f' h' g0 g4 g10 g48 g49 g50 M' N' O'
      unfold order_c8
      simp only [g50, ops P]
      exact on _ _ hjl ⟨g0, g4, g10, g48, g49, congrArg _ (wInc (by omega)), M', N', O'⟩
    by_cases hz : preN g [] x = 0
    · rw [if_pos hz] at estep
      simp only [decide_eq_true hz, if_true]
      have hlen : ((g.N.take j).filter fun m => decide (preN g [] m = 0)).length ≤ 4096 := by
        have := List.length_filter_le (fun m => decide (preN g [] m = 0)) (g.N.take j)
        rw [List.length_take] at this; omega
      refine N2.push x (by omega) (by omega) fun u v' h3 N3 k3 s3 b3 => ?_
      have hk0 : ∀ c, c < h0.size + 1 → h3[c]? = h2[c]? := fun c hc => k3 c (by omega) fun e => by have := N2.lo c e; omega
      exact fin _ h3 f0 f4 f10 f48 f49 f50 (M2.keep (hk0 _ (by omega))) (by rw [estep]; exact N3) ⟨by omega, fun c hc => by rw [hk0 c (by omega), O2.get c hc]⟩
    · rw [if_neg hz, List.append_nil] at estep
      simp only [decide_eq_false hz, bb, if_false]
      exact fin _ h2 f0 f4 f10 f48 f49 f50 M2 (by rw [estep]; exact N2) O2
  rw [if_neg (by simpa using hjl)]
  refine out _ _ _ (by simp) ?_
  simp only [ex]
  rw [List.take_of_length_le (show g.N.length ≤ j by omega)] at N2
  have K0 : Kahn g [] (fun k => preN g [] k) (g.N.filter fun m => decide (preN g [] m = 0)) := Kahn.begin w fun _ => rfl
  -- the rounds
  unfold order_c2
  clear on out
  refine lp_of (fun k f h2 => ∃ l c free, k = g.N.length - l.length ∧ f 0 = .pointer (some ⟨b, 0, none⟩) ∧ f 4 = .map (some h0.size) ∧ Kahn g l c free ∧ CM h2 h0.size c ∧ OwnO h2 (f 9) 41 (free.map R) ∧ (∀ d, blkOf (f 9) = some d → h0.size < d ∧ blkOf (f 10) ≠ some d) ∧ Nw (h0.size + 1) h2 (f 10) l ∧ Old h0.size h0 h2) _ ⟨[], _, _, rfl, f0, f4, K0, M2, Own.o N2.own, fun d hd => ⟨by have := N2.lo d hd; omega, by show blkOf (f 10) ≠ _; rw [f10]; simp [blkOf]⟩, by show Nw _ _ (f 10) _; rw [f10]; exact Nw.nil _ _, O2⟩ ?_
  rintro k f h3 Q' ⟨l, c, free, rfl, f0, f4, K, M3, F3, hsep, N3, O3⟩ on out
  have q3 := O3.size
  have hlt3 := M3.lt
  have A3 := A.keep (h' := h3) fun c hc => O3.get c (by omega)
  have FR : Rs h3.size h3 (f 9) free := ⟨OwnO.sl F3, fun c hc => OwnO.lt F3 hc⟩
  have hKl := K.len w
  unfold order_L4
  simp only [f0, f4, (FR.len false).1, ops P]
  cases free with
  | nil =>
    rw [if_neg (by simp)]
    refine out _ _ _ (by simp) ?_
    simp only [ex]
    unfold order_c3
    simp only [rdU, reduceIte, Nat.reduceEqDiff, f0, (N3.rs.len false).1, ops P, (fld P f75_0).1, load_run o22 A3.c0, (A3.nodes.len false).1, lt_R]
    have hend : ∀ y ∈ g.N, y ∉ l → preN g l y ≠ 0 := fun y hy hyl hz => by
      rcases (K.mem y).2 ⟨hy, hz⟩ with h | h
      · exact hyl h
      · cases h
    by_cases hll : l.length < g.N.length
    · rw [if_pos (by simpa using hll)]
      exact post_ret2 ⟨O3, l, K.gr, hend, .inl ⟨hll, rfl⟩⟩
    · rw [if_neg (by simpa using hll)]
      exact post_ret2 ⟨O3, l, K.gr, hend, .inr ⟨hll, _, rfl, N3.mono (by omega)⟩⟩
  | cons n0 free =>
    rw [if_pos (by simp)]
    obtain ⟨hnN, hnl, Gr', KT⟩ := K.pop w
    obtain ⟨q', a1, _, a2, _, _⟩ := FR.at (i := 0) (x := n0) rfl .i64
    have e00 : (Value.int .i64 0) = I ((0 : Nat)) := rfl
    rw [e00, a1, load_run o41 a2]
    obtain ⟨w9, sl9, F9, b9⟩ := OwnO.tail s22 (k := .i64) (show OwnO h3 (f 9) 41 (R n0 :: free.map R) from F3)
    rw [sl9]
    simp only [List.length_cons] at hKl
    refine N3.push n0 (by omega) (by omega) fun u v' h4 N4 k4 s4 b4 => ?_
    have hk4 : ∀ d, d < h3.size → blkOf (f 10) ≠ some d → h4[d]? = h3[d]? := k4
    have F4 : OwnO h4 w9 41 (free.map R) := OwnO.keep F9 fun d hd => hk4 d (OwnO.lt F9 hd) (hsep d (b9 d hd)).2
    have M4 : CM h4 h0.size c := M3.keep (hk4 _ hlt3 fun e => by have := N3.lo _ e; omega)
    have O4 : Old h0.size h0 h4 := ⟨by omega, fun d hd => by rw [hk4 d (by omega) (fun e => by have := N3.lo _ e; omega), O3.get d hd]⟩
    have A4 := A.keep (h' := h4) fun c hc => O4.get c (by omega)
    obtain ⟨tv, t1, _, T⟩ := A4.look n0
    simp only [ops P, (fld P f75_1).1, load_run o72 A4.c1, t1, (T.len false).1]
    have hto := w.fewt n0
    have hnd := nodup_up (w.upt n0)
    have sep4 : ∀ d, blkOf w9 = some d → h0.size < d ∧ blkOf v' ≠ some d := fun d hd => ⟨(hsep d (b9 d hd)).1, fun e => by
      rcases b4 d e with h | h
      · exact (hsep d (b9 d hd)).2 h
      · have := OwnO.lt F9 hd; omega⟩
    refine lp_up (g.to n0).length (fun i f h5 => ∃ c free, f 0 = .pointer (some ⟨b, 0, none⟩) ∧ f 4 = .map (some h0.size) ∧ f 80 = tv ∧ f 81 = I (g.to n0).length ∧ f 82 = I i ∧ KahnT g l n0 ((g.to n0).take i) c free ∧ CM h5 h0.size c ∧ OwnO h5 (f 9) 41 (free.map R) ∧ (∀ d, blkOf (f 9) = some d → h0.size < d ∧ blkOf (f 10) ≠ some d) ∧ Nw (h0.size + 1) h5 (f 10) (l ++ [n0]) ∧ Old h0.size h0 h5) ⟨c, free, f0, f4, rfl, rfl, rfl, by simpa using KT, M4, F4, sep4, N4, O4⟩ ?_
    rintro i f h5 Q2 hi ⟨c5, free5, f0, f4, f80, f81, f82, K5, M5, F5, sep5, N5, O5⟩ on2 out2
    have q5 := O5.size
    have hlt5 := M5.lt
    unfold order_L5
    simp only [f0, f4, f80, f81, f82, ops P, lt_R]
    by_cases hil : i < (g.to n0).length
    rotate_left
    · rw [if_neg (by simpa using hil)]
      refine out2 _ _ _ (by simp) ?_
      simp only [ex]
      rw [List.take_of_length_le (show (g.to n0).length ≤ i by omega)] at K5
      exact on (g.N.length - (l ++ [n0]).length) _ _ (by simp; omega) ⟨l ++ [n0], c5, free5, rfl, f0, f4, K5.stop w Gr' hnN hnl, M5, F5, sep5, N5, O5⟩
    obtain ⟨t, ht⟩ : ∃ t, (g.to n0)[i]? = some t := ⟨_, List.getElem?_eq_getElem hil⟩
    have htn : t ∉ (g.to n0).take i := not_mem_take hnd ht
    have T5 := T.keep (h' := h5) fun c hc => by rw [O5.get c (by omega), O4.get c (by omega)]
    obtain ⟨q2, b1, _, b2, _, _⟩ := T5.at ht .i64
    rw [if_pos (by simpa using hil), b1, load_run o41 b2, M5.look]
    obtain ⟨hpos, K6⟩ := K5.step w hnN hnl (List.mem_of_getElem? ht) htn
    have hcb : c5 t ≤ 4096 := by have := K5.cnt t; have := preN_le g l t; omega
    simp only [ops P]
    rw [wDec (by omega) hpos]
    refine M5.upd t _ fun h6 M6 k6 s6 => ?_
    rw [M6.look]
    simp only [if_true, ops P, beq_R0]
    have O6 : Old h0.size h0 h6 := ⟨by omega, fun d hd => by rw [k6 d (by omega), O5.get d hd]⟩
    have F6 : OwnO h6 (f 9) 41 (free5.map R) := OwnO.keep F5 fun d hd => k6 d (by have := (sep5 d hd).1; omega)
    have N6 : Nw (h0.size + 1) h6 (f 10) (l ++ [n0]) := ⟨N5.own.keep fun d hd => k6 d (by have := N5.lo d hd; omega), N5.lo⟩
    rw [← take_at ht] at K6
    have fin : ∀ (f' : F) (h' : Heap), f' 0 = .pointer (some ⟨b, 0, none⟩) → f' 4 = .map (some h0.size) → f' 80 = tv → f' 81 = I (g.to n0).length → f' 82 = I i → CM h' h0.size (fun k => if k = t then c5 t - 1 else c5 k) → OwnO h' (f' 9) 41 ((if c5 t - 1 = 0 then insR free5 t else free5).map R) → (∀ d, blkOf (f' 9) = some d → h0.size < d ∧ blkOf (f' 10) ≠ some d) → Nw (h0.size + 1) h' (f' 10) (l ++ [n0]) → Old h0.size h0 h' → order_c6 Q2 f' h' := by
      intro f' h' g0 g4 g80 g81 g82 M' F' sep' N' O'
      unfold order_c6
      simp only [g82, ops P]
      exact on2 _ _ hil ⟨_, _, g0, g4, g80, g81, congrArg _ (wInc (by omega)), K6, M', F', sep', N', O'⟩
    have hflen := K5.len
    by_cases hz : c5 t - 1 = 0
    · rw [if_pos hz] at fin
      simp only [decide_eq_true hz, if_true]
      have FR6 : Rs h6.size h6 (f 9) free5 := ⟨OwnO.sl F6, fun c hc => OwnO.lt F6 hc⟩
      refine run_callF hb51 ((bsearch_spec FR6 (by omega) K5.sorted t).mono ?_)
      rintro _ _ ⟨rfl, p', cc, rfl, hp1, hp2, hp3⟩
      simp only [ops P]
      refine run_buildSlice1 eRef rfl ?_
      rename_i h6
      have hp7 : ∀ d, d < h6.size → (h6.push (.cells #[R t] 41))[d]? = h6[d]? := fun d hd => get_push_old _ _ hd
      have hbx : (h6.push (.cells #[R t] 41))[h6.size]? = some (.cells #[R t] 41 (0, 0)) := get_push_new _ _
      have hs7 : (h6.push (.cells #[R t] 41)).size = h6.size + 1 := by simp
      generalize h6.push (.cells #[R t] 41) = h7 at *
      have F7 : OwnO h7 (f 9) 41 (free5.map R) := OwnO.keep F6 fun d hd => hp7 d (OwnO.lt F6 hd)
      refine run_callF hb52 ((insert_spec F7 (by omega) hp1 hbx (fun d hd e => by have := OwnO.lt F6 hd; omega)).mono ?_)
      rintro v8 h8 ⟨F8, C8, b8⟩
      rw [insR_at hp1 hp2 hp3] at F8
      have q8 := C8.size
      have hlo6 : ∀ d, blkOf (f 10) = some d → d < h6.size := fun d hd => N6.own.lt hd
      have k8 : ∀ d, d < h6.size → blkOf (f 9) ≠ some d → h8[d]? = h6[d]? := fun d hd hne => by rw [C8.get d (by omega) hne, hp7 d hd]
      refine fin _ h8 f0 f4 f80 f81 f82 (M6.keep (k8 _ (by omega) fun e => by have := (sep5 _ e).1; omega)) F8 (fun d hd => ?_) ⟨N6.own.keep fun d hd => k8 d (hlo6 d hd) fun e => (sep5 d e).2 hd, N6.lo⟩ ⟨by omega, fun d hd => by rw [k8 d (by omega) (fun e => by have := (sep5 _ e).1; omega), O6.get d hd]⟩
      rcases b8 d hd with h | h
      · exact sep5 d h
      · exact ⟨by omega, fun e => by have := hlo6 d e; omega⟩
    · rw [if_neg hz] at fin
      simp only [decide_eq_false hz, bb, if_false]
      exact fin _ h6 f0 f4 f80 f81 f82 M6 F6 sep5 N6 O6
end Go.Proofs.G
