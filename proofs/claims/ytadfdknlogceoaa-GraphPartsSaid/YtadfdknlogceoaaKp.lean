import Derived.Test.YtadfdknlogceoaaKo
set_option linter.all false
open Go Go.Hv
set_option maxRecDepth 100000
namespace Go.Proofs.G
theorem hb50 : hasBody P 50 = true := by kernel_rfl
theorem hb55 : hasBody P 55 = true := by kernel_rfl
theorem hb20 : hasBody P 20 = true := by kernel_rfl
def cmpN (a b : Nat) : Int := if a < b then -1 else if b < a then 1 else 0
def cmpL : List Nat → List Nat → Int
  | [], [] => 0
  | [], _ :: _ => -1
  | _ :: _, [] => 1
  | x :: xs, y :: ys => if cmpN x y = 0 then cmpL xs ys else cmpN x y
theorem cmpCompare_spec (x y : Nat) (h : Heap) : HCalls P 50 #[R x, R y] h fun u h' => u = .int .i64 (cmpN x y) ∧ h' = h := by
  refine cmpCompare_ok ?_
  unfold cmpCompare_c0
  simp only [fr]
  refine run_callF hb77 ((cisNaN_spec x h).mono ?_)
  rintro _ _ ⟨rfl, rfl⟩
  refine run_callF hb77 ((cisNaN_spec y _).mono ?_)
  rintro _ _ ⟨rfl, rfl⟩
  simp only [ops P, bb, if_false, lt_R]
  by_cases h1 : x < y
  · simp only [decide_eq_true h1, if_true]
    refine post_ret1 ⟨?_, rfl⟩
    rw [show cmpN x y = -1 by simp [cmpN, h1]]; rfl
  · simp only [decide_eq_false h1, bb, if_false]
    by_cases h2 : y < x
    · simp only [decide_eq_true h2, if_true]
      refine post_ret1 ⟨?_, rfl⟩
      rw [show cmpN x y = 1 by simp [cmpN, h1, h2]]; rfl
    · simp only [decide_eq_false h2, bb, if_false]
      refine post_ret1 ⟨?_, rfl⟩
      rw [show cmpN x y = 0 by simp [cmpN, h1, h2]]; rfl
theorem neZ (z : Int) : (z != 0) = !decide (z = 0) := by by_cases h : z = 0 <;> simp [h]
/-- slices.Compare -/
theorem compare_spec {h0 : Heap} {n m : Nat} {v w : Value} {a b : List Nat} (A : Rs n h0 v a) (B : Rs m h0 w b) (ha : a.length < 4611686018427387904) (hb : b.length < 4611686018427387904) :
    HCalls P 55 #[v, w] h0 fun u h' => u = .int .i64 (cmpL a b) ∧ h' = h0 := by
  refine compare_ok ?_
  unfold compare_c0
  simp only [fr, (A.len false).1]
  refine lp_up a.length (fun j f h => f 0 = v ∧ f 1 = w ∧ f 9 = v ∧ f 10 = I a.length ∧ f 11 = I j ∧ j ≤ b.length ∧ cmpL a b = cmpL (a.drop j) (b.drop j) ∧ h = h0) ⟨rfl, rfl, rfl, rfl, rfl, Nat.zero_le _, by simp, rfl⟩ ?_
  rintro j f h Q' hj ⟨f0, f1, f9, f10, f11, hjb, hc, rfl⟩ on out
  unfold compare_L2
  simp only [f0, f1, f9, f10, f11, ops P, lt_R]
  by_cases hja : j < a.length
  · obtain ⟨x, hx⟩ : ∃ x, a[j]? = some x := ⟨_, List.getElem?_eq_getElem hja⟩
    obtain ⟨q, a1, _, a2, _, a4⟩ := A.at hx .i64
    have da : a.drop j = x :: a.drop (j + 1) := by
      rw [List.drop_eq_getElem_cons hja]; congr 1
      rw [List.getElem?_eq_getElem hja] at hx; simpa using hx
    rw [if_pos (by simpa using hja), a1, load_run o41 a2, (B.len false).1]
    simp only [ops P, le_R]
    by_cases hjb' : j < b.length
    · obtain ⟨y, hy⟩ : ∃ y, b[j]? = some y := ⟨_, List.getElem?_eq_getElem hjb'⟩
      obtain ⟨q', b1, _, b2, _, b4⟩ := B.at hy .i64
      have db : b.drop j = y :: b.drop (j + 1) := by
        rw [List.drop_eq_getElem_cons hjb']; congr 1
        rw [List.getElem?_eq_getElem hjb'] at hy; simpa using hy
      rw [if_neg (by simpa using hjb'), b1, load_run o41 b2]
      refine run_callF hb50 ((cmpCompare_spec x y h).mono ?_)
      rintro _ _ ⟨rfl, rfl⟩
      simp only [ops P, neZ]
      rw [da, db] at hc
      by_cases hz : cmpN x y = 0
      · simp only [decide_eq_true hz, bb, if_false]
        refine on _ _ hja ⟨f0, f1, f9, f10, congrArg _ (wInc (by omega)), by omega, ?_, rfl⟩
        rw [hc]; show (if cmpN x y = 0 then _ else _) = _; rw [if_pos hz]
      · simp only [decide_eq_false hz, bb, if_true]
        refine out _ _ _ (by simp) ?_
        simp only [ex]
        refine post_ret1 ⟨?_, rfl⟩
        rw [hc]; show _ = Value.int .i64 (if cmpN x y = 0 then _ else _); rw [if_neg hz]; rfl
    · rw [if_pos (by simpa using hjb')]
      refine out _ _ _ (by simp) ?_
      simp only [ex]
      refine post_ret1 ⟨?_, rfl⟩
      have db : b.drop j = [] := List.drop_eq_nil_of_le (by omega)
      rw [hc, da, db]; rfl
  · rw [if_neg (by simpa using hja)]
    refine out _ _ _ (by simp) ?_
    simp only [ex]
    unfold compare_c1
    simp only [rdU, reduceIte, Nat.reduceEqDiff, f0, f1, (A.len false).1, (B.len false).1, ops P, lt_R]
    have ea : a.drop j = [] := List.drop_eq_nil_of_le (by omega)
    rw [ea] at hc
    by_cases hl : a.length < b.length
    · rw [if_pos (by simpa using hl)]
      refine post_ret1 ⟨?_, rfl⟩
      have db : b.drop j = b[j] :: b.drop (j + 1) := List.drop_eq_getElem_cons (by omega)
      rw [hc, db]; rfl
    · rw [if_neg (by simpa using hl)]
      refine post_ret1 ⟨?_, rfl⟩
      rw [hc, List.drop_eq_nil_of_le (by omega)]; rfl
/-- all but the last -/
theorem Nw.init {n : Nat} {h : Heap} {v : Value} {l : List Nat} (N : Nw n h v l) (hne : l ≠ []) : ∃ w, (∀ K h', run P (.slice 22 v none (some (I (l.length - 1))) none) K h' = K w h') ∧ Sl h w (l.dropLast.map R) := by
  have hpos : 0 < l.length := List.length_pos_iff.2 hne
  rcases N.own with ⟨_, h0⟩ | ⟨b, cap, rfl, r⟩
  · exact absurd (by simpa using h0) hne
  · have hcap : l.length ≤ cap := by have := r.le; simpa using this
    refine ⟨.slice (some ⟨b, 0, none⟩) (l.length - 1) cap, fun K h' => ?_, ?_⟩
    · have := ans_slice (P := P) s22 (ao := some ⟨b, 0, none⟩) (n := (l.map R).length) (c := cap) (lo := none) (hi := some (I (l.length - 1))) (l := 0) (m := l.length - 1) (.inl ⟨rfl, rfl⟩) (.inr ⟨_, rfl⟩) (by omega) (by omega) (h := h')
      rw [this.run, if_neg (by omega), Option.map_some, Addr.add_add0]
      simp
    · have := (r.take (l.length - 1)).sl
      rw [List.length_take, List.length_map, Nat.min_eq_left (by omega)] at this
      rw [List.dropLast_eq_take, List.map_take]
      exact this
/-- the better one of two rings -/
def ringB (r : List Nat) : Option (List Nat) → Option (List Nat)
  | none => some r
  | some b => if r.length < b.length ∨ (r.length = b.length ∧ cmpL r b < 0) then some r else some b
/-- one ring more -/
def ringS (g : Gr) (L : List (Nat × Nat)) (n : Nat) (best : Option (List Nat)) (t : Nat) : Option (List Nat) :=
  match dOf L t with
  | none => best
  | some d => ringB (n :: (pathF g L d [t]).dropLast) best
def ringN (g : Gr) (best : Option (List Nat)) (n : Nat) : Option (List Nat) := (g.to n).foldl (ringS g (farL (trn g) [n] 0) n) best
/-- Ring, plainly -/
def ringF (g : Gr) : Option (List Nat) := g.N.foldl (ringN g) none
def BestV (n : Nat) (h : Heap) (v : Value) : Option (List Nat) → Prop
  | none => v = .slice none 0 0
  | some l => Nw n h v l ∧ l ≠ [] ∧ l.length ≤ 200000
theorem BestV.keep {n : Nat} {h h' : Heap} {v : Value} {o : Option (List Nat)} (B : BestV n h v o) (O : Old h.size h h') : BestV n h' v o := by
  cases o with
  | none => exact B
  | some l => exact ⟨B.1.keep O (Nat.le_refl _), B.2⟩
theorem BestV.mono {n m : Nat} {h : Heap} {v : Value} {o : Option (List Nat)} (B : BestV n h v o) (hm : m ≤ n) : BestV m h v o := by
  cases o with
  | none => exact B
  | some l => exact ⟨B.1.mono hm, B.2⟩
theorem pathF_len {g : Gr} {L : List (Nat × Nat)} : ∀ (k : Nat) (acc : List Nat), (pathF g L k acc).length ≤ acc.length + k
  | 0, acc => by simp [pathF]
  | k + 1, acc => by
    rw [pathF]
    split
    · rename_i t _
      have := pathF_len (g := g) (L := L) k (acc ++ [t])
      refine Nat.le_trans this ?_
      simp; omega
    · have := pathF_len (g := g) (L := L) k acc
      omega
theorem Nw.ptr {n : Nat} {h : Heap} {v : Value} {l : List Nat} (N : Nw n h v l) (hne : l ≠ []) : ∃ b cap, v = .slice (some ⟨b, 0, none⟩) l.length cap := by
  rcases N.own with ⟨_, h0⟩ | ⟨b, cap, rfl, _⟩
  · exact absurd (by simpa using h0) hne
  · exact ⟨b, cap, by simp⟩
theorem ring_spec {n : Nat} {h0 : Heap} {p : Value} {g : Gr} (G : GR n h0 p g) (w : g.WF) (hn : n ≤ h0.size) :
    HCalls P 20 #[p] h0 fun v h' => Old h0.size h0 h' ∧ ∃ l, v = .tuple #[l, .bool (ringF g).isSome] ∧ BestV h0.size h' l (ringF g) := by
  refine ring_ok ?_
  unfold ring_c0
  simp only [fr]
  refine run_callF hb33 ((turned_spec G w (by omega)).mono ?_)
  rintro _ h1 ⟨O1, bt, vv, b1, b2, es, hs, rfl, GT⟩
  have q1 := O1.size
  have GTr : GR h1.size h1 (.pointer (some ⟨bt, 0, none⟩)) (trn g) := ⟨_, _, _, _, _, _, rfl, GT.ga⟩
  have G1 := (G.keep (h' := h1) fun c hc => O1.get c (by omega)).mono (m := h1.size) (by omega)
  obtain ⟨b, nv, c1, c2, es', hs', rfl, A⟩ := G1
  simp only [ops P, (fld P f75_0).1, load_run o22 A.c0, (A.nodes.len false).1]
  have hfew := w.few
  refine lp_up g.N.length (fun j f h => f 0 = .pointer (some ⟨b, 0, none⟩) ∧ f 5 = .pointer (some ⟨bt, 0, none⟩) ∧ f 18 = nv ∧ f 19 = I g.N.length ∧ f 20 = I j ∧ Old h1.size h1 h ∧ BestV h1.size h (f 4) ((g.N.take j).foldl (ringN g) none)) ⟨rfl, rfl, rfl, rfl, rfl, Old.refl _ _, rfl⟩ ?_
  rintro j f h Q' hj ⟨f0, f5, f18, f19, f20, O, B⟩ on out
  unfold ring_L2
  simp only [f0, f5, f18, f19, f20, ops P, lt_R]
  have q := O.size
  by_cases hjl : j < g.N.length
  rotate_left
  · rw [if_neg (by simpa using hjl)]
    refine out _ _ _ (by simp) ?_
    simp only [ex]
    unfold ring_c1
    simp only [rdU, reduceIte, Nat.reduceEqDiff]
    rw [List.take_of_length_le (by omega)] at B
    have OO : Old h0.size h0 h := O1.trans (O.mono q1)
    change BestV h1.size h (f 4) (ringF g) at B
    cases hrf : ringF g with
    | none =>
      rw [hrf] at B
      have B : f 4 = .slice none 0 0 := B
      rw [B, (neNil0 h).run]
      refine post_ret2 ⟨OO, .slice none 0 0, ?_, ?_⟩
      · simp [rdU, B]
      · exact rfl
    | some l =>
      rw [hrf] at B
      obtain ⟨bb0, cp, e⟩ := B.1.ptr B.2.1
      rw [e, (neNil1 _ _ _ h).run]
      refine post_ret2 ⟨OO, f 4, ?_, ?_⟩
      · simp [rdU, e]
      · exact ⟨B.1.mono (by omega), B.2⟩
  · obtain ⟨x, hx⟩ : ∃ x, g.N[j]? = some x := ⟨_, List.getElem?_eq_getElem hjl⟩
    have hxN : x ∈ g.N := List.mem_of_getElem? hx
    have A' := A.keep (h' := h) fun c hc => O.get c hc
    obtain ⟨q', a1, _, a2, _, _⟩ := A'.nodes.at hx .i64
    rw [if_pos (by simpa using hjl), a1, load_run o41 a2]
    refine run_buildSlice1 eRef rfl ?_
    have O2 : Old h.size h (h.push (.cells #[R x] 41)) := old_push _ _ (Nat.le_refl _)
    have S2 : Rs (h.push (.cells #[R x] 41)).size (h.push (.cells #[R x] 41)) (.slice (some ⟨h.size, 0, none⟩) 1 1) [x] := ⟨Row.sl (Row.mk' (get_push_new _ _)), fun c hc => by cases hc; simp⟩
    have q2 := O2.size
    generalize h.push (.cells #[R x] 41) = h2 at *
    have wt := tRn w
    have hxt : ∀ y ∈ [x], y ∈ (trn g).N := fun y hy => by simp at hy; subst hy; exact srt_mem.2 hxN
    have GT2 := (GTr.keep (h' := h2) fun c hc => by rw [O2.get c (by omega), O.get c hc]).mono (m := h2.size) (by omega)
    refine run_callF hb53 ((far_spec (n0 := h2.size) GT2 wt S2 hxt (by simp) 0 (Nat.le_refl _)).mono ?_)
    rintro _ h3 ⟨bd, rfl, hlo, M, O3⟩
    have q3 := O3.size
    have O13 : Old h1.size h1 h3 := O.trans ((O2.mono (by omega)).trans (O3.mono (by omega)))
    have A3 := A.keep (h' := h3) fun c hc => O13.get c hc
    obtain ⟨tv, t1, _, T⟩ := A3.look x
    simp only [ops P, (fld P f75_1).1, load_run o72 A3.c1, t1, (T.len false).1]
    have B3 : BestV h1.size h3 (f 4) ((g.N.take j).foldl (ringN g) none) := B.keep ((O2).trans (O3.mono (by omega)))
    have hto := w.fewt x
    generalize hL : farL (trn g) [x] 0 = L at *
    have hdL : ∀ k d, dOf L k = some d → d ≤ 100000 := by rw [← hL]; exact dOf_far wt hxt 0
    refine lp_up (g.to x).length (fun i f h => f 0 = .pointer (some ⟨b, 0, none⟩) ∧ f 5 = .pointer (some ⟨bt, 0, none⟩) ∧ f 18 = nv ∧ f 19 = I g.N.length ∧ f 20 = I j ∧ f 7 = R x ∧ f 8 = .map (some bd) ∧ f 33 = tv ∧ f 34 = I (g.to x).length ∧ f 35 = I i ∧ Old h3.size h3 h ∧ BestV h1.size h (f 4) (((g.to x).take i).foldl (ringS g L x) ((g.N.take j).foldl (ringN g) none))) ⟨f0, f5, f18, f19, f20, rfl, rfl, rfl, rfl, rfl, Old.refl _ _, B3⟩ ?_
    rintro i f h4 Q2 hi ⟨f0, f5, f18, f19, f20, f7, f8, f33, f34, f35, O4, B4⟩ on2 out2
    have q4 := O4.size
    unfold ring_L4
    simp only [f0, f7, f8, f33, f34, f35, ops P, lt_R]
    by_cases hil : i < (g.to x).length
    rotate_left
    · rw [if_neg (by simpa using hil)]
      refine out2 _ _ _ (by simp) ?_
      simp only [ex]
      unfold ring_c3
      simp only [rdU, reduceIte, Nat.reduceEqDiff, f20, ops P]
      refine on _ _ hjl ⟨f0, f5, f18, f19, congrArg _ (wInc (by omega)), O13.trans (O4.mono (by omega)), ?_⟩
      rw [List.take_of_length_le (show (g.to x).length ≤ i by omega)] at B4
      rw [take_at hx, List.foldl_append]
      show BestV _ _ _ ((g.to x).foldl (ringS g (farL (trn g) [x] 0) x) _)
      rw [hL]; exact B4
    · obtain ⟨t, ht⟩ : ∃ t, (g.to x)[i]? = some t := ⟨_, List.getElem?_eq_getElem hil⟩
      have A4 := A.keep (h' := h4) fun c hc => by rw [O4.get c (by omega), O13.get c hc]
      have T4 := T.keep (h' := h4) fun c hc => O4.get c (by omega)
      have M4 : MapR h4 bd R (L.map fun p => (p.1, I p.2)) := M.keep (O4.get _ M.lt)
      obtain ⟨q', a1, _, a2, _, _⟩ := T4.at ht .i64
      rw [if_pos (by simpa using hil), a1, load_run o41 a2]
      refine run_callF hb54 ((path_spec ⟨b, nv, c1, c2, es', hs', rfl, A4⟩ w (by omega) M4 hdL t).mono ?_)
      rintro l h5 ⟨O5, hl⟩
      have q5 := O5.size
      have step : ∀ (f' : Hv.F) (h' : Heap), f' 0 = .pointer (some ⟨b, 0, none⟩) → f' 5 = .pointer (some ⟨bt, 0, none⟩) → f' 18 = nv → f' 19 = I g.N.length → f' 20 = I j → f' 7 = R x → f' 8 = .map (some bd) → f' 33 = tv → f' 34 = I (g.to x).length → f' 35 = I i → Old h4.size h4 h' →
          BestV h1.size h' (f' 4) (ringS g L x (((g.to x).take i).foldl (ringS g L x) ((g.N.take j).foldl (ringN g) none)) t) → ring_c5 Q2 f' h' := by
        intro f' h' g0 g5 g18 g19 g20 g7 g8 g33 g34 g35 O' B'
        unfold ring_c5
        simp only [g35, ops P]
        refine on2 _ _ hil ⟨g0, g5, g18, g19, g20, g7, g8, g33, g34, congrArg _ (wInc (by omega)), O4.trans (O'.mono q4), ?_⟩
        rw [take_at ht, List.foldl_append]
        exact B'
      generalize ((g.to x).take i).foldl (ringS g L x) ((g.N.take j).foldl (ringN g) none) = best at *
      cases hd : dOf L t with
      | none =>
        rw [hd] at hl
        subst hl
        rw [(eqNil0 h5).run]
        simp only [ops P, if_true]
        refine step _ _ f0 f5 f18 f19 f20 f7 f8 f33 f34 f35 O5 ?_
        unfold ringS; rw [hd]; exact B4.keep O5
      | some d =>
        rw [hd] at hl
        have hdd := hdL t d hd
        have hlen := pathF_len (g := g) (L := L) d [t]
        have hne : pathF g L d [t] ≠ [] := pathF_ne d _ (by simp)
        have hl : Nw h4.size h5 l (pathF g L d [t]) := hl
        have hS : ringS g L x best t = ringB (x :: (pathF g L d [t]).dropLast) best := by
          unfold ringS; rw [hd]
        rw [hS] at step
        generalize hW : pathF g L d [t] = W at *
        have hpos : 0 < W.length := List.length_pos_iff.2 hne
        simp only [List.length_cons, List.length_nil] at hlen
        obtain ⟨bl, cp, e⟩ := hl.ptr hne
        rw [e, (eqNil1 _ _ _ h5).run]
        simp only [ops P, bb, if_false]
        refine run_buildSlice1 eRef rfl ?_
        have O6 : Old h5.size h5 (h5.push (.cells #[R x] 41)) := old_push _ _ (Nat.le_refl _)
        have o6 : Own (h5.push (.cells #[R x] 41)) (.slice (some ⟨h5.size, 0, none⟩) 1 1) 41 ([x].map R) := .inr ⟨h5.size, 1, rfl, Row.mk' (get_push_new _ _)⟩
        have q6 := O6.size
        have q6' : (h5.push (.cells #[R x] 41)).size = h5.size + 1 := by simp
        generalize h5.push (.cells #[R x] 41) = h6 at *
        have hl6 : Nw h4.size h6 l W := hl.keep O6 (Nat.le_refl _)
        obtain ⟨w', w1, w2⟩ := hl6.init hne
        rw [← e, (hl6.rs.len false).1]
        simp only [ops P, wDec (show W.length < 9223372036854775808 by omega) hpos]
        rw [w1]
        refine run_append1 eRef o6 w2 (fun y hy => by obtain ⟨z, _, rfl⟩ := List.mem_map.1 hy; rfl) (by simp; omega) (by simp; omega) fun v7 h7 o7 C7 b7 => ?_
        have q7 := C7.size
        have O57 : Old h5.size h5 h7 := O6.chg C7 (by omega) fun c hc e => by
          have : h5.size = c := by simpa [blkOf] using e
          omega
        have O47 : Old h4.size h4 h7 := O5.trans (O57.mono (by omega))
        have N7 : Nw h1.size h7 v7 (x :: W.dropLast) := ⟨by simpa using o7, fun c hc => by
          rcases b7 c hc with h | h
          · have : h5.size = c := by simpa [blkOf] using h
            omega
          · omega⟩
        have hrl : (x :: W.dropLast).length ≤ 200000 := by simp; omega
        have hrn : x :: W.dropLast ≠ [] := by simp
        have B7 := B4.keep O47
        have L7 := N7.rs.len false
        cases best with
        | none =>
          have B7 : f 4 = .slice none 0 0 := B7
          rw [B7, (eqNil0 h7).run]
          simp only [ops P, bb, when_f, if_true]
          exact step _ _ f0 f5 f18 f19 f20 f7 f8 f33 f34 f35 O47 ⟨N7, hrn, hrl⟩
        | some bst =>
          obtain ⟨NB, hbn, hbl⟩ := B7
          obtain ⟨b9, cp9, e9⟩ := NB.ptr hbn
          have LB := NB.rs.len false
          rw [e9, (eqNil1 _ _ _ h7).run]
          simp only [ops P, bb, when_t, ← e9, L7.1, LB.1, lt_R, if_false]
          by_cases hlt : (x :: W.dropLast).length < bst.length
          · simp only [decide_eq_true hlt, if_true, bb, when_f, ops P]
            refine step _ _ f0 f5 f18 f19 f20 f7 f8 f33 f34 f35 O47 ?_
            show BestV h1.size h7 v7 (if _ then _ else _)
            rw [if_pos (.inl hlt)]; exact ⟨N7, hrn, hrl⟩
          simp only [decide_eq_false hlt, bb, when_t, if_false, ops P, L7.1, LB.1, beq_R]
          by_cases heq : (x :: W.dropLast).length = bst.length
          rotate_left
          · simp only [decide_eq_false heq, bb, when_f, if_false, ops P]
            refine step _ _ f0 f5 f18 f19 f20 f7 f8 f33 f34 f35 O47 ?_
            show BestV h1.size h7 _ (if _ then _ else _)
            rw [if_neg (by omega)]; exact ⟨NB, hbn, hbl⟩
          simp only [decide_eq_true heq, bb, when_t, if_true]
          refine run_callF hb55 ((compare_spec N7.rs NB.rs (by omega) (by omega)).mono ?_)
          rintro _ _ ⟨rfl, rfl⟩
          simp only [ops P]
          by_cases hcm : cmpL (x :: W.dropLast) bst < 0
          · simp only [decide_eq_true hcm, if_true]
            refine step _ _ f0 f5 f18 f19 f20 f7 f8 f33 f34 f35 O47 ?_
            show BestV h1.size _ v7 (if _ then _ else _)
            rw [if_pos (.inr ⟨heq, hcm⟩)]; exact ⟨N7, hrn, hrl⟩
          · simp only [decide_eq_false hcm, bb, if_false]
            refine step _ _ f0 f5 f18 f19 f20 f7 f8 f33 f34 f35 O47 ?_
            show BestV h1.size _ _ (if _ then _ else _)
            rw [if_neg (by rintro (h | h); exact hlt h; exact hcm h.2)]; exact ⟨NB, hbn, hbl⟩
end Go.Proofs.G
open Go Go.Hv
set_option maxRecDepth 100000
namespace Go.Proofs.G
theorem hb25 : hasBody P 25 = true := by kernel_rfl
theorem fill57 (x t : Nat) : Instr.fill (fun i => some (i * 2, 2)) ((Array.range (1 * 2)).map fun i => (Value.agg #[R 0, R 0]).cells[i % (Value.agg #[R 0, R 0]).cells.size]!) [(0, Value.agg #[R x, R t])] = some #[R x, R t] := by kernel_rfl
def eCells (l : List (Nat × Nat)) : List Value := l.flatMap fun e => [R e.1, R e.2]
theorem eCells_len (l : List (Nat × Nat)) : (eCells l).length = l.length * 2 := by
  induction l with
  | nil => rfl
  | cons a l ih => show (R a.1 :: R a.2 :: eCells l).length = _; simp only [List.length_cons, ih]; omega
theorem eCells_get : ∀ (l : List (Nat × Nat)) {i x y : Nat}, l[i]? = some (x, y) → (eCells l)[i * 2]? = some (R x) ∧ (eCells l)[i * 2 + 1]? = some (R y)
  | [], i, x, y, h => by simp at h
  | a :: l, 0, x, y, h => by
    simp only [List.getElem?_cons_zero, Option.some.injEq] at h
    subst h; exact ⟨rfl, rfl⟩
  | a :: l, i + 1, x, y, h => by
    have := eCells_get l (i := i) (by simpa using h)
    show (R a.1 :: R a.2 :: eCells l)[(i + 1) * 2]? = _ ∧ (R a.1 :: R a.2 :: eCells l)[(i + 1) * 2 + 1]? = _
    rw [show (i + 1) * 2 = i * 2 + 1 + 1 by omega]
    simpa using this
/-- new memory: the slice v holds the edges l -/
structure NwE (n : Nat) (h : Heap) (v : Value) (l : List (Nat × Nat)) : Prop where
  own : OwnN h v 57 2 l.length (eCells l)
  lo : ∀ c, blkOf v = some c → n ≤ c
theorem OwnN.keep {h h' : Heap} {v : Value} {e : TypeId} {sz n : Nat} {xs : List Value} (o : OwnN h v e sz n xs) (hk : ∀ b, blkOf v = some b → h'[b]? = h[b]?) : OwnN h' v e sz n xs := by
  rcases o with h0 | ⟨b, cap, rfl, r, h2⟩
  · exact .inl h0
  · exact .inr ⟨b, cap, rfl, r.keep (hk b rfl), h2⟩
theorem OwnN.lt {h : Heap} {v : Value} {e : TypeId} {sz n : Nat} {xs : List Value} (o : OwnN h v e sz n xs) {b : Nat} (hb : blkOf v = some b) : b < h.size := by
  rcases o with ⟨rfl, _⟩ | ⟨b', cap, rfl, r, _⟩
  · cases hb
  · cases hb; exact r.lt
theorem NwE.keep {n m : Nat} {h h' : Heap} {v : Value} {l : List (Nat × Nat)} (w : NwE n h v l) (O : Old m h h') (hm : h.size ≤ m) : NwE n h' v l :=
  ⟨OwnN.keep w.own fun b hb => O.get b (by have := OwnN.lt w.own hb; omega), w.lo⟩
theorem NwE.mono {n m : Nat} {h : Heap} {v : Value} {l : List (Nat × Nat)} (w : NwE n h v l) (hm : m ≤ n) : NwE m h v l := ⟨w.own, fun c hc => by have := w.lo c hc; omega⟩
theorem NwE.ed {n : Nat} {h : Heap} {v : Value} {l : List (Nat × Nat)} (w : NwE n h v l) : Ed h.size h v l := by
  rcases w.own with ⟨rfl, h0, h1⟩ | ⟨b, cap, rfl, r, h2, h3⟩
  · refine ⟨⟨none, 0, ?_, fun a ha => (by cases ha), fun i x y hi => ?_⟩⟩
    · rw [h0]
    · have : i < l.length := (List.getElem?_eq_some_iff.1 hi).1
      omega
  · refine ⟨⟨some ⟨b, 0, none⟩, cap, rfl, fun a ha => ?_, fun i x y hi => ⟨_, rfl, ?_, ?_⟩⟩⟩
    · cases ha; exact ⟨rfl, r.lt⟩
    · have := r.cell (eCells_get l hi).1
      simpa using this
    · have := r.cell (eCells_get l hi).2
      simpa using this
/-- Edges, plainly -/
def edF (g : Gr) : List (Nat × Nat) := g.N.flatMap fun n => (g.to n).map fun t => (n, t)
theorem edF_mem {g : Gr} {x y : Nat} : (x, y) ∈ edF g ↔ x ∈ g.N ∧ y ∈ g.to x := by
  unfold edF
  simp only [List.mem_flatMap, List.mem_map, Prod.mk.injEq]
  constructor
  · rintro ⟨n, hn, t, ht, rfl, rfl⟩; exact ⟨hn, ht⟩
  · rintro ⟨h1, h2⟩; exact ⟨x, h1, y, h2, rfl, rfl⟩
theorem edT_len (g : Gr) (w : g.WF) (l : List Nat) : (l.flatMap fun n => (g.to n).map fun t => (n, t)).length ≤ l.length * 4096 := by
  induction l with
  | nil => simp
  | cons a l ih =>
    rw [List.flatMap_cons, List.length_append, List.length_map, List.length_cons]
    have := w.fewt a
    omega
theorem edges_spec {n : Nat} {h0 : Heap} {p : Value} {g : Gr} (G : GR n h0 p g) (w : g.WF) (hn : n ≤ h0.size) :
    HCalls P 25 #[p] h0 fun v h' => Old h0.size h0 h' ∧ NwE h0.size h' v (edF g) := by
  obtain ⟨b, nv, c1, c2, es, hs, rfl, A⟩ := G
  refine edges_ok ?_
  unfold edges_c0
  simp only [fr, ops P, (fld P f75_0).1, load_run o22 A.c0, (A.nodes.len false).1]
  have hfew := w.few
  refine lp_up g.N.length (fun j f h => f 0 = .pointer (some ⟨b, 0, none⟩) ∧ f 11 = nv ∧ f 12 = I g.N.length ∧ f 13 = I j ∧ Old h0.size h0 h ∧ NwE h0.size h (f 3) ((g.N.take j).flatMap fun n => (g.to n).map fun t => (n, t))) ⟨rfl, rfl, rfl, rfl, Old.refl _ _, ⟨.inl ⟨rfl, rfl, rfl⟩, fun c hc => by cases hc⟩⟩ ?_
  rintro j f h Q' hj ⟨f0, f11, f12, f13, O, B⟩ on out
  unfold edges_L2
  simp only [f0, f11, f12, f13, ops P, lt_R]
  have q := O.size
  by_cases hjl : j < g.N.length
  rotate_left
  · rw [if_neg (by simpa using hjl)]
    refine out _ _ _ (by simp) ?_
    simp only [ex]
    unfold edges_c1
    rw [List.take_of_length_le (by omega)] at B
    exact post_ret1 ⟨O, B⟩
  · obtain ⟨x, hx⟩ : ∃ x, g.N[j]? = some x := ⟨_, List.getElem?_eq_getElem hjl⟩
    have A' := A.keep (h' := h) fun c hc => O.get c (by omega)
    obtain ⟨q', a1, _, a2, _, _⟩ := A'.nodes.at hx .i64
    obtain ⟨tv, t1, _, T⟩ := A'.look x
    rw [if_pos (by simpa using hjl), a1, load_run o41 a2]
    simp only [ops P, (fld P f75_1).1, load_run o72 A'.c1, t1, (T.len false).1]
    have hto := w.fewt x
    have hbase := edT_len g w (g.N.take j)
    rw [List.length_take] at hbase
    refine lp_up (g.to x).length (fun i f h => f 0 = .pointer (some ⟨b, 0, none⟩) ∧ f 11 = nv ∧ f 12 = I g.N.length ∧ f 13 = I j ∧ f 5 = R x ∧ f 22 = tv ∧ f 23 = I (g.to x).length ∧ f 24 = I i ∧ Old h0.size h0 h ∧ NwE h0.size h (f 3) (((g.N.take j).flatMap fun n => (g.to n).map fun t => (n, t)) ++ ((g.to x).take i).map fun t => (x, t))) ⟨f0, f11, f12, f13, rfl, rfl, rfl, rfl, O, by show NwE _ _ (f 3) _; simpa using B⟩ ?_
    rintro i f h4 Q2 hi ⟨f0, f11, f12, f13, f5, f22, f23, f24, O4, B4⟩ on2 out2
    have q4 := O4.size
    unfold edges_L4
    simp only [f0, f5, f22, f23, f24, ops P, lt_R]
    by_cases hil : i < (g.to x).length
    rotate_left
    · rw [if_neg (by simpa using hil)]
      refine out2 _ _ _ (by simp) ?_
      simp only [ex]
      unfold edges_c3
      simp only [rdU, reduceIte, Nat.reduceEqDiff, f13, ops P]
      refine on _ _ hjl ⟨f0, f11, f12, congrArg _ (wInc (by omega)), O4, ?_⟩
      rw [List.take_of_length_le (show (g.to x).length ≤ i by omega)] at B4
      rw [take_at hx, List.flatMap_append]
      show NwE _ _ (f 3) _
      simpa using B4
    · obtain ⟨t, ht⟩ : ∃ t, (g.to x)[i]? = some t := ⟨_, List.getElem?_eq_getElem hil⟩
      obtain ⟨q', a1, _, a2, _, a4⟩ := T.at ht .i64
      rw [if_pos (by simpa using hil), a1, load_run o41 (show cell h4 q' = _ from (by
        have : h4[q'.block]? = h[q'.block]? := by rw [O4.get _ (by omega), O.get _ (by omega)]
        unfold cell; rw [this]; exact a2))]
      rw [(build57 x t h4).run]
      generalize hb : ((g.N.take j).flatMap fun n => (g.to n).map fun t => (n, t)) = base at *
      refine run_buildSlice eEdge (cells := #[R x, R t]) (by omega) (by omega) (fill57 x t) ?_
      have o5 : OwnN (h4.push (.cells #[R x, R t] 57)) (f 3) 57 2 _ _ := OwnN.keep B4.own fun c hc => get_push_old _ _ (OwnN.lt B4.own hc)
      have s5 : SlN (h4.push (.cells #[R x, R t] 57)) (.slice (some ⟨h4.size, 0, none⟩) 1 1) 2 1 [R x, R t] := by
        refine ⟨some ⟨h4.size, 0, none⟩, 1, rfl, rfl, Nat.le_refl _, fun i v hi => ⟨_, rfl, ?_⟩⟩
        have r : Row (h4.push (.cells #[R x, R t] 57)) h4.size 57 2 [R x, R t] := Row.mk' (get_push_new _ _)
        have := r.cell hi
        rw [Addr.add_add0, Nat.zero_add]; exact this
      have hlen : (base ++ ((g.to x).take i).map fun t => (x, t)).length ≤ 20000000 := by
        rw [List.length_append, List.length_map, List.length_take]; omega
      have hc4 : ∀ y ∈ [R x, R t], oneC y = true := by intro y hy; simp at hy; rcases hy with rfl | rfl <;> rfl
      refine run_append eEdge o5 s5 hc4 (by omega) (by omega) fun v' h' o' C' b' _ => ?_
      try simp only [ops P]
      have O4' : Old h0.size h0 (h4.push (.cells #[R x, R t] 57)) := O4.trans (old_push _ _ q4)
      refine on2 _ _ hil ⟨f0, f11, f12, f13, f5, f22, f23, congrArg _ (wInc (by omega)), O4'.chg C' (by simp; omega) fun c hc e => by have := B4.lo c e; omega, ?_⟩
      have el : base ++ ((g.to x).take (i + 1)).map (fun t => (x, t)) = (base ++ ((g.to x).take i).map fun t => (x, t)) ++ [(x, t)] := by
        rw [take_at ht, List.map_append, List.append_assoc]; rfl
      rw [el]
      refine ⟨?_, fun c hc => ?_⟩
      · rw [List.length_append (bs := [(x, t)])]
        have : eCells (base ++ ((g.to x).take i).map (fun t => (x, t)) ++ [(x, t)]) = eCells (base ++ ((g.to x).take i).map fun t => (x, t)) ++ [R x, R t] := by
          unfold eCells; rw [List.flatMap_append]; rfl
        rw [this]; exact o'
      · rcases b' c hc with h | h
        · exact B4.lo c h
        · simp at h; omega
end Go.Proofs.G
namespace Go.Proofs.G
/-- deep, plainly: those entered (in turn), those left (in turn); k: how deep at most -/
def deepF (g : Gr) : Nat → List Nat → List Nat → List Nat × List Nat
  | 0, _, e => (e, [])
  | k + 1, fr, e => fr.foldl (fun (s : List Nat × List Nat) n => if n ∈ s.1 then s else ((deepF g k (g.to n) (s.1 ++ [n])).1, s.2 ++ (deepF g k (g.to n) (s.1 ++ [n])).2 ++ [n])) (e, [])
/-- .. one more -/
def deepS (g : Gr) (k : Nat) (s : List Nat × List Nat) (n : Nat) : List Nat × List Nat :=
  if n ∈ s.1 then s else ((deepF g k (g.to n) (s.1 ++ [n])).1, s.2 ++ (deepF g k (g.to n) (s.1 ++ [n])).2 ++ [n])
theorem deepF_succ (g : Gr) (k : Nat) (fr e : List Nat) : deepF g (k + 1) fr e = fr.foldl (deepS g k) (e, []) := rfl
/-- those still to be entered -/
def freeN (g : Gr) (e : List Nat) : Nat := (g.N.filter fun n => !decide (n ∈ e)).length
/-- what holds of what deep does -/
structure DeepOk (g : Gr) (e : List Nat) (r : List Nat × List Nat) : Prop where
  nodup : r.1.Nodup
  sub : ∀ x ∈ r.1, x ∈ g.N
  pre : ∃ m, r.1 = e ++ m ∧ r.2.Perm m
theorem DeepOk.refl {g : Gr} {e : List Nat} (hn : e.Nodup) (hs : ∀ x ∈ e, x ∈ g.N) : DeepOk g e (e, []) := ⟨hn, hs, [], by simp, List.Perm.refl _⟩
theorem deepF_ok {g : Gr} (w : g.WF) : ∀ (k : Nat) (fr e : List Nat), (∀ x ∈ fr, x ∈ g.N) → e.Nodup → (∀ x ∈ e, x ∈ g.N) → DeepOk g e (deepF g k fr e)
  | 0, fr, e, hf, hn, hs => .refl hn hs
  | k + 1, fr, e, hf, hn, hs => by
    rw [deepF_succ]
    have key : ∀ (fr : List Nat) (s : List Nat × List Nat), (∀ x ∈ fr, x ∈ g.N) → DeepOk g e s → DeepOk g e (fr.foldl (deepS g k) s) := by
      intro fr
      induction fr with
      | nil => intro s _ h; exact h
      | cons n fr ih =>
        intro s hf h
        refine ih _ (fun x hx => hf x (List.mem_cons_of_mem _ hx)) ?_
        unfold deepS
        split
        · exact h
        · rename_i hne
          have hnn : (s.1 ++ [n]).Nodup := List.nodup_append.2 ⟨h.nodup, by simp, fun a ha b hb => by simp at hb; subst hb; intro e; subst e; exact hne ha⟩
          have hss : ∀ x ∈ s.1 ++ [n], x ∈ g.N := fun x hx => by
            rcases List.mem_append.1 hx with hx | hx
            · exact h.sub x hx
            · simp at hx; subst hx; exact hf x (by simp)
          have r := deepF_ok w k (g.to n) (s.1 ++ [n]) (fun x hx => w.sub _ _ hx) hnn hss
          obtain ⟨m, hm, hp⟩ := h.pre
          obtain ⟨m', hm', hp'⟩ := r.pre
          refine ⟨r.nodup, r.sub, m ++ ([n] ++ m'), ?_, ?_⟩
          · rw [hm', hm]; simp
          · rw [List.append_assoc]
            refine hp.append ?_
            exact (List.perm_append_comm).trans ((List.Perm.refl [n]).append hp')
    exact key fr _ hf (.refl hn hs)
theorem DeepOk.len {g : Gr} {e : List Nat} {r : List Nat × List Nat} (d : DeepOk g e r) : r.2.length + e.length = r.1.length := by
  obtain ⟨m, h1, h2⟩ := d.pre
  rw [h1, List.length_append, h2.length_eq]; omega
theorem freeN_le {g : Gr} {e e' : List Nat} (h : ∀ x ∈ e, x ∈ e') : freeN g e' ≤ freeN g e := by
  unfold freeN
  rw [← List.countP_eq_length_filter, ← List.countP_eq_length_filter]
  refine List.countP_mono_left fun x _ hx => ?_
  simp only [Bool.not_eq_true', decide_eq_false_iff_not] at hx ⊢
  exact fun h' => hx (h x h')
theorem countP_lt {α : Type} {p q : α → Bool} : ∀ {l : List α}, (∀ x ∈ l, p x = true → q x = true) → ∀ a ∈ l, q a = true → p a = false → l.countP p < l.countP q
  | [], _, a, h, _, _ => by cases h
  | b :: l, hi, a, ha, hq, hp => by
    rw [List.countP_cons, List.countP_cons]
    have hl : l.countP p ≤ l.countP q := List.countP_mono_left fun x hx => hi x (List.mem_cons_of_mem _ hx)
    rcases List.mem_cons.1 ha with rfl | ha
    · simp [hq, hp]; omega
    · have := countP_lt (fun x hx => hi x (List.mem_cons_of_mem _ hx)) a ha hq hp
      have : (if p b = true then 1 else 0) ≤ (if q b = true then 1 else 0 : Nat) := by
        by_cases h : p b = true
        · rw [if_pos h, if_pos (hi b (by simp) h)]; exact Nat.le_refl _
        · rw [if_neg h]; exact Nat.zero_le _
      omega
theorem freeN_lt {g : Gr} {e : List Nat} {n : Nat} (hn : n ∈ g.N) (he : n ∉ e) : freeN g (e ++ [n]) < freeN g e := by
  unfold freeN
  rw [← List.countP_eq_length_filter, ← List.countP_eq_length_filter]
  refine countP_lt (fun x _ hx => ?_) n hn (by simp [he]) (by simp)
  simp only [Bool.not_eq_true', decide_eq_false_iff_not, List.mem_append, not_or] at hx ⊢
  exact hx.1
end Go.Proofs.G
open Go Go.Hv
set_option maxRecDepth 100000
namespace Go.Proofs.G
theorem hb43 : hasBody P 43 = true := by kernel_rfl
theorem hb44 : hasBody P 44 = true := by kernel_rfl
theorem hb46 : hasBody P 46 = true := by kernel_rfl
/-- the variable in block bx holds a slice of one's own, beyond m -/
def Var (m bx : Nat) (acc : List Nat) (h : Heap) : Prop := ∃ v, h[bx]? = some (.cells #[v] 22 (0, 0)) ∧ Nw m h v acc
theorem Nw.one {n : Nat} {h : Heap} {v : Value} {l : List Nat} (N : Nw n h v l) : oneC v = true := Own.one N.own
/-- what is kept -/
def Kp (m bm bx : Nat) (h h' : Heap) : Prop := h.size ≤ h'.size ∧ ∀ c, c < m → c ≠ bm → c ≠ bx → h'[c]? = h[c]?
theorem Kp.refl {m bm bx : Nat} (h : Heap) : Kp m bm bx h h := ⟨Nat.le_refl _, fun _ _ _ _ => rfl⟩
theorem Kp.trans {m bm bx : Nat} {a b c : Heap} (x : Kp m bm bx a b) (y : Kp m bm bx b c) : Kp m bm bx a c := ⟨Nat.le_trans x.1 y.1, fun d h1 h2 h3 => (y.2 d h1 h2 h3).trans (x.2 d h1 h2 h3)⟩
theorem Old.kp {n m bm bx : Nat} {h h' : Heap} (O : Old n h h') (hm : m ≤ n) : Kp m bm bx h h' := ⟨O.size, fun c hc _ _ => O.get c (by omega)⟩
/-- one more is appended to the variable -/
theorem leave_core {m bx : Nat} (hx : bx < m) {h : Heap} {acc : List Nat} {x : Nat} (V : Var m bx acc h) (hl : acc.length ≤ 100000) (hm : m ≤ h.size) {K : Value → Value → Value → Value → Heap → Prop}
    (hk : ∀ a b c d h', Var m bx (acc ++ [x]) h' → (h.size ≤ h'.size ∧ ∀ c, c < m → c ≠ bx → h'[c]? = h[c]?) → K a b c d h') :
    run P (.load 22 (.pointer (some ⟨bx, 0, none⟩))) (fun v3 h => run P (.buildSlice 22 1 [(0, R x)]) (fun v5 h => run P (.builtin .append #[22, 22] 22 [false, false] [v3, v5]) (fun v6 h => run P (.store 22 (.pointer (some ⟨bx, 0, none⟩)) v6) (fun u h => K v3 v5 v6 u h) h) h) h) h := by
  obtain ⟨v, hv, N⟩ := V
  rw [load_run o22 (cell_at hv (v := v) rfl)]
  refine N.push x (by omega) hm fun u w h2 N2 k2 s2 b2 => ?_
  have hv2 : h2[bx]? = some (.cells #[v] 22 (0, 0)) := by rw [k2 bx (by omega) (fun e => by have := N.lo bx e; omega)]; exact hv
  refine Hv.run_store o22 N2.one (cell_at hv2 (v := v) rfl) (by simp [froz, hv2]) ?_
  refine hk _ _ _ _ _ ⟨w, ?_, N2.own.keep fun c hc => setC_get_ne _ _ _ ?_, N2.lo⟩ ⟨by rw [setC_size]; exact s2, fun c hc hne => ?_⟩
  · rw [setC_get _ _ hv2]; rfl
  · have := N2.lo c hc; simp; omega
  · rw [setC_get_ne _ _ _ (by simpa using hne), k2 c (by omega) (fun e => by have := N.lo c e; omega)]
theorem leave_spec {lf : Nat} (hlf : lf = 44 ∨ lf = 46) {m bx : Nat} (hx : bx < m) {h : Heap} {acc : List Nat} {x : Nat} (V : Var m bx acc h) (hl : acc.length ≤ 100000) (hm : m ≤ h.size) :
    HCalls P lf #[R x, .pointer (some ⟨bx, 0, none⟩)] h fun v h' => Var m bx (acc ++ [x]) h' ∧ h.size ≤ h'.size ∧ ∀ c, c < m → c ≠ bx → h'[c]? = h[c]? := by
  rcases hlf with rfl | rfl
  · refine partsf1_ok ?_
    unfold partsf1_c0
    simp only [fr]
    exact leave_core hx V hl hm fun a b c d h' V' k => post_end0 ⟨V', k.1, k.2⟩
  · refine partsf2_ok ?_
    unfold partsf2_c0
    simp only [fr]
    exact leave_core hx V hl hm fun a b c d h' V' k => post_end0 ⟨V', k.1, k.2⟩
theorem hbLf {lf : Nat} (hlf : lf = 44 ∨ lf = 46) : hasBody P lf = true := by rcases hlf with rfl | rfl; exact hb44; exact hb46
/-- a set of nodes as a map -/
abbrev bmap (e : List Nat) : List (Nat × Value) := e.map fun n => (n, .bool true)
theorem alook_bmap (e : List Nat) (k : Nat) : lkV (.bool false) (alook (bmap e) k) false = .bool (decide (k ∈ e)) := by
  cases h : alook (bmap e) k with
  | none =>
    have : k ∉ e := by have := alook_none.1 h; simpa using this
    simp [lkV, this]
  | some v =>
    have := alook_mem h
    simp only [bmap, List.mem_map, Prod.mk.injEq] at this
    obtain ⟨n, hn, rfl, rfl⟩ := this
    simp [lkV, hn]
theorem aset_bmap {e : List Nat} {k : Nat} (h : k ∉ e) : aset (bmap e) k (.bool true) = bmap (e ++ [k]) := by
  rw [aset_of_not_mem _ _ (by simpa using h)]; simp
theorem deep_spec {n m bm bx lf : Nat} {p : Value} {g : Gr} (w : g.WF) (hlf : lf = 44 ∨ lf = 46) (hnm : n ≤ bm) (hnx : n ≤ bx) (hbm : bm < m) (hbx : bx < m) (hne : bm ≠ bx) :
    ∀ (k : Nat) {h0 : Heap} {frv : Value} {fr e acc : List Nat}, freeN g e ≤ k → GR n h0 p g → Rs m h0 frv fr → (∀ c, blkOf frv = some c → c ≠ bm ∧ c ≠ bx) → fr.length ≤ 4096 → (∀ x ∈ fr, x ∈ g.N) → MapR h0 bm R (bmap e) → e.Nodup → (∀ x ∈ e, x ∈ g.N) → acc.length ≤ e.length → Var m bx acc h0 → m ≤ h0.size →
      HCalls P 43 #[p, frv, .map (some bm), .func (.func lf) #[] #[.pointer (some ⟨bx, 0, none⟩)]] h0 fun v h' => MapR h' bm R (bmap (deepF g (k + 1) fr e).1) ∧ Var m bx (acc ++ (deepF g (k + 1) fr e).2) h' ∧ Kp m bm bx h0 h' := by
  intro k
  induction k using Nat.strongRecOn with
  | _ k ih =>
    intro h0 frv fr e acc hk G S hsep hlen hfr M hen hes hacc V hm
    obtain ⟨b, nv, c1, c2, es, hs, rfl, A⟩ := G
    refine deep_ok ?_
    unfold deep_c0
    simp only [Hv.fr, (S.len false).1]
    have hfew := w.few
    refine lp_up fr.length (fun j f h => f 0 = .pointer (some ⟨b, 0, none⟩) ∧ f 2 = .map (some bm) ∧ f 3 = .func (.func lf) #[] #[.pointer (some ⟨bx, 0, none⟩)] ∧ f 10 = frv ∧ f 11 = I fr.length ∧ f 12 = I j ∧ MapR h bm R (bmap ((fr.take j).foldl (deepS g k) (e, [])).1) ∧ Var m bx (acc ++ ((fr.take j).foldl (deepS g k) (e, [])).2) h ∧ Kp m bm bx h0 h) ⟨rfl, rfl, rfl, rfl, rfl, rfl, M, by simpa using V, Kp.refl _⟩ ?_
    rintro j f h Q' hj ⟨f0, f2, f3, f10, f11, f12, M1, V1, K1⟩ on out
    unfold deep_L1
    simp only [f0, f2, f3, f10, f11, f12, ops P, lt_R]
    by_cases hjl : j < fr.length
    rotate_left
    · rw [if_neg (by simpa using hjl)]
      refine out _ _ _ (by simp) ?_
      simp only [ex]
      rw [List.take_of_length_le (by omega)] at M1 V1
      exact post_end0 ⟨M1, V1, K1⟩
    obtain ⟨x, hx⟩ : ∃ x, fr[j]? = some x := ⟨_, List.getElem?_eq_getElem hjl⟩
    have hxN : x ∈ g.N := hfr x (List.mem_of_getElem? hx)
    have kept : ∀ c, c < n → h[c]? = h0[c]? := fun c hc => K1.2 c (by omega) (by omega) (by omega)
    have A1 := A.keep (h' := h) kept
    obtain ⟨q', a1, _, a2, a3, a4⟩ := S.at hx .i64
    have hq := hsep _ a3
    rw [if_pos (by simpa using hjl), a1, load_run o41 (show cell h q' = _ from (by unfold cell; rw [K1.2 _ a4 hq.1 hq.2]; exact a2))]
    rw [(M1.lookup mBool kR x false).run, alook_bmap]
    simp only [ops P]
    have ok1 : DeepOk g e ((fr.take j).foldl (deepS g k) (e, [])) := by
      have := deepF_ok w (k + 1) (fr.take j) e (fun y hy => hfr y (List.mem_of_mem_take hy)) hen hes
      rwa [deepF_succ] at this
    have hstep : (fr.take (j + 1)).foldl (deepS g k) (e, []) = deepS g k ((fr.take j).foldl (deepS g k) (e, [])) x := by
      rw [take_at hx, List.foldl_append]; rfl
    have fin : ∀ (f' : Hv.F) (h' : Heap), f' 0 = .pointer (some ⟨b, 0, none⟩) → f' 2 = .map (some bm) → f' 3 = .func (.func lf) #[] #[.pointer (some ⟨bx, 0, none⟩)] → f' 10 = frv → f' 11 = I fr.length → f' 12 = I j →
        MapR h' bm R (bmap (deepS g k ((fr.take j).foldl (deepS g k) (e, [])) x).1) → Var m bx (acc ++ (deepS g k ((fr.take j).foldl (deepS g k) (e, [])) x).2) h' → Kp m bm bx h0 h' → deep_c2 Q' f' h' := by
      intro f' h' g0 g2 g3 g10 g11 g12 M' V' K'
      unfold deep_c2
      simp only [g12, ops P]
      rw [← hstep] at M' V'
      exact on _ _ hjl ⟨g0, g2, g3, g10, g11, congrArg _ (wInc (by omega)), M', V', K'⟩
    generalize (fr.take j).foldl (deepS g k) (e, []) = s at *
    by_cases hin : x ∈ s.1
    · simp only [decide_eq_true hin, bb, if_false]
      have es' : deepS g k s x = s := by unfold deepS; rw [if_pos hin]
      rw [es'] at fin
      exact fin _ _ f0 f2 f3 f10 f11 f12 M1 V1 K1
    simp only [decide_eq_false hin, bb, if_true]
    refine M1.update mBool kR x (.bool true) fun h2 M2 C2 s2 => ?_
    rw [aset_bmap hin] at M2
    have k2 : ∀ c, c ≠ bm → h2[c]? = h[c]? := fun c hc => by
      by_cases hcs : c < h.size
      · exact C2.get c hcs hc
      · rw [Array.getElem?_eq_none (by omega), Array.getElem?_eq_none (by omega)]
    have K2 : Kp m bm bx h0 h2 := K1.trans ⟨by omega, fun c _ h1 _ => k2 c h1⟩
    have V2 : Var m bx (acc ++ s.2) h2 := by
      obtain ⟨v, hv, N⟩ := V1
      exact ⟨v, by rw [k2 bx (Ne.symm hne)]; exact hv, N.own.keep fun c hc => k2 c (by have := N.lo c hc; omega), N.lo⟩
    have A2 := A.keep (h' := h2) fun c hc => K2.2 c (by omega) (by omega) (by omega)
    obtain ⟨tv, t1, _, T⟩ := A2.look x
    simp only [ops P, (fld P f75_1).1, load_run o72 A2.c1, t1]
    have hlt := freeN_lt hxN hin
    obtain ⟨mm, hm1, hm2⟩ := ok1.pre
    have hle : freeN g s.1 ≤ freeN g e := freeN_le fun y hy => by rw [hm1]; exact List.mem_append_left _ hy
    obtain ⟨k', rfl⟩ : ∃ k', k = k' + 1 := ⟨k - 1, by omega⟩
    have hnn : (s.1 ++ [x]).Nodup := List.nodup_append.2 ⟨ok1.nodup, by simp, fun a ha b hb => by simp at hb; subst hb; intro e; subst e; exact hin ha⟩
    have hss : ∀ y ∈ s.1 ++ [x], y ∈ g.N := fun y hy => by
      rcases List.mem_append.1 hy with hy | hy
      · exact ok1.sub y hy
      · simp at hy; subst hy; exact hxN
    have hlen1 := ok1.len
    have hto := w.fewt x
    refine run_callF hb43 ((ih k' (Nat.lt_succ_self _) (e := s.1 ++ [x]) (acc := acc ++ s.2) (by omega) ⟨b, nv, c1, c2, es, hs, rfl, A2⟩ (T.mono (by omega)) (fun c hc => by have := T.bl c hc; omega) hto (fun y hy => w.sub _ _ hy) M2 hnn hss (by simp; omega) V2 (by have := K1.1; omega)).mono ?_)
    rintro _ h3 ⟨M3, V3, K3⟩
    have ok3 := deepF_ok w (k' + 1) (g.to x) (s.1 ++ [x]) (fun y hy => w.sub _ _ hy) hnn hss
    have hlen3 := ok3.len
    have hN := len_le_of_nodup ok3.nodup ok3.sub
    have es' : deepS g (k' + 1) s x = ((deepF g (k' + 1) (g.to x) (s.1 ++ [x])).1, s.2 ++ (deepF g (k' + 1) (g.to x) (s.1 ++ [x])).2 ++ [x]) := by unfold deepS; rw [if_neg hin]
    rw [es'] at fin
    generalize deepF g (k' + 1) (g.to x) (s.1 ++ [x]) = r at *
    have q3 := K3.1
    have q2 := K2.1
    simp only [List.length_append, List.length_cons, List.length_nil] at hlen3
    refine run_dyn (hbLf hlf) ((leave_spec hlf hbx V3 (by simp; omega) (by omega)).mono ?_)
    rintro _ h4 ⟨V4, s4, k4⟩
    refine fin _ h4 f0 f2 f3 f10 f11 f12 (M3.keep (k4 bm hbm hne)) (by simpa using V4) ((K2.trans K3).trans ⟨s4, fun c h1 _ h3 => k4 c h1 h3⟩)
end Go.Proofs.G
