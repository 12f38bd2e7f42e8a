import Derived.Test.YtadfdknlogceoaaKt
set_option linter.all false
open Go Go.Hv
set_option maxRecDepth 100000
namespace Go.Proofs.G
theorem eqP0 (h : Heap) : Ans P (.bin .eql 24 false true (.pointer none) (.pointer none)) (.bool true) h := by unfold Ans; kernel_rfl
theorem mk_ne {N : List Nat} {E : List (Nat × Nat)} (h : mkE N E ≠ .ok) : ((mkCode (mkE N E) : Int) != 0) = true := by
  cases hm : mkE N E with
  | ok => exact absurd hm h
  | _ => rfl
theorem mk_len {N : List Nat} {E : List (Nat × Nat)} (h : mkE N E = .ok) : N.length ≤ 4096 ∧ E.length ≤ 16384 ∧ 0 ∉ N ∧ N.Nodup ∧ ∀ e ∈ E, e.1 ∈ N ∧ e.2 ∈ N := by
  unfold mkE at h
  split at h
  · cases h
  · rename_i h1
    split at h
    · cases h
    · rename_i h2
      split at h
      · cases h
      · rename_i h3
        rw [not_or] at h1 h2
        refine ⟨by omega, by omega, h2.1, Decidable.not_not.1 h2.2, fun e he => ?_⟩
        by_cases h4 : e.1 ∈ N ∧ e.2 ∈ N
        · exact h4
        · exact absurd ⟨e, he, by
            by_cases h5 : e.1 ∈ N
            · exact .inr fun h6 => h4 ⟨h5, h6⟩
            · exact .inl h5⟩ h3
theorem grOf_mem {N : List Nat} {E : List (Nat × Nat)} {x y : Nat} : y ∈ (grOf N E).to x ↔ (x, y) ∈ E := by
  show y ∈ cpt (srt (toAll E x)) ↔ _
  rw [cpt_mem, srt_mem, toAll_eq]
  simp only [List.mem_map, List.mem_filter, beq_iff_eq]
  constructor
  · rintro ⟨⟨a, b⟩, ⟨h1, h2⟩, rfl⟩
    simp only at h2; subst h2; exact h1
  · intro h; exact ⟨(x, y), ⟨h, rfl⟩, rfl⟩
theorem grOf_N {N : List Nat} {E : List (Nat × Nat)} {x : Nat} : x ∈ (grOf N E).N ↔ x ∈ N := srt_mem
theorem Rs.old {n : Nat} {h h' : Heap} {v : Value} {l : List Nat} (s : Rs n h v l) (O : Old h.size h h') (hn : n ≤ h.size) : Rs n h' v l := s.keep fun c hc => O.get c (by omega)
theorem Ed.old {n : Nat} {h h' : Heap} {v : Value} {l : List (Nat × Nat)} (s : Ed n h v l) (O : Old h.size h h') (hn : n ≤ h.size) : Ed n h' v l := s.keep fun c hc => O.get c (by omega)
theorem NwE.old {n : Nat} {h h' : Heap} {v : Value} {l : List (Nat × Nat)} (s : NwE n h v l) (O : Old h.size h h') : NwE n h' v l := s.keep O (Nat.le_refl _)
/-- a Path's answer, read -/
theorem path_ans {g : Gr} {h : Heap} {n a b : Nat} {v : Value} {h' : Heap} (hh : Old h.size h h' ∧ ((¬ (a ∈ g.N ∧ b ∈ g.N) ∧ v = .tuple #[.slice none 0 0, I 140]) ∨ (a ∈ g.N ∧ b ∈ g.N ∧ wayF g a b = none ∧ v = .tuple #[.slice none 0 0, I 142]) ∨ (a ∈ g.N ∧ b ∈ g.N ∧ ∃ l way, wayF g a b = some way ∧ v = .tuple #[l, I 0] ∧ Nw h.size h' l way))) (ha : a ∈ g.N) (hb : b ∈ g.N) (w : g.WF) :
    Old h.size h h' ∧ ((dist g a b = none ∧ v = .tuple #[.slice none 0 0, I 142]) ∨ ∃ d l way, dist g a b = some d ∧ Short g a b d way ∧ v = .tuple #[l, I 0] ∧ Nw h.size h' l way) := by
  obtain ⟨O, (⟨hne, _⟩ | ⟨_, _, hw, rfl⟩ | ⟨_, _, l, way, hw, rfl, N⟩)⟩ := hh
  · exact absurd ⟨ha, hb⟩ hne
  · exact ⟨O, .inl ⟨wayF_none.1 hw, rfl⟩⟩
  · obtain ⟨d, hd, s⟩ := wayF_some w ha hb hw
    exact ⟨O, .inr ⟨d, l, way, hd, s, rfl, N⟩⟩
theorem remN (a b : Nat) (hb : b ≠ 0) (t : TypeId) (c d : Bool) (h : Heap) : Ans P (.bin .rem t c d (I a) (I b)) (I (a % b)) h := by
  have := ans_rem (P := P) (t := t) (c := c) (d := d) (k := .i64) (a := (a : Int)) (b := (b : Int)) (h := h) (by omega)
  rwa [Int.tmod_eq_emod_of_nonneg (by omega), ← Int.natCast_emod] at this
theorem eqB (a b : Bool) (h : Heap) : Ans P (.bin .eql 4 false false (.bool a) (.bool b)) (.bool (a == b)) h := by
  cases a <;> cases b <;> (unfold Ans; kernel_rfl)
theorem short_law {n : Nat} {h0 : Heap} {nv ev : Value} {N : List Nat} {E : List (Nat × Nat)} (S : Rs n h0 nv N) (T : Ed n h0 ev E) (hn : n ≤ h0.size) :
    HCalls P 6 #[nv, ev] h0 fun v h' => v = .bool true ∧ Old h0.size h0 h' := by
  refine lShort_ok ?_
  unfold lShort_c0
  simp only [fr]
  refine run_callF hb13 ((lives_spec h0).mono ?_)
  rintro _ h1 ⟨rfl, O1⟩
  simp only [ops P, bb, if_false]
  have q1 := O1.size
  refine run_callF hb14 ((make_spec (S.old O1 hn) (T.old O1 hn) (by omega)).mono ?_)
  rintro _ h2 ⟨O2, (⟨hne, rfl⟩ | ⟨hok, b, vv, bt, bh, es, hs, rfl, GM2⟩)⟩
  · simp only [ops P, mk_ne hne, bb, when_f, if_true, (eqP0 _).run]
    exact post_ret1 ⟨rfl, O1.trans (O2.mono q1)⟩
  have w := grOf_wf hok
  have q2 := O2.size
  have G2 : GR h2.size h2 (.pointer (some ⟨b, 0, none⟩)) (grOf N E) := ⟨_, _, _, _, _, _, rfl, GM2.ga⟩
  clear hok GM2
  generalize grOf N E = g at *
  simp only [ops P, nz0, bb, when_t, if_false, (eqP1 _ _).run]
  have hfew := w.few
  refine run_callF hb20 ((ring_spec G2 w (Nat.le_refl _)).mono ?_)
  rintro _ h3 ⟨O3, rv, rfl, B3⟩
  simp only [ops P]
  have q3 := O3.size
  have G3 := (G2.old O3 (Nat.le_refl _)).mono (m := h3.size) (by omega)
  refine run_callF hb25 ((edges_spec G3 w (Nat.le_refl _)).mono ?_)
  rintro av h4 ⟨O4, E4⟩
  have q4 := O4.size
  have G4 := (G3.old O4 (Nat.le_refl _)).mono (m := h4.size) (by omega)
  have B4 := B3.keep O4
  have Ed4 := E4.ed
  have Oall : Old h0.size h0 h4 := O1.trans ((O2.mono q1).trans ((O3.mono (by omega)).trans (O4.mono (by omega))))
  have hel := edT_len g w g.N
  change (edF g).length ≤ _ at hel
  -- the ring as a list
  obtain ⟨rl, hrl, Rr⟩ : ∃ rl, rl = (ringF g).getD [] ∧ Rs h4.size h4 rv rl := by
    refine ⟨_, rfl, ?_⟩
    cases hr : ringF g with
    | none => rw [hr] at B4; have : rv = _ := B4; subst this; exact Rs.nil _ _
    | some r => rw [hr] at B4; exact B4.1.rs
  have hrlen : rl.length ≤ 200000 := by
    rw [hrl]
    cases hr : ringF g with
    | none => simp
    | some r => rw [hr] at B4; exact B4.2.2
  refine lp_up (edF g).length (fun j f h => f 5 = .pointer (some ⟨b, 0, none⟩) ∧ f 7 = rv ∧ f 8 = .bool (ringF g).isSome ∧ f 9 = av ∧ f 10 = I j ∧ Old h4.size h4 h) ⟨rfl, rfl, rfl, rfl, rfl, Old.refl _ _⟩ ?_
  rintro j f h Q' hj ⟨f5, f7, f8, f9, f10, O⟩ on out
  have q := O.size
  have EdJ := Ed4.old O (Nat.le_refl _)
  have RrJ := Rr.old O (Nat.le_refl _)
  have GJ := (G4.old O (Nat.le_refl _)).mono (m := h.size) (by omega)
  unfold lShort_L4
  simp only [f5, f7, f8, f9, f10, Ed4.len false, EdJ.len false, ops P, lt_R]
  by_cases hjl : j < (edF g).length
  · obtain ⟨⟨x, y⟩, hx⟩ : ∃ e, (edF g)[j]? = some e := ⟨_, List.getElem?_eq_getElem hjl⟩
    obtain ⟨hxN, hyx⟩ := edF_mem.1 (List.mem_of_getElem? hx)
    have hyN := w.sub _ _ hyx
    obtain ⟨b', o, a1, c1, c2, _⟩ := EdJ.ax hx
    rw [if_pos (by simpa using hjl)]
    simp only [opsf P, ops P, (anyh a1).2.2, (anyh (fa57 b' o).1).2.2, (anyh (fa57 b' o).2).2.2, load_headq o41 c1, load_headq o41 c2]
    refine run_callF hb26' ((path0_spec GJ w (Nat.le_refl _) y x).mono ?_)
    intro v h5 hh
    obtain ⟨O5, hcase⟩ := path_ans (n := 0) hh hyN hxN w
    have next : ∀ f', f' 5 = .pointer (some ⟨b, 0, none⟩) → f' 7 = rv → f' 8 = .bool (ringF g).isSome → f' 9 = av → f' 10 = I (j + 1) → Q' .normal f' h5 := fun f' g5 g7 g8 g9 g10 => on _ _ hjl ⟨g5, g7, g8, g9, g10, O.trans (O5.mono q)⟩
    rcases hcase with ⟨_, rfl⟩ | ⟨d, l, way, hd, hs, rfl, Nl⟩
    · have e142 : (((142 : Nat) : Int) == 0) = false := rfl
      have gu : gw undef false = false := rfl
      simp only [opsf P, ops P, e142, bb, when_f, gu, if_false]
      exact next _ f5 f7 f8 f9 (congrArg _ (wInc (by omega)))
    · have e0 : (((0 : Nat) : Int) == 0) = true := rfl
      obtain ⟨r, hr, hrd⟩ := ring_least w hxN hyx hd
      have hsome : (ringF g).isSome = true := by rw [hr]; rfl
      have hrl' : rl = r := by rw [hrl, hr]; rfl
      simp only [opsf P, ops P, e0, bb, when_t, hsome, (Nl.rs.len false).1, (RrJ.len false).1, lt_R, if_true, if_false]
      have hlt : ¬ way.length < rl.length := by rw [hs.len, hrl']; omega
      simp only [decide_eq_false hlt, bb, if_false]
      exact next _ f5 f7 (by rw [← hsome]; exact f8) f9 (congrArg _ (wInc (by omega)))
  rw [if_neg (by simpa using hjl)]
  refine out _ _ _ (by simp) ?_
  simp only [ex]
  unfold lShort_c1
  clear on out
  have hR2 : ringF g = none ∧ rl = [] ∨ ∃ r, ringF g = some r ∧ rl = r := by
    cases hr : ringF g with
    | none => exact .inl ⟨rfl, by rw [hrl, hr]; rfl⟩
    | some r => exact .inr ⟨r, rfl, by rw [hrl, hr]; rfl⟩
  refine lp_up rl.length (fun j f h => f 5 = .pointer (some ⟨b, 0, none⟩) ∧ f 7 = rv ∧ f 8 = .bool (ringF g).isSome ∧ f 13 = I j ∧ Old h4.size h4 h) ⟨f5, f7, f8, rfl, O⟩ ?_
  clear f5 f7 f8 f9 f10 O q EdJ RrJ GJ
  rintro j f h Q' hj ⟨f5, f7, f8, f13, O⟩ on out
  have q := O.size
  have RrJ := Rr.old O (Nat.le_refl _)
  have GJ := (G4.old O (Nat.le_refl _)).mono (m := h.size) (by omega)
  unfold lShort_L3
  simp only [f5, f7, f8, f13, (RrJ.len false).1, ops P, lt_R]
  by_cases hjl : j < rl.length
  · obtain ⟨x, hx⟩ : ∃ e, rl[j]? = some e := ⟨_, List.getElem?_eq_getElem hjl⟩
    have hml : (j + 1) % rl.length < rl.length := Nat.mod_lt _ (by omega)
    obtain ⟨y, hy⟩ : ∃ e, rl[(j + 1) % rl.length]? = some e := ⟨_, List.getElem?_eq_getElem hml⟩
    obtain ⟨a1, x1, x2, _⟩ := RrJ.ax hx .i64
    obtain ⟨a2, y1, y2, _⟩ := RrJ.ax hy .i64
    rcases hR2 with ⟨_, h0'⟩ | ⟨r, hr, hrr⟩
    · rw [h0'] at hjl; simp at hjl
    subst hrr
    have hfar := ring_far w hr hx hy
    obtain ⟨_, _, hN, _⟩ := ring_round w hr
    have hxN := hN x (List.mem_of_getElem? hx)
    have hyN := hN y (List.mem_of_getElem? hy)
    rw [if_pos (by simpa using hjl)]
    have w1 : IntKind.i64.wrap ((j : Int) + 1) = ((j + 1 : Nat) : Int) := wInc (by omega)
    simp only [opsf P, ops P, w1, (anyh (RrJ.lx false)).2.2, (anyh (remN (j + 1) rl.length (by omega) 3 false false)).2.2, (anyh x1).2.2, (anyh y1).2.2, load_headq o41 x2, load_headq o41 y2]
    refine run_callF hb26' ((path0_spec GJ w (Nat.le_refl _) y x).mono ?_)
    intro v h5 hh
    obtain ⟨O5, hcase⟩ := path_ans (n := 0) hh hyN hxN w
    rcases hcase with ⟨hno, _⟩ | ⟨d, l, way, hd, hs, rfl, Nl⟩
    · rw [hfar] at hno; cases hno
    · rw [hfar] at hd; cases hd
      have RrK := RrJ.old O5 (by omega)
      have hwl : way.length = rl.length := by rw [hs.len]; omega
      simp only [opsf P, ops P, nz0, bb, when_t, (Nl.rs.len false).1, (RrK.len false).1, bne_R, if_true, if_false]
      have hne : ¬ (way.length ≠ rl.length) := fun h => h hwl
      simp only [decide_eq_false hne, bb, if_false]
      exact on _ _ hjl ⟨f5, f7, f8, rfl, O.trans (O5.mono q)⟩
  rw [if_neg (by simpa using hjl)]
  refine out _ _ _ (by simp) ?_
  simp only [ex]
  unfold lShort_c2
  simp only [rdU, reduceIte, Nat.reduceEqDiff, f7, f8, (RrJ.len false).1, ops P]
  rw [(eqB _ _ h).run]
  refine post_ret1 ⟨?_, Oall.trans (O.mono (by omega))⟩
  simp only [rdU, reduceIte, Nat.reduceEqDiff]
  congr 1
  rcases hR2 with ⟨h1, h2⟩ | ⟨r, hr, hrr⟩
  · rw [h1, h2]; rfl
  · rw [hr, hrr]
    have := (ring_round w hr).1
    simp; omega
end Go.Proofs.G
open Go Go.Hv
set_option maxRecDepth 100000
namespace Go.Proofs.G
theorem hb24' : hasBody P 24 = true := by kernel_rfl
theorem reach_iff {g : Gr} (w : g.WF) {us : List Nat} (hu : ∀ x ∈ us, x ∈ g.N) {k : Nat} : k ∈ reachF g us ↔ ∃ a ∈ us, ∃ d, Way g 0 a k d := by
  unfold reachF
  rw [srt_mem, reachF_mem w hu]
theorem reach_one {g : Gr} (w : g.WF) {a b : Nat} (ha : a ∈ g.N) : b ∈ reachF g [a] ↔ b ∈ g.N ∧ dist g a b ≠ none := by
  rw [reach_iff w (by simpa using ha)]
  simp only [List.mem_singleton, exists_eq_left]
  constructor
  · rintro ⟨d, hw⟩
    have hb := hw.inN w ha
    exact ⟨hb, fun h => (dist_none w ha hb).1 h ⟨d, hw⟩⟩
  · rintro ⟨hb, h⟩
    have h2 : ¬ ¬ ∃ d, Way g 0 a b d := fun hn => h ((dist_none w ha hb).2 hn)
    exact Classical.not_not.1 h2
theorem reach_len {g : Gr} (w : g.WF) {us : List Nat} (hu : ∀ x ∈ us, x ∈ g.N) : (reachF g us).length ≤ 4096 := by
  unfold reachF
  rw [srt_len, List.length_map]
  have := (farL_ok w hu 0).len
  have := w.few
  omega
theorem ne142 : (((142 : Nat) : Int) != 0) = true := rfl
theorem ne140 : (((140 : Nat) : Int) != 0) = true := rfl
theorem eq00 : (((0 : Nat) : Int) == 0) = true := rfl
theorem len0 (h : Heap) : ∀ K, run P (.builtin .len #[22] 3 [false] [.slice none 0 0]) K h = K (I 0) h := fun K => (ans_lenSlice (P := P) s22).run K
/-- the first of a slice -/
theorem Nw.pre {n : Nat} {h : Heap} {v : Value} {l : List Nat} (N : Nw n h v l) {i : Nat} (hi : i < l.length) : ∃ w, (∀ h', Ans P (.slice 22 v none (some (I i)) none) w h') ∧ Rs h.size h w (l.take i) := by
  rcases N.own with ⟨_, h0⟩ | ⟨b, cap, rfl, r⟩
  · have : l = [] := by simpa using h0
    subst this; simp at hi
  · have hcap : l.length ≤ cap := by have := r.le; simpa using this
    refine ⟨.slice (some ⟨b, 0, none⟩) i cap, fun h' => ?_, ?_, fun c hc => ?_⟩
    · have := ans_slice (P := P) s22 (ao := some ⟨b, 0, none⟩) (n := (l.map R).length) (c := cap) (lo := none) (hi := some (I i)) (l := 0) (m := i) (.inl ⟨rfl, rfl⟩) (.inr ⟨_, rfl⟩) (by omega) (by omega) (h := h')
      rw [if_neg (by omega), Option.map_some, Addr.add_add0] at this
      simpa using this
    · have := (r.take i).sl
      rw [List.length_take, List.length_map, Nat.min_eq_left (by omega), ← List.map_take] at this
      exact this
    · cases hc; exact r.lt
theorem ways_law {n : Nat} {h0 : Heap} {nv ev : Value} {N : List Nat} {E : List (Nat × Nat)} (S : Rs n h0 nv N) (T : Ed n h0 ev E) (hn : n ≤ h0.size) (a b : Nat) :
    HCalls P 7 #[nv, ev, R a, R b] h0 fun v h' => v = .bool true ∧ Old h0.size h0 h' := by
  refine lWays_ok ?_
  unfold lWays_c0
  simp only [fr]
  refine run_callF hb13 ((lives_spec h0).mono ?_)
  rintro _ h1 ⟨rfl, O1⟩
  simp only [ops P, bb, if_false]
  have q1 := O1.size
  refine run_callF hb14 ((make_spec (S.old O1 hn) (T.old O1 hn) (by omega)).mono ?_)
  rintro _ h2 ⟨O2, (⟨hne, rfl⟩ | ⟨hok, gb, vv, bt, bh, es, hs, rfl, GM2⟩)⟩
  · simp only [ops P, mk_ne hne, bb, when_f, if_true, (eqP0 _).run]
    exact post_ret1 ⟨rfl, O1.trans (O2.mono q1)⟩
  have w := grOf_wf hok
  have q2 := O2.size
  have G2 : GR h2.size h2 (.pointer (some ⟨gb, 0, none⟩)) (grOf N E) := ⟨_, _, _, _, _, _, rfl, GM2.ga⟩
  have hE : ∀ x y, y ∈ (grOf N E).to x ↔ (x, y) ∈ E := fun x y => grOf_mem
  have hEl := (mk_len hok).2.1
  have T2 : Ed n h2 ev E := T.keep fun c hc => by rw [O2.get c (by omega), O1.get c (by omega)]
  clear hok GM2 T S
  generalize grOf N E = g at *
  simp only [ops P, nz0, bb, when_t, if_false, (eqP1 _ _).run]
  have hfew := w.few
  refine run_buildSlice1 eRef rfl ?_
  have O3 : Old h2.size h2 (h2.push (.cells #[R a] 41)) := old_push _ _ (Nat.le_refl _)
  have S3 : Rs (h2.push (.cells #[R a] 41)).size (h2.push (.cells #[R a] 41)) (.slice (some ⟨h2.size, 0, none⟩) 1 1) [a] := ⟨Row.sl (Row.mk' (get_push_new _ _)), fun c hc => by cases hc; simp⟩
  generalize h2.push (.cells #[R a] 41) = h3 at *
  have q3 := O3.size
  have G3 := (G2.old O3 (Nat.le_refl _)).mono (m := h3.size) (by omega)
  refine run_callF hb24' ((reach_spec G3 w (Nat.le_refl _) S3 (by simp)).mono ?_)
  rintro v4 h4 ⟨O4, hreach⟩
  have q4 := O4.size
  have G4 := (G3.old O4 (Nat.le_refl _)).mono (m := h4.size) (by omega)
  have O04 : Old h0.size h0 h4 := O1.trans ((O2.mono q1).trans ((O3.mono (by omega)).trans (O4.mono (by omega))))
  -- what Reach told
  have hr2 : (a ∉ g.N ∧ v4 = .tuple #[.slice none 0 0, I 140]) ∨ (a ∈ g.N ∧ ∃ l, v4 = .tuple #[l, I 0] ∧ Nw h3.size h4 l (reachF g [a])) := by
    rcases hreach with ⟨hne, e⟩ | ⟨hall, l, e, N4⟩
    · exact .inl ⟨fun h => hne (by simpa using h), e⟩
    · exact .inr ⟨hall a (by simp), l, e, N4⟩
  clear hreach
  rcases hr2 with ⟨haN, rfl⟩ | ⟨haN, lv, rfl, N4⟩
  · simp only [ops P]
    refine run_callF hb26' ((path0_spec G4 w (Nat.le_refl _) a b).mono ?_)
    rintro _ h5 ⟨O5, (⟨_, rfl⟩ | ⟨hh, _⟩ | ⟨hh, _⟩)⟩
    rotate_left
    · exact absurd hh haN
    · exact absurd hh haN
    simp only [ops P, ne140, if_true, len0, eq00, bb, when_t, when_f]
    exact post_ret1 ⟨rfl, O04.trans (O5.mono (by omega))⟩
  simp only [ops P]
  have hrl := reach_len w (us := [a]) (by simpa using haN)
  refine run_callF hb26' ((path0_spec G4 w (Nat.le_refl _) a b).mono ?_)
  rintro _ h5 ⟨O5, hpath⟩
  have q5 := O5.size
  have N5 := N4.old O5
  have H5 := has_spec N5.rs (by omega) b
  have O05 : Old h0.size h0 h5 := O04.trans (O5.mono (by omega))
  have hin := reach_one w (b := b) haN
  rcases hpath with ⟨hne, rfl⟩ | ⟨_, hbN, hw, rfl⟩ | ⟨_, hbN, wv, way, hw, rfl, NW⟩
  · have hnr : b ∉ reachF g [a] := fun h => hne ⟨haN, (hin.1 h).1⟩
    simp only [ops P, ne140, if_true, len0, eq00, bb, when_t, nz0]
    refine run_callF hb18 (H5.mono ?_)
    rintro _ _ ⟨rfl, rfl⟩
    simp only [decide_eq_false hnr, ops P, bb, if_true]
    exact post_ret1 ⟨rfl, O05⟩
  · have hnr : b ∉ reachF g [a] := fun h => (hin.1 h).2 (wayF_none.1 hw)
    simp only [ops P, ne142, if_true, len0, eq00, bb, when_t, nz0]
    refine run_callF hb18 (H5.mono ?_)
    rintro _ _ ⟨rfl, rfl⟩
    simp only [decide_eq_false hnr, ops P, bb, if_true]
    exact post_ret1 ⟨rfl, O05⟩
  obtain ⟨d, hd, hs⟩ := wayF_some w haN hbN hw
  have hyr : b ∈ reachF g [a] := hin.2 ⟨hbN, by rw [hd]; simp⟩
  simp only [ops P, nz0, bb, if_false, when_t]
  refine run_callF hb18 (H5.mono ?_)
  rintro _ _ ⟨rfl, rfl⟩
  rename_i h5
  have hlast := hs.last w hbN
  have hwl := hs.len
  have hdle : d ≤ 100000 := by
    have := pathF_len (g := g) (L := farL (trn g) [b] 0) d [a]
    exact dOf_far (tRn w) (us := [b]) (fun x hx => by simp at hx; subst hx; rw [trn_N w]; exact hbN) 0 a d hd
  obtain ⟨a0, x0, y0⟩ := NW.ix hs.head
  obtain ⟨a1, x1, y1⟩ := NW.ix hlast
  have x0' : ∀ K h', run P (.indexAddr 22 wv (.int .i64 0)) K h' = K (.pointer (some a0)) h' := x0
  have hlen : ∀ K, run P (.builtin .len #[22] 3 [false] [wv]) K h5 = K (I (d + 1)) h5 := fun K => by rw [(NW.rs.len false).1, hwl]
  have w1 : IntKind.i64.wrap (((d + 1 : Nat) : Int) - 1) = (d : Int) := wDec (n := d + 1) (by omega) (by omega)
  have nz : (((d + 1 : Nat) : Int) == 0) = false := by
    have : ¬ (((d + 1 : Nat) : Int) = 0) := by omega
    simpa using this
  have nn : ∀ x : Nat, ((x : Int) != (x : Int)) = false := fun x => by simp
  simp only [decide_eq_true hyr, ops P, bb, when_t, if_false, hlen, nz, x0', y0, nn, w1, x1, y1]
  -- the way
  refine lp_up d (fun j f h => f 1 = ev ∧ f 2 = R a ∧ f 3 = R b ∧ f 9 = .pointer (some ⟨gb, 0, none⟩) ∧ f 13 = wv ∧ f 15 = I j ∧ Old h5.size h5 h) ⟨rfl, rfl, rfl, rfl, rfl, rfl, Old.refl _ _⟩ ?_
  rintro j f h Q' hj ⟨f1, f2, f3, f9, f13, f15, O⟩ on out
  have q := O.size
  have NWj := NW.old O
  have Gj := (G4.old (O5.trans (O.mono (by omega))) (Nat.le_refl _)).mono (m := h.size) (by omega)
  have wj : IntKind.i64.wrap ((j : Int) + 1) = ((j + 1 : Nat) : Int) := wInc (by omega)
  unfold lWays_L5
  have hlenj : ∀ K, run P (.builtin .len #[22] 3 [false] [wv]) K h = K (I (d + 1)) h := fun K => by rw [(NWj.rs.len false).1, hwl]
  simp only [f1, f2, f3, f9, f13, f15, ops P, wj, hlenj, lt_R]
  by_cases hjl : j < d
  · obtain ⟨x, hx⟩ : ∃ e, way[j]? = some e := ⟨_, List.getElem?_eq_getElem (by omega)⟩
    obtain ⟨y, hy⟩ : ∃ e, way[j + 1]? = some e := ⟨_, List.getElem?_eq_getElem (by omega)⟩
    have hstep := hs.step j x y hx hy
    have hxy : (x, y) ∈ E := (hE x y).1 hstep
    obtain ⟨hxN, hxd⟩ := hs.far j x hx
    obtain ⟨hyN, hyd⟩ := hs.far (j + 1) y hy
    obtain ⟨p1, i1, j1, _⟩ := NWj.rs.ax hy .i64
    rw [if_pos (by simpa using (by omega : j + 1 < d + 1))]
    simp only [(anyh i1).1, load_run o41 j1]
    refine run_callF hb26' ((path0_spec Gj w (Nat.le_refl _) y b).mono ?_)
    intro v h6 hh
    obtain ⟨O6, hcase⟩ := path_ans (n := 0) hh hyN hbN w
    rcases hcase with ⟨hno, _⟩ | ⟨d', l, way', hd', hs', rfl, Nl⟩
    · rw [hyd] at hno; cases hno
    rw [hyd] at hd'; cases hd'
    have q6 := O6.size
    have NW6 := NWj.old O6
    obtain ⟨p0, i0, j0, _⟩ := NW6.rs.ax hx .i64
    obtain ⟨p2, i2, j2, _⟩ := NW6.rs.ax hy .i64
    have T6 : Ed n h6 ev E := T2.keep fun c hc => by rw [O6.get c (by omega), O.get c (by omega), O5.get c (by omega), O4.get c (by omega), O3.get c (by omega)]
    have st : ∀ (x : X) v (h : Heap), Ans P x v h → ∀ K, still P x K h = K v := fun x v h e K => e.still K
    obtain ⟨pw, pw1, pw2⟩ := NW6.pre (i := j) (by omega)
    have hlen6 : Ans P (.builtin .len #[22] 3 [false] [wv]) (I (d + 1)) h6 := by
      have := NW6.rs.lx false h6
      rwa [hwl] at this
    have hlenl : Ans P (.builtin .len #[22] 3 [false] [l]) (I (d - (j + 1) + 1)) h6 := by
      have := Nl.rs.lx false h6
      rwa [hs'.len] at this
    simp only [ops P, st _ _ _ (i0 h6), st _ _ _ (i2 h6), load_still o41 j0, load_still o41 j2, wj]
    refine still_callF hb17 _ (edge_spec T6 (by omega) x y) ?_
    have w2 : IntKind.i64.wrap (((d + 1 : Nat) : Int) - (j : Int)) = ((d + 1 - j : Nat) : Int) := by
      rw [show ((d + 1 : Nat) : Int) - (j : Int) = ((d + 1 - j : Nat) : Int) by omega]; exact wI (by omega)
    have w3 : IntKind.i64.wrap (((d + 1 - j : Nat) : Int) - 1) = ((d - (j + 1) + 1 : Nat) : Int) := by
      rw [wDec (by omega) (by omega)]; congr 1; omega
    simp only [decide_eq_true hxy, ops P, bb, whenq_t, if_false, nz0, st _ _ _ hlenl, st _ _ _ hlen6, w2, w3, nn, st _ _ _ (pw1 h6), st _ _ _ (i0 h6), load_still o41 j0]
    refine still_callF hb18 _ (has_spec pw2 (by rw [List.length_take]; omega) x) ?_
    have hnot : x ∉ way.take j := by
      intro hm
      obtain ⟨i, hi, he⟩ := List.mem_iff_getElem.1 hm
      rw [List.length_take] at hi
      rw [List.getElem_take] at he
      have h1 := (hs.far i x (by rw [List.getElem?_eq_getElem (by omega), he])).2
      rw [hxd] at h1
      simp at h1; omega
    simp only [decide_eq_false hnot, ops P, bb, if_false]
    exact on _ _ hjl ⟨f1, f2, f3, f9, f13, rfl, O.trans (O6.mono q)⟩
  rw [if_neg (by simpa using (by omega : ¬ j + 1 < d + 1))]
  refine out _ _ _ (by simp) ?_
  simp only [ex]
  -- the neighbours
  unfold lWays_c1
  simp only [rdU, reduceIte, Nat.reduceEqDiff, f9]
  clear on out
  refine run_callF hb25 ((edges_spec Gj w (Nat.le_refl _)).mono ?_)
  rintro av h6 ⟨O6, E6⟩
  have q6 := O6.size
  have hel := edT_len g w g.N
  change (edF g).length ≤ _ at hel
  have Ed6 := E6.ed
  have NW6 := NWj.old O6
  have G6 := (Gj.old O6 (Nat.le_refl _)).mono (m := h6.size) (by omega)
  refine lp_up (edF g).length (fun i f h => f 2 = R a ∧ f 3 = R b ∧ f 9 = .pointer (some ⟨gb, 0, none⟩) ∧ f 13 = wv ∧ f 18 = av ∧ f 19 = I i ∧ Old h6.size h6 h) ⟨f2, f3, f9, f13, rfl, rfl, Old.refl _ _⟩ ?_
  clear f1 f2 f3 f9 f13 f15
  rintro i f h7 Q' hi ⟨f2, f3, f9, f13, f18, f19, O7⟩ on out
  have q7 := O7.size
  have Ed7 := Ed6.old O7 (Nat.le_refl _)
  have NW7 := NW6.old O7
  have G7 := (G6.old O7 (Nat.le_refl _)).mono (m := h7.size) (by omega)
  have OO7 : Old h0.size h0 h7 := O05.trans ((O.mono (by omega)).trans ((O6.mono (by omega)).trans (O7.mono (by omega))))
  unfold lWays_L3
  simp only [f2, f3, f9, f13, f18, f19, Ed7.len false, ops P, lt_R]
  by_cases hil : i < (edF g).length
  rotate_left
  · rw [if_neg (by simpa using hil)]
    refine out _ _ _ (by simp) ?_
    simp only [ex]
    unfold lWays_c2
    exact post_ret1 ⟨rfl, OO7⟩
  obtain ⟨⟨x, y⟩, hx⟩ : ∃ e, (edF g)[i]? = some e := ⟨_, List.getElem?_eq_getElem hil⟩
  obtain ⟨hxN, hyx⟩ := edF_mem.1 (List.mem_of_getElem? hx)
  have hyN := w.sub _ _ hyx
  obtain ⟨b', o, a1', c1, c2, _⟩ := Ed7.ax hx
  rw [if_pos (by simpa using hil)]
  simp only [(anyh a1').1, (anyh (fa57 b' o).1).1, load_run o41 c1, ops P, beq_R]
  have next : ∀ (f' : F) h', f' 2 = R a → f' 3 = R b → f' 9 = .pointer (some ⟨gb, 0, none⟩) → f' 13 = wv → f' 18 = av → f' 19 = I i → Old h7.size h7 h' → lWays_c4 Q' f' h' := fun f' h' g2 g3 g9 g13 g18 g19 O' => by
    unfold lWays_c4
    simp only [g19, ops P]
    exact on _ _ hil ⟨g2, g3, g9, g13, g18, congrArg _ (wInc (by omega)), O7.trans (O'.mono q7)⟩
  by_cases hxa : x = a
  rotate_left
  · simp only [decide_eq_false hxa, bb, if_false]
    exact next _ _ f2 f3 f9 f13 f18 f19 (Old.refl _ _)
  subst hxa
  simp only [decide_true, if_true, (anyh a1').1, (anyh (fa57 b' o).2).1, load_run o41 c2]
  refine run_callF hb26' ((path0_spec G7 w (Nat.le_refl _) y b).mono ?_)
  intro v h8 hh
  obtain ⟨O8, hcase⟩ := path_ans (n := 0) hh hyN hbN w
  have NW8 := NW7.old O8
  have hlen8 : ∀ K, run P (.builtin .len #[22] 3 [false] [wv]) K h8 = K (I (d + 1)) h8 := fun K => by rw [(NW8.rs.len false).1, hwl]
  rcases hcase with ⟨_, rfl⟩ | ⟨d', l, way', hd', hs', rfl, Nl⟩
  · have e142 : (((142 : Nat) : Int) == 0) = false := rfl
    simp only [ops P, e142, bb, when_f, if_false]
    exact next _ _ f2 f3 f9 f13 f18 f19 O8
  · have hl8 : ∀ K, run P (.builtin .len #[22] 3 [false] [l]) K h8 = K (I (d' + 1)) h8 := fun K => by rw [(Nl.rs.len false).1, hs'.len]
    have hd'le : d' ≤ 100000 := dOf_far (tRn w) (us := [b]) (fun x hx => by simp at hx; subst hx; rw [trn_N w]; exact hbN) 0 y d' hd'
    have w4 : IntKind.i64.wrap (((d' + 1 : Nat) : Int) + 1) = ((d' + 1 + 1 : Nat) : Int) := wInc (by omega)
    have hle : d ≤ d' + 1 := by
      have hwy := ((dist_iff w hyN hbN).1 hd').1
      have := ((dist_iff w haN hbN).1 hd).2 _ (hwy.cons (fun e => w.pos (e ▸ haN)) hyx)
      exact this
    have hlt : ¬ d' + 1 + 1 < d + 1 := by omega
    simp only [ops P, eq00, bb, when_t, hl8, hlen8, w4, lt_R, decide_eq_false hlt, if_true, if_false]
    exact next _ _ f2 f3 f9 f13 f18 f19 O8
end Go.Proofs.G
