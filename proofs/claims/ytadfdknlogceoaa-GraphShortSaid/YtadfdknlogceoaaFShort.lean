/-
  GraphShort returns true whatever nodes and edges come in, and each argument reads behind the call as it read before. No condition.
-/
import Derived.Test.YtadfdknlogceoaaKt
import Derived.Test.YtadfdknlogceoaaKu
set_option linter.all false
open Go Go.Hv
set_option maxRecDepth 100000
namespace Go.Proofs.G
theorem eqP0 (h : Heap) : Ans P (.bin .eql 24 false true (.pointer none) (.pointer none)) (.bool true) h := by unfold Ans; kernel_rfl
theorem mk_ne {N : List Nat} {E : List (Nat × Nat)} (h : mkE N E ≠ .ok) : ((mkCode (mkE N E) : Int) != 0) = true := by
  cases hm : mkE N E with
  | ok => exact absurd hm h
  | _ => rfl
theorem mk_len {N : List Nat} {E : List (Nat × Nat)} (h : mkE N E = .ok) : N.length ≤ 4096 ∧ E.length ≤ 16384 ∧ 0 ∉ N ∧ N.Nodup ∧ ∀ e ∈ E, e.1 ∈ N ∧ e.2 ∈ N := by
  unfold mkE at h
  split at h
  · cases h
  · rename_i h1
    split at h
    · cases h
    · rename_i h2
      split at h
      · cases h
      · rename_i h3
        rw [not_or] at h1 h2
        refine ⟨by omega, by omega, h2.1, Decidable.not_not.1 h2.2, fun e he => ?_⟩
        by_cases h4 : e.1 ∈ N ∧ e.2 ∈ N
        · exact h4
        · exact absurd ⟨e, he, by
            by_cases h5 : e.1 ∈ N
            · exact .inr fun h6 => h4 ⟨h5, h6⟩
            · exact .inl h5⟩ h3
theorem grOf_mem {N : List Nat} {E : List (Nat × Nat)} {x y : Nat} : y ∈ (grOf N E).to x ↔ (x, y) ∈ E := by
  show y ∈ cpt (srt (toAll E x)) ↔ _
  rw [cpt_mem, srt_mem, toAll_eq]
  simp only [List.mem_map, List.mem_filter, beq_iff_eq]
  constructor
  · rintro ⟨⟨a, b⟩, ⟨h1, h2⟩, rfl⟩
    simp only at h2; subst h2; exact h1
  · intro h; exact ⟨(x, y), ⟨h, rfl⟩, rfl⟩
theorem grOf_N {N : List Nat} {E : List (Nat × Nat)} {x : Nat} : x ∈ (grOf N E).N ↔ x ∈ N := srt_mem
theorem Rs.old {n : Nat} {h h' : Heap} {v : Value} {l : List Nat} (s : Rs n h v l) (O : Old h.size h h') (hn : n ≤ h.size) : Rs n h' v l := s.keep fun c hc => O.get c (by omega)
theorem Ed.old {n : Nat} {h h' : Heap} {v : Value} {l : List (Nat × Nat)} (s : Ed n h v l) (O : Old h.size h h') (hn : n ≤ h.size) : Ed n h' v l := s.keep fun c hc => O.get c (by omega)
theorem NwE.old {n : Nat} {h h' : Heap} {v : Value} {l : List (Nat × Nat)} (s : NwE n h v l) (O : Old h.size h h') : NwE n h' v l := s.keep O (Nat.le_refl _)
/-- a Path's answer, read -/
theorem path_ans {g : Gr} {h : Heap} {n a b : Nat} {v : Value} {h' : Heap} (hh : Old h.size h h' ∧ ((¬ (a ∈ g.N ∧ b ∈ g.N) ∧ v = .tuple #[.slice none 0 0, I 140]) ∨ (a ∈ g.N ∧ b ∈ g.N ∧ wayF g a b = none ∧ v = .tuple #[.slice none 0 0, I 142]) ∨ (a ∈ g.N ∧ b ∈ g.N ∧ ∃ l way, wayF g a b = some way ∧ v = .tuple #[l, I 0] ∧ Nw h.size h' l way))) (ha : a ∈ g.N) (hb : b ∈ g.N) (w : g.WF) :
    Old h.size h h' ∧ ((dist g a b = none ∧ v = .tuple #[.slice none 0 0, I 142]) ∨ ∃ d l way, dist g a b = some d ∧ Short g a b d way ∧ v = .tuple #[l, I 0] ∧ Nw h.size h' l way) := by
  obtain ⟨O, (⟨hne, _⟩ | ⟨_, _, hw, rfl⟩ | ⟨_, _, l, way, hw, rfl, N⟩)⟩ := hh
  · exact absurd ⟨ha, hb⟩ hne
  · exact ⟨O, .inl ⟨wayF_none.1 hw, rfl⟩⟩
  · obtain ⟨d, hd, s⟩ := wayF_some w ha hb hw
    exact ⟨O, .inr ⟨d, l, way, hd, s, rfl, N⟩⟩
theorem remN (a b : Nat) (hb : b ≠ 0) (t : TypeId) (c d : Bool) (h : Heap) : Ans P (.bin .rem t c d (I a) (I b)) (I (a % b)) h := by
  have := ans_rem (P := P) (t := t) (c := c) (d := d) (k := .i64) (a := (a : Int)) (b := (b : Int)) (h := h) (by omega)
  rwa [Int.tmod_eq_emod_of_nonneg (by omega), ← Int.natCast_emod] at this
theorem eqB (a b : Bool) (h : Heap) : Ans P (.bin .eql 4 false false (.bool a) (.bool b)) (.bool (a == b)) h := by
  cases a <;> cases b <;> (unfold Ans; kernel_rfl)
theorem short_law {n : Nat} {h0 : Heap} {nv ev : Value} {N : List Nat} {E : List (Nat × Nat)} (S : Rs n h0 nv N) (T : Ed n h0 ev E) (hn : n ≤ h0.size) :
    HCalls P 6 #[nv, ev] h0 fun v h' => v = .bool true ∧ Old h0.size h0 h' := by
  refine lShort_ok ?_
  unfold lShort_c0
  simp only [fr]
  refine run_callF hb13 ((lives_spec h0).mono ?_)
  rintro _ h1 ⟨rfl, O1⟩
  simp only [ops P, bb, if_false]
  have q1 := O1.size
  refine run_callF hb14 ((make_spec (S.old O1 hn) (T.old O1 hn) (by omega)).mono ?_)
  rintro _ h2 ⟨O2, (⟨hne, rfl⟩ | ⟨hok, b, vv, bt, bh, es, hs, rfl, GM2⟩)⟩
  · simp only [ops P, mk_ne hne, bb, when_f, if_true, (eqP0 _).run]
    exact post_ret1 ⟨rfl, O1.trans (O2.mono q1)⟩
  have w := grOf_wf hok
  have q2 := O2.size
  have G2 : GR h2.size h2 (.pointer (some ⟨b, 0, none⟩)) (grOf N E) := ⟨_, _, _, _, _, _, rfl, GM2.ga⟩
  clear hok GM2
  generalize grOf N E = g at *
  simp only [ops P, nz0, bb, when_t, if_false, (eqP1 _ _).run]
  have hfew := w.few
  refine run_callF hb20 ((ring_spec G2 w (Nat.le_refl _)).mono ?_)
  rintro _ h3 ⟨O3, rv, rfl, B3⟩
  simp only [ops P]
  have q3 := O3.size
  have G3 := (G2.old O3 (Nat.le_refl _)).mono (m := h3.size) (by omega)
  refine run_callF hb25 ((edges_spec G3 w (Nat.le_refl _)).mono ?_)
  rintro av h4 ⟨O4, E4⟩
  have q4 := O4.size
  have G4 := (G3.old O4 (Nat.le_refl _)).mono (m := h4.size) (by omega)
  have B4 := B3.keep O4
  have Ed4 := E4.ed
  have Oall : Old h0.size h0 h4 := O1.trans ((O2.mono q1).trans ((O3.mono (by omega)).trans (O4.mono (by omega))))
  have hel := edT_len g w g.N
  change (edF g).length ≤ _ at hel
  -- the ring as a list
  obtain ⟨rl, hrl, Rr⟩ : ∃ rl, rl = (ringF g).getD [] ∧ Rs h4.size h4 rv rl := by
    refine ⟨_, rfl, ?_⟩
    cases hr : ringF g with
    | none => rw [hr] at B4; have : rv = _ := B4; subst this; exact Rs.nil _ _
    | some r => rw [hr] at B4; exact B4.1.rs
  have hrlen : rl.length ≤ 200000 := by
    rw [hrl]
    cases hr : ringF g with
    | none => simp
    | some r => rw [hr] at B4; exact B4.2.2
  refine lp_up (edF g).length (fun j f h => f 5 = .pointer (some ⟨b, 0, none⟩) ∧ f 7 = rv ∧ f 8 = .bool (ringF g).isSome ∧ f 9 = av ∧ f 10 = I j ∧ Old h4.size h4 h) ⟨rfl, rfl, rfl, rfl, rfl, Old.refl _ _⟩ ?_
  rintro j f h Q' hj ⟨f5, f7, f8, f9, f10, O⟩ on out
  have q := O.size
  have EdJ := Ed4.old O (Nat.le_refl _)
  have RrJ := Rr.old O (Nat.le_refl _)
  have GJ := (G4.old O (Nat.le_refl _)).mono (m := h.size) (by omega)
  unfold lShort_L4
  simp only [f5, f7, f8, f9, f10, Ed4.len false, EdJ.len false, ops P, lt_R]
  by_cases hjl : j < (edF g).length
  · obtain ⟨⟨x, y⟩, hx⟩ : ∃ e, (edF g)[j]? = some e := ⟨_, List.getElem?_eq_getElem hjl⟩
    obtain ⟨hxN, hyx⟩ := edF_mem.1 (List.mem_of_getElem? hx)
    have hyN := w.sub _ _ hyx
    obtain ⟨b', o, a1, c1, c2, _⟩ := EdJ.ax hx
    rw [if_pos (by simpa using hjl)]
    simp only [opsf P, ops P, (anyh a1).2.2, (anyh (fa57 b' o).1).2.2, (anyh (fa57 b' o).2).2.2, load_headq o41 c1, load_headq o41 c2]
    refine run_callF hb26' ((path0_spec GJ w (Nat.le_refl _) y x).mono ?_)
    intro v h5 hh
    obtain ⟨O5, hcase⟩ := path_ans (n := 0) hh hyN hxN w
    have next : ∀ f', f' 5 = .pointer (some ⟨b, 0, none⟩) → f' 7 = rv → f' 8 = .bool (ringF g).isSome → f' 9 = av → f' 10 = I (j + 1) → Q' .normal f' h5 := fun f' g5 g7 g8 g9 g10 => on _ _ hjl ⟨g5, g7, g8, g9, g10, O.trans (O5.mono q)⟩
    rcases hcase with ⟨_, rfl⟩ | ⟨d, l, way, hd, hs, rfl, Nl⟩
    · have e142 : (((142 : Nat) : Int) == 0) = false := rfl
      have gu : gw undef false = false := rfl
      simp only [opsf P, ops P, e142, bb, when_f, gu, if_false]
      exact next _ f5 f7 f8 f9 (congrArg _ (wInc (by omega)))
    · have e0 : (((0 : Nat) : Int) == 0) = true := rfl
      obtain ⟨r, hr, hrd⟩ := ring_least w hxN hyx hd
      have hsome : (ringF g).isSome = true := by rw [hr]; rfl
      have hrl' : rl = r := by rw [hrl, hr]; rfl
      simp only [opsf P, ops P, e0, bb, when_t, hsome, (Nl.rs.len false).1, (RrJ.len false).1, lt_R, if_true, if_false]
      have hlt : ¬ way.length < rl.length := by rw [hs.len, hrl']; omega
      simp only [decide_eq_false hlt, bb, if_false]
      exact next _ f5 f7 (by rw [← hsome]; exact f8) f9 (congrArg _ (wInc (by omega)))
  rw [if_neg (by simpa using hjl)]
  refine out _ _ _ (by simp) ?_
  simp only [ex]
  unfold lShort_c1
  clear on out
  have hR2 : ringF g = none ∧ rl = [] ∨ ∃ r, ringF g = some r ∧ rl = r := by
    cases hr : ringF g with
    | none => exact .inl ⟨rfl, by rw [hrl, hr]; rfl⟩
    | some r => exact .inr ⟨r, rfl, by rw [hrl, hr]; rfl⟩
  refine lp_up rl.length (fun j f h => f 5 = .pointer (some ⟨b, 0, none⟩) ∧ f 7 = rv ∧ f 8 = .bool (ringF g).isSome ∧ f 13 = I j ∧ Old h4.size h4 h) ⟨f5, f7, f8, rfl, O⟩ ?_
  clear f5 f7 f8 f9 f10 O q EdJ RrJ GJ
  rintro j f h Q' hj ⟨f5, f7, f8, f13, O⟩ on out
  have q := O.size
  have RrJ := Rr.old O (Nat.le_refl _)
  have GJ := (G4.old O (Nat.le_refl _)).mono (m := h.size) (by omega)
  unfold lShort_L3
  simp only [f5, f7, f8, f13, (RrJ.len false).1, ops P, lt_R]
  by_cases hjl : j < rl.length
  · obtain ⟨x, hx⟩ : ∃ e, rl[j]? = some e := ⟨_, List.getElem?_eq_getElem hjl⟩
    have hml : (j + 1) % rl.length < rl.length := Nat.mod_lt _ (by omega)
    obtain ⟨y, hy⟩ : ∃ e, rl[(j + 1) % rl.length]? = some e := ⟨_, List.getElem?_eq_getElem hml⟩
    obtain ⟨a1, x1, x2, _⟩ := RrJ.ax hx .i64
    obtain ⟨a2, y1, y2, _⟩ := RrJ.ax hy .i64
    rcases hR2 with ⟨_, h0'⟩ | ⟨r, hr, hrr⟩
    · rw [h0'] at hjl; simp at hjl
    subst hrr
    have hfar := ring_far w hr hx hy
    obtain ⟨_, _, hN, _⟩ := ring_round w hr
    have hxN := hN x (List.mem_of_getElem? hx)
    have hyN := hN y (List.mem_of_getElem? hy)
    rw [if_pos (by simpa using hjl)]
    have w1 : IntKind.i64.wrap ((j : Int) + 1) = ((j + 1 : Nat) : Int) := wInc (by omega)
    simp only [opsf P, ops P, w1, (anyh (RrJ.lx false)).2.2, (anyh (remN (j + 1) rl.length (by omega) 3 false false)).2.2, (anyh x1).2.2, (anyh y1).2.2, load_headq o41 x2, load_headq o41 y2]
    refine run_callF hb26' ((path0_spec GJ w (Nat.le_refl _) y x).mono ?_)
    intro v h5 hh
    obtain ⟨O5, hcase⟩ := path_ans (n := 0) hh hyN hxN w
    rcases hcase with ⟨hno, _⟩ | ⟨d, l, way, hd, hs, rfl, Nl⟩
    · rw [hfar] at hno; cases hno
    · rw [hfar] at hd; cases hd
      have RrK := RrJ.old O5 (by omega)
      have hwl : way.length = rl.length := by rw [hs.len]; omega
      simp only [opsf P, ops P, nz0, bb, when_t, (Nl.rs.len false).1, (RrK.len false).1, bne_R, if_true, if_false]
      have hne : ¬ (way.length ≠ rl.length) := fun h => h hwl
      simp only [decide_eq_false hne, bb, if_false]
      exact on _ _ hjl ⟨f5, f7, f8, rfl, O.trans (O5.mono q)⟩
  rw [if_neg (by simpa using hjl)]
  refine out _ _ _ (by simp) ?_
  simp only [ex]
  unfold lShort_c2
  simp only [rdU, reduceIte, Nat.reduceEqDiff, f7, f8, (RrJ.len false).1, ops P]
  rw [(eqB _ _ h).run]
  refine post_ret1 ⟨?_, Oall.trans (O.mono (by omega))⟩
  simp only [rdU, reduceIte, Nat.reduceEqDiff]
  congr 1
  rcases hR2 with ⟨h1, h2⟩ | ⟨r, hr, hrr⟩
  · rw [h1, h2]; rfl
  · rw [hr, hrr]
    have := (ring_round w hr).1
    simp; omega
end Go.Proofs.G

open Go Go.Hv Go.RowKit Go.ChangeShapes Go.WideShapes Go.ChangeAt
set_option maxRecDepth 100000
namespace Go.Proofs.Ytadfdknlogceoaa
open Go.Proofs.G
theorem graphShort_lifted (os : Os) (started : os.Started) (H : Type) (enc : TypeId × Value → H) :
    ReturnsInHanded {} Try.checked os 6 .any (Rows.graphShortSpec.pre6 enc Try.prog Try.f6 Rows.graphShortRow.domain false) (Rows.graphShortSpec.post enc Try.prog Try.f6 false true false false) := by
  refine returnsInHanded_of_change (C := Try.checked) Try.own started (by kernel_rfl) Try.func6
    (ChangeSpec.witness6 (enc := enc) (C := Try.checked) false ⟨#[], #[.slice none 0 0, .slice none 0 0], []⟩ 8 (by kernel_rfl) (by kernel_rfl) (by kernel_rfl) (by kernel_rfl)) ?_
  intro W base args ds gs before hval0 hW hcnd _
  have hval : ∀ (j : Nat) t v, Try.f6.params[j]? = some t → args[j]? = some v → Value.okWide Try.prog W .any base t v := hval0
  have hW' := hW
  have hlt : ∀ x ∈ before, x.block < W.heap.size := fun x hx => by simpa using hW'.lt x hx
  obtain ⟨p, q, hA0, hV, rfl, hfz, hnd⟩ := hW
  have hA : DataW.TrodAll enc Try.prog W 0 (fun _ => true) true Try.f6.params.toList args.toList ds p := hA0
  rw [Try.params6] at hA hval
  obtain ⟨v0, v1, d0, d1, p0, p1, rfl, rfl, rfl, h0, h1⟩ := trodAll_two hA
  obtain ⟨rfl, rfl⟩ := trodVars_none hV
  obtain ⟨N, hN, _⟩ := in_refs (hval 0 22 v0 rfl rfl) h0
  obtain ⟨E, hE⟩ := in_edges (hval 1 23 v1 rfl rfl) h1
  refine (calls_of (short_law hN hE (Nat.le_refl _))).mono fun e W' ⟨he, hb⟩ => ?_
  subst he
  refine ⟨_, rfl, _, _, _, [], p0 ++ p1, [], hW', ?_, ?_, rfl, hb.frame _, fun h => by cases h⟩
  · exact trodAll_mk1 (shut_bool (by kernel_rfl) true)
  · exact trodAll_mk2 (Below.trod Try.laidOut (by kernel_rfl) (of_decide_eq_true (by kernel_rfl)) h0 hb fun x hx => hlt x (by simp [hx])) (Below.trod Try.laidOut (by kernel_rfl) (of_decide_eq_true (by kernel_rfl)) h1 hb fun x hx => hlt x (by simp [hx]))
theorem graphShort_holds : Rows.GraphShortSaid :=
  OpenClaim.holds_of_wide 6 Try.f6 rfl rfl rfl rfl rfl rfl rfl ⟨rfl, rfl, rfl, rfl, rfl⟩ rfl rfl rfl rfl rfl (by kernel_rfl) Try.func6 (by kernel_rfl)
    (of_decide_eq_true (by kernel_rfl)) (by unfold Func.isWrapper; first | (rw [if_pos (by decide +kernel)]; kernel_rfl) | (rw [if_neg (by decide +kernel)]; exact ⟨rfl, rfl⟩))
    (fun os started H enc _ => graphShort_lifted os started H enc)
end Go.Proofs.Ytadfdknlogceoaa
