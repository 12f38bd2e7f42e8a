import Derived.Test.YtadfdknlogceoaaKo
import Derived.Test.YtadfdknlogceoaaKp
import Derived.Test.YtadfdknlogceoaaKv
set_option linter.all false
namespace Go.Proofs.G
/-- a way either passes z by, or comes to it earlier -/
theorem Way.split {g : Gr} {wo a b d : Nat} (w : Way g wo a b d) {z : Nat} (hz : z ≠ b) : Way g z a b d ∨ ∃ e, e < d ∧ Way g wo a z e := by
  induction w with
  | nil h => exact .inl (.nil (Ne.symm hz))
  | @snoc b c d w h1 h2 ih =>
    by_cases hb : z = b
    · subst hb; exact .inr ⟨d, Nat.lt_succ_self d, w⟩
    · rcases ih hb with h | ⟨e, he, h⟩
      · exact .inl (.snoc h h1 (Ne.symm hz))
      · exact .inr ⟨e, by omega, h⟩
/-- the keeper is not kept by what it keeps -/
theorem dom_not {g : Gr} (G : g.WF) {us : List Nat} (hu : ∀ x ∈ us, x ∈ g.N) {x k : Nat} (hx : x ∈ (farL g us 0).map (·.1)) (hk : k ≠ x) (hd : x ∉ (farL g us k).map (·.1)) : k ∈ (farL g us x).map (·.1) := by
  have h1 := (reachF_mem G hu).1 hx
  have least : ∃ d, (∃ a ∈ us, Way g 0 a x d) ∧ ∀ d', (∃ a ∈ us, Way g 0 a x d') → d ≤ d' := by
    obtain ⟨a, ha, d, w⟩ := h1
    have : ∃ d, ∃ a ∈ us, Way g 0 a x d := ⟨d, a, ha, w⟩
    clear w ha a d
    obtain ⟨d, hd⟩ := this
    induction d using Nat.strongRecOn with
    | _ d ih =>
      by_cases h : ∃ e, e < d ∧ ∃ a ∈ us, Way g 0 a x e
      · obtain ⟨e, he, h'⟩ := h
        exact ih e he h'
      · refine ⟨d, hd, fun d' h' => ?_⟩
        by_cases hl : d ≤ d'
        · exact hl
        · exact absurd ⟨d', by omega, h'⟩ h
  obtain ⟨d, ⟨a, ha, w⟩, hmin⟩ := least
  rcases w.split hk with h | ⟨e, he, we⟩
  · exact absurd ((reachF_mem G hu).2 ⟨a, ha, d, h⟩) hd
  · rcases we.split (Ne.symm hk) with h | ⟨e', he', we'⟩
    · exact (reachF_mem G hu).2 ⟨a, ha, e, h⟩
    · have := hmin e' ⟨a, ha, we'⟩; omega
/-- nodes and edges but for one node -/
def woN (N : List Nat) (x : Nat) : List Nat := N.filter fun n => decide (n ≠ x)
def woE (E : List (Nat × Nat)) (x : Nat) : List (Nat × Nat) := E.filter fun e => decide (e.1 ≠ x) && decide (e.2 ≠ x)
theorem woE_mem {E : List (Nat × Nat)} {x a b : Nat} : (a, b) ∈ woE E x ↔ (a, b) ∈ E ∧ a ≠ x ∧ b ≠ x := by
  unfold woE; simp
theorem woN_mem {N : List Nat} {x a : Nat} : a ∈ woN N x ↔ a ∈ N ∧ a ≠ x := by unfold woN; simp
theorem wo_way {g g' : Gr} (G : g.WF) {x : Nat} (hN : ∀ a, a ∈ g'.N ↔ a ∈ g.N ∧ a ≠ x) (hto : ∀ a b, b ∈ g'.to a ↔ b ∈ g.to a ∧ a ≠ x ∧ b ≠ x) {a b d : Nat} (ha : a ∈ g.N) (hax : a ≠ x) : Way g' 0 a b d ↔ Way g x a b d := by
  constructor
  · intro w
    induction w with
    | nil _ => exact .nil hax
    | snoc w h1 h2 ih =>
      have := (hto _ _).1 h1
      exact .snoc ih this.1 this.2.2
  · intro w
    induction w with
    | nil _ => exact .nil fun e => G.pos (e ▸ ha)
    | snoc w h1 h2 ih =>
      exact .snoc ih ((hto _ _).2 ⟨h1, w.ne.2, h2⟩) fun e => G.pos (e ▸ G.sub _ _ h1)
/-- what is reached without a node -/
theorem wo_reach {g g' : Gr} (G : g.WF) (G' : g'.WF) {x : Nat} (hN : ∀ a, a ∈ g'.N ↔ a ∈ g.N ∧ a ≠ x) (hto : ∀ a b, b ∈ g'.to a ↔ b ∈ g.to a ∧ a ≠ x ∧ b ≠ x) {us : List Nat} (hu : ∀ y ∈ us, y ∈ g.N) {k : Nat} :
    k ∈ (farL g' (us.filter fun y => decide (y ≠ x)) 0).map (·.1) ↔ k ∈ (farL g us x).map (·.1) := by
  have hu' : ∀ y ∈ us.filter (fun y => decide (y ≠ x)), y ∈ g'.N := fun y hy => by
    have := List.mem_filter.1 hy
    exact (hN y).2 ⟨hu y this.1, by simpa using this.2⟩
  rw [reachF_mem G' hu', reachF_mem G hu]
  constructor
  · rintro ⟨a, ha, d, w⟩
    have h := List.mem_filter.1 ha
    exact ⟨a, h.1, d, (wo_way G hN hto (hu a h.1) (by simpa using h.2)).1 w⟩
  · rintro ⟨a, ha, d, w⟩
    have hax := w.ne.1
    exact ⟨a, List.mem_filter.2 ⟨ha, by simpa using hax⟩, d, (wo_way G hN hto (hu a ha) hax).2 w⟩
/-- counts -/
theorem filter_len {l m : List Nat} (hl : l.Nodup) (hm : m.Nodup) (hs : ∀ x ∈ m, x ∈ l) (p : Nat → Bool) (hp : ∀ x ∈ l, p x = true ↔ x ∈ m) : (l.filter fun x => !p x).length + m.length = l.length := by
  have h1 : (l.filter p).Perm m := by
    refine (List.perm_ext_iff_of_nodup (hl.filter _) hm).2 fun x => ?_
    rw [List.mem_filter]
    constructor
    · rintro ⟨h1, h2⟩; exact (hp x h1).1 h2
    · intro h; exact ⟨hs x h, (hp x (hs x h)).2 h⟩
  have h2 : (l.filter fun x => !p x).length + (l.filter p).length = l.length := by
    clear h1 hp hs hm hl
    induction l with
    | nil => rfl
    | cons a l ih => cases h : p a <;> simp [h] <;> omega
  rw [← h1.length_eq]; exact h2
theorem reachF_nodup {g : Gr} (G : g.WF) {us : List Nat} (hu : ∀ y ∈ us, y ∈ g.N) : (reachF g us).Nodup := by
  unfold reachF
  exact (srt_perm _).nodup_iff.2 (farL_ok G hu 0).nodup
end Go.Proofs.G
open Go Go.Hv
set_option maxRecDepth 100000
namespace Go.Proofs.G
theorem hb23 : hasBody P 23 = true := by kernel_rfl
/-- one more, whatever the length -/
theorem Nw.pushB {n : Nat} {h : Heap} {lv : Value} {l : List Nat} (W : Nw n h lv l) (x : Nat) (hl : (l.length + 1) * 8 ≤ 140737488355328) (hb : n ≤ h.size) {K : Value → Value → Heap → Prop}
    (hk : ∀ u v h', Nw n h' v (l ++ [x]) → (∀ c, c < h.size → blkOf lv ≠ some c → h'[c]? = h[c]?) → h.size ≤ h'.size → (∀ c, blkOf v = some c → blkOf lv = some c ∨ h.size ≤ c) → K u v h') :
    run P (.buildSlice 22 1 [(0, R x)]) (fun u h => run P (.builtin .append #[22, 22] 22 [false, false] [lv, u]) (fun v h => K u v h) h) h := by
  refine run_buildSlice1 eRef rfl ?_
  have o1 : Own (h.push (.cells #[R x] 41)) lv 41 (l.map R) := W.own.keep fun c hc => get_push_old _ _ (W.own.lt hc)
  have sw : Sl (h.push (.cells #[R x] 41)) (.slice (some ⟨h.size, 0, none⟩) 1 1) [R x] := Row.sl (Row.mk' (get_push_new _ _))
  refine run_append1 eRef o1 sw (by simp [oneC]) (by simp; omega) (by simp; omega) fun v h2 o2 c2 b2 => ?_
  refine hk _ v h2 ⟨by simpa using o2, fun c hc => ?_⟩ (fun c hc hne => (c2.get c (by simp; omega) hne).trans (get_push_old _ _ hc)) (by have := c2.size; simp at this; omega) (fun c hc => ?_)
  · rcases b2 c hc with h' | h'
    · exact W.lo c h'
    · simp at h'; omega
  · rcases b2 c hc with h' | h'
    · exact .inl h'
    · simp at h'; exact .inr (by omega)
theorem NwE.push {n : Nat} {h : Heap} {lv : Value} {l : List (Nat × Nat)} (W : NwE n h lv l) (x y : Nat) (hl : l.length ≤ 20000000) (hb : n ≤ h.size) {K : Value → Value → Heap → Prop}
    (hk : ∀ u v h', NwE n h' v (l ++ [(x, y)]) → (∀ c, c < h.size → blkOf lv ≠ some c → h'[c]? = h[c]?) → h.size ≤ h'.size → (∀ c, blkOf v = some c → blkOf lv = some c ∨ h.size ≤ c) → K u v h') :
    run P (.buildSlice 23 1 [(0, .agg #[R x, R y])]) (fun u h => run P (.builtin .append #[23, 23] 23 [false, false] [lv, u]) (fun v h => K u v h) h) h := by
  refine run_buildSlice eEdge (cells := #[R x, R y]) (by omega) (by omega) (fill57 x y) ?_
  have o5 : OwnN (h.push (.cells #[R x, R y] 57)) lv 57 2 _ _ := OwnN.keep W.own fun c hc => get_push_old _ _ (OwnN.lt W.own hc)
  have s5 : SlN (h.push (.cells #[R x, R y] 57)) (.slice (some ⟨h.size, 0, none⟩) 1 1) 2 1 [R x, R y] := by
    refine ⟨some ⟨h.size, 0, none⟩, 1, rfl, rfl, Nat.le_refl _, fun i v hi => ⟨_, rfl, ?_⟩⟩
    have r : Row (h.push (.cells #[R x, R y] 57)) h.size 57 2 [R x, R y] := Row.mk' (get_push_new _ _)
    have := r.cell hi
    rw [Addr.add_add0, Nat.zero_add]; exact this
  have hc4 : ∀ z ∈ [R x, R y], oneC z = true := by intro z hz; simp at hz; rcases hz with rfl | rfl <;> rfl
  refine run_append eEdge o5 s5 hc4 (by omega) (by omega) fun v' h' o' C' b' _ => ?_
  refine hk _ v' h' ⟨?_, fun c hc => ?_⟩ (fun c hc hne => (C'.get c (by simp; omega) hne).trans (get_push_old _ _ hc)) (by have := C'.size; simp at this; omega) (fun c hc => ?_)
  · rw [List.length_append (bs := [(x, y)])]
    have : eCells (l ++ [(x, y)]) = eCells l ++ [R x, R y] := by unfold eCells; rw [List.flatMap_append]; rfl
    rw [this]; exact o'
  · rcases b' c hc with h2 | h2
    · exact W.lo c h2
    · simp at h2; omega
  · rcases b' c hc with h2 | h2
    · exact .inl h2
    · simp at h2; exact .inr (by omega)
theorem load57 {h : Heap} {b o x y : Nat} (c1 : cell h ⟨b, o, none⟩ = some (R x)) (c2 : cell h ⟨b, o + 1, none⟩ = some (R y)) {K : Value → Heap → Prop} : run P (.load 57 (.pointer (some ⟨b, o, none⟩))) K h = K (.agg #[R x, R y]) h := by
  refine (ans_loadS (P := P) a57 (l := [R x, R y]) ?_).run K
  have e0 : (Addr.mk b o none).add 0 = ⟨b, o, none⟩ := by rw [Addr.add_add0, Nat.add_zero]
  have e1 : (Addr.mk b o none).add 1 = ⟨b, o + 1, none⟩ := by rw [Addr.add_add0]
  simp only [cellsAt, e0, e1, Nat.zero_add, c1, c2]
  rfl
/-- without -/
theorem without_spec {n : Nat} {h0 : Heap} {nv ev : Value} {N : List Nat} {E : List (Nat × Nat)} (S : Rs n h0 nv N) (T : Ed n h0 ev E) (hn : n ≤ h0.size) (hN : N.length ≤ 4096) (hE : E.length ≤ 16384) (x : Nat) :
    HCalls P 23 #[nv, ev, R x] h0 fun v h' => Old h0.size h0 h' ∧ ∃ a b, v = .tuple #[a, b] ∧ Nw h0.size h' a (woN N x) ∧ NwE h0.size h' b (woE E x) := by
  refine without_ok ?_
  unfold without_c0
  refine lp_up N.length (fun j f h => f 0 = nv ∧ f 1 = ev ∧ f 2 = R x ∧ f 9 = .slice none 0 0 ∧ f 10 = I j ∧ Nw h0.size h (f 8) (woN (N.take j) x) ∧ Old h0.size h0 h) ⟨rfl, rfl, rfl, rfl, rfl, Nw.nil _ _, Old.refl _ _⟩ ?_
  rintro j f h Q' hj ⟨f0, f1, f2, f9, f10, N8, O⟩ on out
  have q := O.size
  have S1 := S.old O hn
  unfold without_L5
  simp only [f0, f1, f2, f10, (S1.len false).1, ops P, lt_R]
  by_cases hjl : j < N.length
  · obtain ⟨y, hy⟩ : ∃ e, N[j]? = some e := ⟨_, List.getElem?_eq_getElem hjl⟩
    obtain ⟨p, i1, c1, _⟩ := S1.ax hy .i64
    have hlen : (woN (N.take j) x).length ≤ 4096 := by
      have := List.length_filter_le (fun n => decide (n ≠ x)) (N.take j)
      rw [List.length_take] at this
      unfold woN; omega
    have hst : woN (N.take (j + 1)) x = woN (N.take j) x ++ if y ≠ x then [y] else [] := by
      unfold woN
      rw [take_at hy, List.filter_append]
      by_cases h : y = x <;> simp [h]
    rw [if_pos (by simpa using hjl)]
    simp only [(anyh i1).1, load_run o41 c1, ops P, bne_R]
    have next : ∀ (f' : F) h', f' 0 = nv → f' 1 = ev → f' 2 = R x → f' 9 = .slice none 0 0 → f' 10 = I j → Nw h0.size h' (f' 8) (woN (N.take (j + 1)) x) → Old h0.size h0 h' → without_c6 Q' f' h' := fun f' h' g0 g1 g2 g9 g10 N' O' => by
      unfold without_c6
      simp only [g10, ops P]
      exact on _ _ hjl ⟨g0, g1, g2, g9, congrArg _ (wInc (by omega)), N', O'⟩
    by_cases hyx : y ≠ x
    · rw [if_pos hyx] at hst
      simp only [decide_eq_true hyx, if_true, (anyh i1).1, load_run o41 c1]
      refine N8.pushB y (by omega) q fun u v h' N' k' s' b' => ?_
      exact next _ _ f0 f1 f2 f9 f10 (by rw [hst]; exact N') ⟨by omega, fun c hc => by rw [k' c (by omega) (fun e => by have := N8.lo c e; omega), O.get c hc]⟩
    · rw [if_neg hyx, List.append_nil] at hst
      simp only [decide_eq_false hyx, bb, if_false]
      exact next _ _ f0 f1 f2 f9 f10 (by rw [hst]; exact N8) O
  rw [if_neg (by simpa using hjl)]
  refine out _ _ _ (by simp) ?_
  simp only [ex]
  rw [List.take_of_length_le (show N.length ≤ j by omega)] at N8
  unfold without_c1
  clear on out
  refine lp_up E.length (fun j f h => f 1 = ev ∧ f 2 = R x ∧ f 11 = I j ∧ Nw h0.size h (f 8) (woN N x) ∧ NwE h0.size h (f 9) (woE (E.take j) x) ∧ (∀ c, blkOf (f 8) = some c → blkOf (f 9) ≠ some c) ∧ Old h0.size h0 h) ⟨f1, f2, rfl, N8, by show NwE _ _ (f 9) _; rw [f9]; exact ⟨.inl ⟨rfl, rfl, rfl⟩, fun c hc => by cases hc⟩, fun c hc => by show blkOf (f 9) ≠ _; rw [f9]; simp [blkOf], O⟩ ?_
  clear f0 f1 f2 f9 f10 N8 S1 q O
  rintro j f h Q' hj ⟨f1, f2, f11, N8, N9, hsep, O⟩ on out
  have q := O.size
  have T1 := T.old O hn
  unfold without_L3
  simp only [f1, f2, f11, T1.len false, ops P, lt_R]
  by_cases hjl : j < E.length
  rotate_left
  · rw [if_neg (by simpa using hjl)]
    refine out _ _ _ (by simp) ?_
    simp only [ex]
    unfold without_c2
    rw [List.take_of_length_le (show E.length ≤ j by omega)] at N9
    exact post_ret2 ⟨O, _, _, rfl, N8, N9⟩
  obtain ⟨⟨a, b⟩, hy⟩ : ∃ e, E[j]? = some e := ⟨_, List.getElem?_eq_getElem hjl⟩
  obtain ⟨b', o, i1, c1, c2, _⟩ := T1.ax hy
  have hlen : (woE (E.take j) x).length ≤ 16384 := by
    have := List.length_filter_le (fun e : Nat × Nat => decide (e.1 ≠ x) && decide (e.2 ≠ x)) (E.take j)
    rw [List.length_take] at this
    unfold woE; omega
  have hst : woE (E.take (j + 1)) x = woE (E.take j) x ++ if a ≠ x ∧ b ≠ x then [(a, b)] else [] := by
    unfold woE
    rw [take_at hy, List.filter_append]
    by_cases h : a = x <;> by_cases h' : b = x <;> simp [h, h']
  rw [if_pos (by simpa using hjl)]
  simp only [(anyh i1).1, (anyh (fa57 b' o).1).1, load_run o41 c1, ops P, bne_R]
  have next : ∀ (f' : F) h', f' 1 = ev → f' 2 = R x → f' 11 = I j → Nw h0.size h' (f' 8) (woN N x) → NwE h0.size h' (f' 9) (woE (E.take (j + 1)) x) → (∀ c, blkOf (f' 8) = some c → blkOf (f' 9) ≠ some c) → Old h0.size h0 h' → without_c4 Q' f' h' := fun f' h' g1 g2 g11 N' N'' s' O' => by
    unfold without_c4
    simp only [g11, ops P]
    exact on _ _ hjl ⟨g1, g2, congrArg _ (wInc (by omega)), N', N'', s', O'⟩
  by_cases hax : a ≠ x
  rotate_left
  · rw [if_neg (fun h => hax h.1), List.append_nil] at hst
    simp only [decide_eq_false hax, bb, when_f, if_false, ops P]
    exact next _ _ f1 f2 f11 N8 (by rw [hst]; exact N9) hsep O
  simp only [decide_eq_true hax, bb, when_t, ops P, (anyh i1).1, (anyh (fa57 b' o).2).1, load_run o41 c2, bne_R, if_true]
  by_cases hbx : b ≠ x
  rotate_left
  · rw [if_neg (fun h => hbx h.2), List.append_nil] at hst
    simp only [decide_eq_false hbx, bb, if_false]
    exact next _ _ f1 f2 f11 N8 (by rw [hst]; exact N9) hsep O
  rw [if_pos ⟨hax, hbx⟩] at hst
  simp only [decide_eq_true hbx, if_true]
  rw [load57 c1 c2]
  refine N9.push a b (by omega) q fun u v h' N' k' s' b'' => ?_
  have hlt8 : ∀ c, blkOf (f 8) = some c → c < h.size := fun c hc => N8.own.lt hc
  refine next _ _ f1 f2 f11 ⟨N8.own.keep fun c hc => k' c (hlt8 c hc) (hsep c hc), N8.lo⟩ (by rw [hst]; exact N') (fun c hc e => ?_) ⟨by omega, fun c hc => by rw [k' c (by omega) (fun e => by have := N9.lo c e; omega), O.get c hc]⟩
  rcases b'' c e with h2 | h2
  · exact hsep c hc h2
  · have := hlt8 c hc; omega
end Go.Proofs.G
open Go Go.Hv
set_option maxRecDepth 100000
namespace Go.Proofs.G
theorem wo_mk {N : List Nat} {E : List (Nat × Nat)} (h : mkE N E = .ok) (x : Nat) : mkE (woN N x) (woE E x) = .ok := by
  obtain ⟨h1, h2, h3, h4, h5⟩ := mk_len h
  unfold mkE
  have l1 : (woN N x).length ≤ N.length := List.length_filter_le _ _
  have l2 : (woE E x).length ≤ E.length := List.length_filter_le _ _
  rw [if_neg (by omega), if_neg, if_neg]
  · rintro ⟨⟨a, b⟩, he, hh⟩
    obtain ⟨he, ha, hb⟩ := woE_mem.1 he
    have := h5 _ he
    rcases hh with hh | hh
    · exact hh (woN_mem.2 ⟨this.1, ha⟩)
    · exact hh (woN_mem.2 ⟨this.2, hb⟩)
  · rintro (hh | hh)
    · exact h3 (woN_mem.1 hh).1
    · exact hh (h4.filter _)
theorem Way.weak {g : Gr} (G : g.WF) {x a k d : Nat} (wy : Way g x a k d) (ha : a ∈ g.N) : Way g 0 a k d := by
  induction wy with
  | nil _ => exact .nil fun e => G.pos (e ▸ ha)
  | snoc w1 h1 h2 ih => exact .snoc ih h1 fun e => G.pos (e ▸ G.sub _ _ h1)
theorem eqI (a b : Nat) : ((a : Int) == (b : Int)) = decide (a = b) := beq_R
theorem kept_law {n : Nat} {h0 : Heap} {nv ev fv : Value} {N us : List Nat} {E : List (Nat × Nat)} (S : Rs n h0 nv N) (T : Ed n h0 ev E) (F : Rs n h0 fv us) (hus : us.length * 8 ≤ 140737488351232) (hn : n ≤ h0.size) (x : Nat) :
    HCalls P 5 #[nv, ev, fv, R x] h0 fun v h' => v = .bool true ∧ Old h0.size h0 h' := by
  refine lKept_ok ?_
  unfold lKept_c0
  simp only [fr]
  refine run_callF hb13 ((lives_spec h0).mono ?_)
  rintro _ h1 ⟨rfl, O1⟩
  simp only [ops P, bb, if_false]
  have q1 := O1.size
  refine run_callF hb14 ((make_spec (S.old O1 hn) (T.old O1 hn) (by omega)).mono ?_)
  rintro _ h2 ⟨O2, (⟨hne, rfl⟩ | ⟨hok, gb, vv, bt, bh, es, hs, rfl, GM2⟩)⟩
  · simp only [ops P, mk_ne hne, bb, when_f, if_true, (eqP0 _).run]
    exact post_ret1 ⟨rfl, O1.trans (O2.mono q1)⟩
  have w := grOf_wf hok
  have q2 := O2.size
  have G2 : GR h2.size h2 (.pointer (some ⟨gb, 0, none⟩)) (grOf N E) := ⟨_, _, _, _, _, _, rfl, GM2.ga⟩
  have O02 : Old h0.size h0 h2 := O1.trans (O2.mono q1)
  have S2 : Rs n h2 nv N := S.old O02 hn
  have T2 : Ed n h2 ev E := T.old O02 hn
  have F2 : Rs n h2 fv us := F.old O02 hn
  have hNl := (mk_len hok).1
  have hEl := (mk_len hok).2.1
  have hok' := wo_mk hok x
  have w' := grOf_wf hok'
  have hNN : ∀ a, a ∈ (grOf (woN N x) (woE E x)).N ↔ a ∈ (grOf N E).N ∧ a ≠ x := fun a => by
    rw [grOf_N, grOf_N, woN_mem]
  have hto : ∀ a b, b ∈ (grOf (woN N x) (woE E x)).to a ↔ b ∈ (grOf N E).to a ∧ a ≠ x ∧ b ≠ x := fun a b => by
    rw [grOf_mem, grOf_mem, woE_mem]
  clear GM2
  generalize grOf N E = g at *
  simp only [ops P, nz0, bb, when_t, if_false, (eqP1 _ _).run]
  have hfew := w.few
  -- Keeps
  have F2' := F2.mono (m := h2.size) (by omega)
  refine run_callF hb21 ((keeps_spec G2 w (Nat.le_refl _) F2' (by omega) x).mono ?_)
  rintro v3 h3 ⟨O3, hkeeps⟩
  have q3 := O3.size
  have G3 := (G2.old O3 (Nat.le_refl _)).mono (m := h3.size) (by omega)
  have F3 := (F2.old O3 (by omega)).mono (m := h3.size) (by omega)
  rcases hkeeps with ⟨hbad, rfl⟩ | ⟨hall, hxN, kv, rfl, N3⟩
  · -- not all are nodes
    simp only [ops P]
    refine run_callF hb22 ((keeper_spec G3 w (Nat.le_refl _) F3 (by omega) x).mono ?_)
    rintro _ h4 ⟨O4, (⟨_, rfl⟩ | ⟨h1', h2', _⟩)⟩
    rotate_left
    · exact absurd ⟨h1', h2'⟩ hbad
    have e140 : (((140 : Nat) : Int) == ((140 : Nat) : Int)) = true := rfl
    simp only [ops P, ne140, if_true, len0, eq00, e140, bb, when_t]
    exact post_ret1 ⟨rfl, O02.trans ((O3.mono (by omega)).trans (O4.mono (by omega)))⟩
  simp only [ops P]
  refine run_callF hb22 ((keeper_spec G3 w (Nat.le_refl _) F3 (by omega) x).mono ?_)
  rintro v4 h4 ⟨O4, hkeeper⟩
  have q4 := O4.size
  have N4 := N3.old O4
  have O24 : Old h2.size h2 h4 := O3.trans (O4.mono q3)
  have G4 := (G2.old O24 (Nat.le_refl _)).mono (m := h4.size) (by omega)
  have S4 := S2.old O24 (by omega)
  have T4 := T2.old O24 (by omega)
  have F4 := F2.old O24 (by omega)
  -- what Keeper told
  obtain ⟨kk, isb, er, rfl, hkp⟩ : ∃ (kk : Nat) (isb : Bool) (er : Nat), v4 = .tuple #[R kk, .bool isb, I er] ∧ ((x ∉ (farL g us 0).map (·.1) ∧ er = 142) ∨ (x ∈ (farL g us 0).map (·.1) ∧ er = 0 ∧ ((isb = false ∧ kk = 0) ∨ (isb = true ∧ Dom g us x kk)))) := by
    rcases hkeeper with ⟨hbad, _⟩ | ⟨_, _, (⟨hx, rfl⟩ | ⟨hx, (⟨_, rfl⟩ | ⟨k, hk, _, rfl⟩)⟩)⟩
    · exact absurd ⟨hall, hxN⟩ hbad
    · exact ⟨0, false, 142, rfl, .inl ⟨hx, rfl⟩⟩
    · exact ⟨0, false, 0, rfl, .inr ⟨hx, rfl, .inl ⟨rfl, rfl⟩⟩⟩
    · exact ⟨k, true, 0, rfl, .inr ⟨hx, rfl, .inr ⟨rfl, hk⟩⟩⟩
  clear hkeeper
  simp only [ops P, nz0, bb, if_false]
  -- without the node
  refine run_callF hb23 ((without_spec S4 T4 (by omega) hNl hEl x).mono ?_)
  rintro _ h5 ⟨O5, av, bv, rfl, NA, NB⟩
  have q5 := O5.size
  simp only [ops P]
  refine run_callF hb14 ((make_spec NA.rs NB.ed (Nat.le_refl _)).mono ?_)
  rintro _ h6 ⟨O6, (⟨hne, rfl⟩ | ⟨_, gb', vv', bt', bh', es', hs', rfl, GM6⟩)⟩
  · exact absurd hok' hne
  have q6 := O6.size
  have G6' : GR h6.size h6 (.pointer (some ⟨gb', 0, none⟩)) (grOf (woN N x) (woE E x)) := ⟨_, _, _, _, _, _, rfl, GM6.ga⟩
  clear GM6 NA NB
  generalize grOf (woN N x) (woE E x) = g' at *
  simp only [ops P, nz0, bb, when_t, if_false, (eqP1 _ _).run]
  have O46 : Old h4.size h4 h6 := O5.trans (O6.mono q5)
  have O06 : Old h0.size h0 h6 := O02.trans ((O24.mono (by omega)).trans (O46.mono (by omega)))
  -- the roots
  refine lp_up us.length (fun j f h => f 2 = fv ∧ f 3 = R x ∧ f 9 = .pointer (some ⟨gb, 0, none⟩) ∧ f 11 = kv ∧ f 13 = R kk ∧ f 14 = .bool isb ∧ f 15 = I er ∧ f 18 = .pointer (some ⟨gb', 0, none⟩) ∧ f 21 = I j ∧ Nw h6.size h (f 20) ((us.take j).filter fun y => decide (y ≠ x)) ∧ Old h6.size h6 h) ⟨rfl, rfl, rfl, rfl, rfl, rfl, rfl, rfl, rfl, Nw.nil _ _, Old.refl _ _⟩ ?_
  rintro j f h7 Q' hj ⟨f2, f3, f9, f11, f13, f14, f15, f18, f21, N20, O7⟩ on out
  have q7 := O7.size
  have O27 : Old h2.size h2 h7 := O24.trans ((O46.mono (by omega)).trans (O7.mono (by omega)))
  have F7 := F2.old O27 (by omega)
  unfold lKept_L4
  simp only [f2, f3, f21, (F7.len false).1, ops P, lt_R]
  by_cases hjl : j < us.length
  · obtain ⟨y, hy⟩ : ∃ e, us[j]? = some e := ⟨_, List.getElem?_eq_getElem hjl⟩
    obtain ⟨p, i1, c1, _⟩ := F7.ax hy .i64
    have hlen : ((us.take j).filter fun y => decide (y ≠ x)).length ≤ j := by
      have := List.length_filter_le (fun n => decide (n ≠ x)) (us.take j)
      rw [List.length_take] at this
      omega
    have hst : (us.take (j + 1)).filter (fun y => decide (y ≠ x)) = (us.take j).filter (fun y => decide (y ≠ x)) ++ if y ≠ x then [y] else [] := by
      rw [take_at hy, List.filter_append]
      by_cases h : y = x <;> simp [h]
    rw [if_pos (by simpa using hjl)]
    simp only [(anyh i1).1, load_run o41 c1, ops P, bne_R]
    have next : ∀ (f' : Hv.F) h', f' 2 = fv → f' 3 = R x → f' 9 = .pointer (some ⟨gb, 0, none⟩) → f' 11 = kv → f' 13 = R kk → f' 14 = .bool isb → f' 15 = I er → f' 18 = .pointer (some ⟨gb', 0, none⟩) → f' 21 = I j → Nw h6.size h' (f' 20) ((us.take (j + 1)).filter fun y => decide (y ≠ x)) → Old h6.size h6 h' → lKept_c5 Q' f' h' := fun f' h' g2 g3 g9 g11 g13 g14 g15 g18 g21 N' O' => by
      unfold lKept_c5
      simp only [g21, ops P]
      exact on _ _ hjl ⟨g2, g3, g9, g11, g13, g14, g15, g18, congrArg _ (wInc (by omega)), N', O'⟩
    by_cases hyx : y ≠ x
    · rw [if_pos hyx] at hst
      simp only [decide_eq_true hyx, if_true, (anyh i1).1, load_run o41 c1]
      refine N20.pushB y (by omega) q7 fun u v h' N' k' s' b' => ?_
      exact next _ _ f2 f3 f9 f11 f13 f14 f15 f18 f21 (by rw [hst]; exact N') ⟨by omega, fun c hc => by rw [k' c (by omega) (fun e => by have := N20.lo c e; omega), O7.get c hc]⟩
    · rw [if_neg hyx, List.append_nil] at hst
      simp only [decide_eq_false hyx, bb, if_false]
      exact next _ _ f2 f3 f9 f11 f13 f14 f15 f18 f21 (by rw [hst]; exact N20) O7
  rw [if_neg (by simpa using hjl)]
  refine out _ _ _ (by simp) ?_
  simp only [ex]
  rw [List.take_of_length_le (show us.length ≤ j by omega)] at N20
  unfold lKept_c1
  clear on out
  simp only [rdU, reduceIte, Nat.reduceEqDiff, f2, f3, f9, f18]
  have G7 := (G2.old O27 (Nat.le_refl _)).mono (m := h7.size) (by omega)
  have F7' := F7.mono (m := h7.size) (by omega)
  refine run_callF hb24' ((reach_spec G7 w (Nat.le_refl _) F7' (by omega)).mono ?_)
  rintro _ h8 ⟨O8, (⟨hbad, _⟩ | ⟨_, wv, rfl, NW⟩)⟩
  · exact absurd hall hbad
  have q8 := O8.size
  simp only [ops P]
  have N20' := N20.old O8
  have G8' := ((G6'.old (O7.trans (O8.mono (by omega))) (Nat.le_refl _))).mono (m := h8.size) (by omega)
  have hflen := List.length_filter_le (fun y => decide (y ≠ x)) us
  refine run_callF hb24' ((reach_spec G8' w' (Nat.le_refl _) N20'.rs (by omega)).mono ?_)
  have hall' : ∀ y ∈ us.filter (fun y => decide (y ≠ x)), y ∈ g'.N := fun y hy => by
    have := List.mem_filter.1 hy
    exact (hNN y).2 ⟨hall y this.1, by simpa using this.2⟩
  rintro _ h9 ⟨O9, (⟨hbad, _⟩ | ⟨_, nv', rfl, NN⟩)⟩
  · exact absurd hall' hbad
  have q9 := O9.size
  simp only [ops P]
  have NW9 := NW.old O9
  have NK9 : Nw h2.size h9 kv (keepsF g us x) := N4.old (O46.trans ((O7.mono (by omega)).trans ((O8.mono (by omega)).trans (O9.mono (by omega)))))
  have O09 : Old h0.size h0 h9 := O06.trans ((O7.mono (by omega)).trans ((O8.mono (by omega)).trans (O9.mono (by omega))))
  have hwl := reach_len w hall
  have hnl := reach_len w' hall'
  have hkl : (keepsF g us x).length ≤ 4096 := by
    unfold keepsF
    split
    · exact Nat.le_trans (List.length_filter_le _ _) hwl
    · simp
  -- what is reached
  have hnow : ∀ k, k ∈ reachF g' (us.filter fun y => decide (y ≠ x)) ↔ k ∈ (farL g us x).map (·.1) := fun k => by
    unfold reachF; rw [srt_mem]; exact wo_reach w w' hNN hto hall
  have hwas : ∀ k, k ∈ reachF g us ↔ k ∈ (farL g us 0).map (·.1) := fun k => by unfold reachF; rw [srt_mem]
  refine run_callF hb18 ((has_spec NW9.rs (by omega) x).mono ?_)
  rintro _ _ ⟨rfl, rfl⟩
  rename_i h9
  simp only [ops P]
  have elk : ∀ K, run P (.builtin .len #[22] 3 [false] [kv]) K h9 = K (I (keepsF g us x).length) h9 := fun K => (NK9.rs.len false).1 K h9
  rcases hkp with ⟨hxw, rfl⟩ | ⟨hxw, rfl, hkp⟩
  · have hxr : x ∉ reachF g us := fun h => hxw ((hwas x).1 h)
    have hk0 : keepsF g us x = [] := by unfold keepsF; rw [if_neg hxw]
    rw [hk0] at elk
    have e1 : ((([] : List Nat).length : Nat) : Int) = 0 := rfl
    have e2 : ((0 : Int) == 0) = true := rfl
    have e3 : (((142 : Nat) : Int) == 142) = true := rfl
    simp only [decide_eq_false hxr, ops P, bb, if_true, f11, f15, elk, e1, e2, e3, when_t]
    exact post_ret1 ⟨rfl, O09⟩
  have hxr : x ∈ reachF g us := (hwas x).2 hxw
  have hkm : ∀ v, v ∈ keepsF g us x ↔ v ∈ reachF g us ∧ v ∉ (farL g us x).map (·.1) := fun v => by
    unfold keepsF; rw [if_pos hxw, List.mem_filter]; simp
  simp only [decide_eq_true hxr, ops P, bb, if_false]
  refine lp_up (reachF g us).length (fun j f h => f 2 = fv ∧ f 3 = R x ∧ f 9 = .pointer (some ⟨gb, 0, none⟩) ∧ f 11 = kv ∧ f 13 = R kk ∧ f 14 = .bool isb ∧ f 15 = I 0 ∧ f 22 = wv ∧ f 24 = nv' ∧ f 26 = I j ∧ h = h9) ⟨f2, f3, f9, f11, f13, f14, f15, rfl, rfl, rfl, rfl⟩ ?_
  clear f2 f3 f9 f11 f13 f14 f15 f18 f21
  rintro j f h Q' hj ⟨f2, f3, f9, f11, f13, f14, f15, f22, f24, f26, rfl⟩ on out
  unfold lKept_L3
  simp only [f11, f22, f24, f26, (NW9.rs.len false).1, ops P, lt_R]
  by_cases hjl : j < (reachF g us).length
  · obtain ⟨y, hy⟩ : ∃ e, (reachF g us)[j]? = some e := ⟨_, List.getElem?_eq_getElem hjl⟩
    obtain ⟨p, i1, c1, _⟩ := NW9.rs.ax hy .i64
    have hyr := List.mem_of_getElem? hy
    rw [if_pos (by simpa using hjl)]
    simp only [(i1 h).still, load_still o41 c1]
    refine still_callF hb18 _ (has_spec NK9.rs (by omega) y) ?_
    try simp only [ops P, (i1 h).still, load_still o41 c1]
    refine still_callF hb18 _ (has_spec NN.rs (by omega) y) ?_
    rw [(eqB _ _ h).still]
    have hdiff : (decide (y ∈ keepsF g us x) == decide (y ∈ reachF g' (us.filter fun y => decide (y ≠ x)))) = false := by
      by_cases h1 : y ∈ (farL g us x).map (·.1)
      · have a1 : y ∉ keepsF g us x := fun h => ((hkm y).1 h).2 h1
        have a2 := (hnow y).2 h1
        rw [decide_eq_false a1, decide_eq_true a2]; rfl
      · have a1 : y ∈ keepsF g us x := (hkm y).2 ⟨hyr, h1⟩
        have a2 : y ∉ reachF g' (us.filter fun y => decide (y ≠ x)) := fun h => h1 ((hnow y).1 h)
        rw [decide_eq_true a1, decide_eq_false a2]; rfl
    rw [hdiff]
    simp only [ops P, bb, if_false]
    exact on _ _ hjl ⟨f2, f3, f9, f11, f13, f14, f15, f22, f24, congrArg _ (wInc (by omega)), rfl⟩
  rw [if_neg (by simpa using hjl)]
  refine out _ _ _ (by simp) ?_
  simp only [ex]
  unfold lKept_c2
  have hcount : (keepsF g us x).length + (reachF g' (us.filter fun y => decide (y ≠ x))).length = (reachF g us).length := by
    have hsub : ∀ k ∈ reachF g' (us.filter fun y => decide (y ≠ x)), k ∈ reachF g us := fun k hk => by
      obtain ⟨a, ha, d, wy⟩ := (reachF_mem w hall).1 ((hnow k).1 hk)
      exact (hwas k).2 ((reachF_mem w hall).2 ⟨a, ha, d, wy.weak w (hall a ha)⟩)
    have := filter_len (l := reachF g us) (m := reachF g' (us.filter fun y => decide (y ≠ x))) (reachF_nodup w hall) (reachF_nodup w' hall') hsub (fun y => decide (y ∈ (farL g us x).map (·.1))) (fun y _ => by rw [decide_eq_true_iff]; exact (hnow y).symm)
    unfold keepsF
    rw [if_pos hxw]; exact this
  have w5 : IntKind.i64.wrap (((reachF g us).length : Int) - ((reachF g' (us.filter fun y => decide (y ≠ x))).length : Int)) = ((keepsF g us x).length : Int) := by
    rw [show ((reachF g us).length : Int) - ((reachF g' (us.filter fun y => decide (y ≠ x))).length : Int) = ((keepsF g us x).length : Int) by omega]; exact wI (by omega)
  have nn : ∀ x : Nat, ((x : Int) != (x : Int)) = false := fun x => by simp
  simp only [rdU, reduceIte, Nat.reduceEqDiff, f2, f3, f9, f11, f13, f14, f15, f22, f24, (NW9.rs.len false).1, (NK9.rs.len false).1, (NN.rs.len false).1, ops P, w5, nn, nz0, bb, when_t, if_false]
  rcases hkp with ⟨rfl, rfl⟩ | ⟨rfl, hdom⟩
  · simp only [bb, if_true]
    have e2 : (((0 : Nat) : Int) == 0) = true := rfl
    simp only [e2]
    exact post_ret1 ⟨rfl, O09⟩
  simp only [bb, if_false]
  have hkN : kk ∈ g.N := (farL_ok w hall 0).sub kk hdom.1
  have G9 := (G2.old (O27.trans ((O8.mono (by omega)).trans (O9.mono (by omega)))) (Nat.le_refl _)).mono (m := h.size) (by omega)
  have F9 := (F2.old (O27.trans ((O8.mono (by omega)).trans (O9.mono (by omega)))) (by omega)).mono (m := h.size) (by omega)
  refine run_callF hb21 ((keeps_spec G9 w (Nat.le_refl _) F9 (by omega) kk).mono ?_)
  rintro _ h10 ⟨O10, (⟨hbad, _⟩ | ⟨_, _, uv, rfl, N10⟩)⟩
  · exact absurd ⟨hall, hkN⟩ hbad
  have hul : (keepsF g us kk).length ≤ 4096 := by
    unfold keepsF
    split
    · exact Nat.le_trans (List.length_filter_le _ _) hwl
    · simp
  have hup : x ∈ keepsF g us kk := by
    unfold keepsF; rw [if_pos hdom.1, List.mem_filter]
    exact ⟨hxr, by simpa using hdom.2.2⟩
  have hnk : kk ∉ keepsF g us x := fun h => ((hkm kk).1 h).2 (dom_not w hall hxw hdom.2.1 hdom.2.2)
  have hkx : kk ≠ x := hdom.2.1
  have NK10 := NK9.old O10
  simp only [ops P, eq00, bb, when_t, bne_R, decide_eq_true hkx, if_true]
  refine run_callF hb18 ((has_spec N10.rs (by omega) x).mono ?_)
  rintro _ _ ⟨rfl, rfl⟩
  rename_i h10
  simp only [decide_eq_true hup, bb, when_t, ops P, if_true]
  refine run_callF hb18 ((has_spec NK10.rs (by omega) kk).mono ?_)
  rintro _ _ ⟨rfl, rfl⟩
  rename_i h10
  simp only [decide_eq_false hnk, ops P, bb, if_true]
  exact post_ret1 ⟨rfl, O09.trans (O10.mono (by have := O09.size; omega))⟩
end Go.Proofs.G
