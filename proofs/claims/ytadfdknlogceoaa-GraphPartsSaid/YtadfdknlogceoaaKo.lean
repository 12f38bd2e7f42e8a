import Derived.Test.YtadfdknlogceoaaKn
set_option linter.all false
open Go Go.Hv
set_option maxRecDepth 100000
namespace Go.Proofs.G
theorem hb58 : hasBody P 58 = true := by kernel_rfl
theorem hb53 : hasBody P 53 = true := by kernel_rfl
theorem erase_perm {α : Type} : ∀ {l : List α} {i : Nat} {x : α}, l[i]? = some x → (x :: l.eraseIdx i).Perm l
  | [], _, _, h => by cases h
  | a :: l, 0, x, h => by
    simp only [List.getElem?_cons_zero, Option.some.injEq] at h
    subst h; exact List.Perm.refl _
  | a :: l, i + 1, x, h => by
    have := erase_perm (l := l) (i := i) (x := x) (by simpa using h)
    exact (List.Perm.swap _ _ _).trans (List.Perm.cons a this)
/-- keys: a map's keys, rising -/
theorem keys_spec {h0 : Heap} {bd : Nat} {es : List (Nat × Value)} (M : MapR h0 bd R es) (hl : es.length < 65536) :
    HCalls P 58 #[.map (some bd)] h0 fun v h' => Old h0.size h0 h' ∧ Nw h0.size h' v (srt (es.map (·.1))) := by
  refine keys_ok ?_
  unfold keys_c0
  simp only [fr]
  refine run_range Try.underlying86 M fun h1 it1 c1 s1 => ?_
  refine lp_of (fun k f h => ∃ todo acc, k = todo.length ∧ f 6 = .pointer (some ⟨h0.size, 0, none⟩) ∧ ItR h h0.size bd R es todo ∧ Nw (h0.size + 1) h (f 3) acc ∧ (acc ++ todo.map (·.1)).Perm (es.map (·.1)) ∧ Old h0.size h0 h) _ ⟨es, [], rfl, rfl, it1, Nw.nil _ _, by simp, c1.old (Nat.le_refl _) fun _ _ h => h⟩ ?_
  rintro k f h Q' ⟨todo, acc, rfl, f6, it, N, hp, O⟩ on out
  unfold keys_L2
  simp only [f6]
  have hlen : acc.length + todo.length = es.length := by have := hp.length_eq; simpa using this
  have hr : h0.size < h.size := it.lt
  refine run_next it (fun ht => ?_) fun h2 k v i hi it2 c2 s2 hent => ?_
  · simp only [ops P, bb, if_false]
    refine out _ _ _ (by simp) ?_
    simp only [ex]
    unfold keys_c1
    subst ht
    show run P (.callF 47 [f 3]) _ h
    refine run_callF hb47 ((sort_own N.own (by simp at hlen; omega)).mono ?_)
    rintro _ h3 ⟨rfl, o3, c3⟩
    have e : srt acc = srt (es.map (·.1)) := by
      have hp' : acc.Perm (es.map (·.1)) := by simpa using hp
      have hp2 : (srt acc).Perm (srt (es.map (·.1))) := (srt_perm _).trans (hp'.trans (srt_perm _).symm)
      exact hp2.eq_of_pairwise (le := (· ≤ ·)) (fun a b _ _ h1 h2 => Nat.le_antisymm h1 h2) (srt_le _) (srt_le _)
    refine post_ret1 ⟨O.chg c3 O.size fun c hc e => by have := N.lo c e; omega, ?_⟩
    rw [← e]
    exact ⟨o3, fun c hc => by have := N.lo c hc; omega⟩
  · simp only [ops P, bb, if_true]
    rw [hent.run]
    have hnr : ∀ c, blkOf (f 3) = some c → c ≠ h0.size := fun c hc e => by have := N.lo c hc; omega
    have N2 : Nw (h0.size + 1) h2 (f 3) acc := ⟨N.own.keep fun c hc => c2.get c (N.own.lt hc) (hnr c hc), N.lo⟩
    try simp only [ops P]
    refine N2.push k (by omega) (by omega) fun u w h3 N3 k3 s3 b3 => ?_
    have hbd : bd ≠ h0.size := it.ne.symm
    have hit3 : ItR h3 h0.size bd R es (todo.eraseIdx i) := it2.keep (k3 _ (by omega) fun e => hnr _ e rfl) (k3 _ it2.map.lt fun e => by
      obtain ⟨arr, q⟩ := own_cells N2.own e
      obtain ⟨arr', clk', q'⟩ := map_obj it2.map
      rw [q'] at q; cases q)
    have hil := (List.getElem?_eq_some_iff.1 hi).1
    refine on (todo.eraseIdx i).length _ _ ?_ ⟨todo.eraseIdx i, acc ++ [k], rfl, f6, hit3, N3, ?_, ⟨by have := O.size; omega, fun c hc => ?_⟩⟩
    · rw [List.length_eraseIdx, if_pos hil]; omega
    · refine List.Perm.trans ?_ hp
      rw [List.append_assoc]
      refine List.Perm.append_left _ ?_
      have := (erase_perm hi).map (·.1)
      simpa using this
    · rw [k3 c (by omega) (fun e => by have := N.lo c e; omega), c2.get c (by omega) (by omega), O.get c hc]
end Go.Proofs.G
open Go Go.Hv
set_option maxRecDepth 100000
namespace Go.Proofs.G
theorem hb56 : hasBody P 56 = true := by kernel_rfl
theorem o24 : one P 24 = true := by kernel_rfl
theorem run_box24 {a : Addr} {K : Value → Heap → Prop} {h : Heap} : run P (.box 24 (.pointer (some a))) K h = K (.pointer (some ⟨h.size, 0, none⟩)) (h.push (.cells #[.pointer (some a)] 24)) := rfl
theorem allf_spec {n : Nat} {h : Heap} {b bx : Nat} {nv : Value} {bt bh : Nat} {es hs : List (Nat × Value)} {g : Gr} (A : GA n h b nv bt bh es hs g) (hx : h[bx]? = some (.cells #[.pointer (some ⟨b, 0, none⟩)] 24 (0, 0))) (x : Nat) :
    HCalls P 83 #[R x, .pointer (some ⟨bx, 0, none⟩)] h fun v h' => v = .bool (decide (x ∉ g.N)) ∧ Old h.size h h' := by
  refine allf_ok ?_
  unfold allf_c0
  simp only [fr, load_run o24 (cell_at hx (i := 0) (v := .pointer (some ⟨b, 0, none⟩)) rfl)]
  refine run_callF hb41 ((there_spec ⟨b, nv, bt, bh, es, hs, rfl, A⟩ x).mono ?_)
  rintro _ h2 ⟨rfl, O⟩
  simp only [ops P]
  refine post_ret1 ⟨?_, O⟩
  simp only [rdU, reduceIte, Nat.reduceEqDiff]
  by_cases hx : x ∈ g.N <;> simp [hx]
/-- all: are they all nodes? -/
theorem all_spec {n : Nat} {h0 : Heap} {p : Value} {g : Gr} (G0 : GR n h0 p g) (hn : n ≤ h0.size) {frv : Value} {us : List Nat} (F : Rs n h0 frv us) (hl : us.length < 4611686018427387904) :
    HCalls P 56 #[p, frv] h0 fun v h' => v = .bool (decide (∀ x ∈ us, x ∈ g.N)) ∧ Old h0.size h0 h' := by
  obtain ⟨b, nv, bt, bh, es, hs, rfl, A⟩ := G0
  refine all_ok ?_
  unfold all_c0
  simp only [fr, run_box24, ops P]
  have O1 : Old h0.size h0 (h0.push (.cells #[.pointer (some ⟨b, 0, none⟩)] 24)) := old_push _ _ (Nat.le_refl _)
  have hbx : (h0.push (.cells #[.pointer (some ⟨b, 0, none⟩)] 24))[h0.size]? = some (.cells #[.pointer (some ⟨b, 0, none⟩)] 24 (0, 0)) := get_push_new _ _
  generalize h0.push (.cells #[.pointer (some ⟨b, 0, none⟩)] 24) = h1 at *
  have key : HCalls P 84 #[frv, .func (.func 83) #[] #[.pointer (some ⟨h0.size, 0, none⟩)]] h1 fun v h' => (∃ z : Int, v = .int .i64 z ∧ (0 ≤ z ↔ ¬ ∀ x ∈ us, x ∈ g.N)) ∧ Old h0.size h0 h' := by
    refine indexFunc_ok ?_
    unfold indexFunc_c0
    simp only [fr, (F.len false).1]
    refine lp_up us.length (fun j f h => f 0 = frv ∧ f 1 = .func (.func 83) #[] #[.pointer (some ⟨h0.size, 0, none⟩)] ∧ f 7 = I us.length ∧ f 8 = I j ∧ (∀ x ∈ us.take j, x ∈ g.N) ∧ Old h0.size h0 h ∧ h[h0.size]? = some (.cells #[.pointer (some ⟨b, 0, none⟩)] 24 (0, 0))) ⟨rfl, rfl, rfl, rfl, by simp, O1, hbx⟩ ?_
    rintro j f h Q' hj ⟨f0, f1, f7, f8, hin, O, hx⟩ on out
    unfold indexFunc_L2
    simp only [f0, f1, f7, f8, ops P, lt_R]
    by_cases hjl : j < us.length
    · obtain ⟨x, hxj⟩ : ∃ x, us[j]? = some x := ⟨_, List.getElem?_eq_getElem hjl⟩
      obtain ⟨a, a1, _, a2, _, a4⟩ := F.at hxj .i64
      rw [if_pos (by simpa using hjl), a1, load_run o41 (show cell h a = _ from (by unfold cell; rw [O.get _ (by omega)]; exact a2))]
      refine run_dyn hb83 ?_
      refine (allf_spec (A.keep fun c hc => O.get c (by omega)) hx x).mono ?_
      rintro _ h2 ⟨rfl, O2⟩
      simp only [ops P]
      have O2' : Old h0.size h0 h2 := O.trans (O2.mono O.size)
      by_cases hxm : x ∈ g.N
      · rw [if_neg (by simpa using hxm)]
        refine on _ _ hjl ⟨f0, f1, f7, congrArg _ (wInc (by omega)), fun y hy => ?_, O2', (O2.get _ (lt_of_get hx)).trans hx⟩
        rw [take_at hxj] at hy
        rcases List.mem_append.1 hy with hy | hy
        · exact hin y hy
        · simp at hy; subst hy; exact hxm
      · rw [if_pos (by simpa using hxm)]
        refine out _ _ _ (by simp) ?_
        simp only [ex]
        refine post_ret1 ⟨⟨j, rfl, ?_⟩, O2'⟩
        constructor
        · intro _ h; exact hxm (h x (List.mem_of_getElem? hxj))
        · intro _; omega
    · rw [if_neg (by simpa using hjl)]
      refine out _ _ _ (by simp) ?_
      simp only [ex]
      unfold indexFunc_c1
      rw [List.take_of_length_le (by omega)] at hin
      refine post_ret1 ⟨⟨-1, rfl, ?_⟩, O⟩
      constructor
      · intro h; omega
      · intro h; exact absurd hin h
  refine run_callF hb82 ?_
  refine HCalls.mono (R := fun v h' => v = .bool (decide (¬ ∀ x ∈ us, x ∈ g.N)) ∧ Old h0.size h0 h') ?_ ?_
  · refine containsFunc_ok ?_
    unfold containsFunc_c0
    simp only [fr]
    refine run_callF hb84 (key.mono ?_)
    rintro _ h2 ⟨⟨z, rfl, hz⟩, O⟩
    simp only [ops P]
    refine post_ret1 ⟨?_, O⟩
    simp only [rdU, reduceIte, Nat.reduceEqDiff]
    congr 1
    exact decide_eq_decide.2 hz
  · rintro _ h2 ⟨rfl, O⟩
    simp only [ops P]
    refine post_ret1 ⟨?_, O⟩
    simp only [rdU, reduceIte, Nat.reduceEqDiff]
    congr 1
    rw [decide_not, Bool.not_not]
end Go.Proofs.G
open Go Go.Hv
set_option maxRecDepth 100000
namespace Go.Proofs.G
theorem eqNil0 (h : Heap) : Ans P (.bin .eql 22 false true (.slice none 0 0) (.slice none 0 0)) (.bool true) h := by unfold Ans; kernel_rfl
theorem eqNil1 (a : Addr) (n c : Nat) (h : Heap) : Ans P (.bin .eql 22 false true (.slice (some a) n c) (.slice none 0 0)) (.bool false) h := by unfold Ans; kernel_rfl
theorem neNil0 (h : Heap) : Ans P (.bin .neq 22 false true (.slice none 0 0) (.slice none 0 0)) (.bool false) h := by unfold Ans; kernel_rfl
theorem neNil1 (a : Addr) (n c : Nat) (h : Heap) : Ans P (.bin .neq 22 false true (.slice (some a) n c) (.slice none 0 0)) (.bool true) h := by unfold Ans; kernel_rfl
theorem hb24 : hasBody P 24 = true := by kernel_rfl
theorem hb26 : hasBody P 26 = true := by kernel_rfl
/-- Reach, plainly -/
def reachF (g : Gr) (us : List Nat) : List Nat := srt ((farL g us 0).map (·.1))
theorem reach_spec {n : Nat} {h0 : Heap} {p : Value} {g : Gr} (G : GR n h0 p g) (w : g.WF) (hn : n ≤ h0.size) {frv : Value} {us : List Nat} (F : Rs n h0 frv us) (hl : us.length ≤ 4611686018427387903) :
    HCalls P 24 #[p, frv] h0 fun v h' => Old h0.size h0 h' ∧ ((¬ (∀ x ∈ us, x ∈ g.N) ∧ v = .tuple #[.slice none 0 0, I 140]) ∨ ((∀ x ∈ us, x ∈ g.N) ∧ ∃ l, v = .tuple #[l, I 0] ∧ Nw h0.size h' l (reachF g us))) := by
  refine reach_ok ?_
  unfold reach_c0
  simp only [fr]
  refine run_callF hb56 ((all_spec G hn F (by omega)).mono ?_)
  rintro _ h1 ⟨rfl, O1⟩
  simp only [ops P]
  by_cases hall : ∀ x ∈ us, x ∈ g.N
  · rw [if_neg (by simpa using hall)]
    have G1 := G.keep (h' := h1) fun c hc => O1.get c (by omega)
    have F1 := F.keep (h' := h1) fun c hc => O1.get c (by omega)
    refine run_callF hb53 ((far_spec (n0 := h1.size) (G1.mono (by have := O1.size; omega)) w (F1.mono (by have := O1.size; omega)) hall (by omega) 0 (Nat.le_refl _)).mono ?_)
    rintro _ h2 ⟨bd, rfl, hlo, M, O2⟩
    have ok := farL_ok w hall 0
    have hlen := ok.len
    have hfew := w.few
    refine run_callF hb58 ((keys_spec M (by simp; omega)).mono ?_)
    rintro l h3 ⟨O3, N⟩
    have e : ((farL g us 0).map fun p => (p.1, I p.2)).map (·.1) = (farL g us 0).map (·.1) := by simp
    rw [e] at N
    have q1 := O1.size
    have q2 := O2.size
    exact post_ret2 ⟨(O1.trans (O2.mono q1)).trans (O3.mono (by omega)), .inr ⟨hall, l, rfl, N.mono (by omega)⟩⟩
  · rw [if_pos (by simpa using hall)]
    exact post_ret2 ⟨O1, .inl ⟨hall, rfl⟩⟩
theorem tRn {g : Gr} (w : g.WF) : (trn g).WF := by
  refine ⟨?_, fun n => cpt_up (srt_le _), fun n t ht => ?_, ?_, fun h0 => w.pos (srt_mem.1 h0)⟩
  · have hs := srt_le g.N
    have hn : (srt g.N).Nodup := (srt_perm g.N).nodup_iff.2 (nodup_up w.up)
    exact (hs.and hn).imp fun ⟨a, b⟩ => by omega
  · have ht' : t ∈ toAll (tE g) n := srt_mem.1 (cpt_mem.1 ht)
    rw [toAll_tE g (fun n => nodup_up (w.upt n))] at ht'
    exact srt_mem.2 (List.mem_filter.1 ht').1
  · show (srt g.N).length ≤ 4096; rw [srt_len]; exact w.few
theorem dOf_far {g : Gr} (w : g.WF) {us : List Nat} (hf : ∀ x ∈ us, x ∈ g.N) (wo : Nat) (k d : Nat) (h : dOf (farL g us wo) k = some d) : d ≤ 100000 := by
  have ok := farL_ok w hf wo
  unfold dOf at h
  obtain ⟨p, hp, rfl⟩ := Option.map_eq_some_iff.1 h
  have hm := List.mem_of_find?_eq_some hp
  obtain ⟨i, hi, he⟩ := List.mem_iff_getElem.1 hm
  have := ok.near i p.1 p.2 (by rw [List.getElem?_eq_getElem hi, he])
  have := ok.len
  have := w.few
  omega
theorem pathF_ne {g : Gr} {L : List (Nat × Nat)} : ∀ (k : Nat) (acc : List Nat), acc ≠ [] → pathF g L k acc ≠ []
  | 0, acc, h => h
  | k + 1, acc, h => by
    rw [pathF]
    split
    · exact pathF_ne k _ (by simp)
    · exact pathF_ne k _ h
/-- Path, plainly: none: 142 -/
def wayF (g : Gr) (a b : Nat) : Option (List Nat) := (dOf (farL (trn g) [b] 0) a).map fun d => pathF g (farL (trn g) [b] 0) d [a]
theorem path0_spec {n : Nat} {h0 : Heap} {p : Value} {g : Gr} (G : GR n h0 p g) (w : g.WF) (hn : n ≤ h0.size) (a b : Nat) :
    HCalls P 26 #[p, R a, R b] h0 fun v h' => Old h0.size h0 h' ∧ ((¬ (a ∈ g.N ∧ b ∈ g.N) ∧ v = .tuple #[.slice none 0 0, I 140]) ∨ (a ∈ g.N ∧ b ∈ g.N ∧ wayF g a b = none ∧ v = .tuple #[.slice none 0 0, I 142]) ∨ (a ∈ g.N ∧ b ∈ g.N ∧ ∃ l way, wayF g a b = some way ∧ v = .tuple #[l, I 0] ∧ Nw h0.size h' l way)) := by
  refine path0_ok ?_
  unfold path0_c0
  simp only [fr]
  refine run_callF hb41 ((there_spec G a).mono ?_)
  rintro _ h1 ⟨rfl, O1⟩
  simp only [ops P]
  by_cases ha : a ∈ g.N
  rotate_left
  · simp only [decide_eq_false ha, ops P, bb, if_true]
    exact post_ret2 ⟨O1, .inl ⟨fun h => ha h.1, rfl⟩⟩
  simp only [decide_eq_true ha, ops P, bb, if_false]
  have G1 := G.keep (h' := h1) fun c hc => O1.get c (by omega)
  refine run_callF hb41 ((there_spec G1 b).mono ?_)
  rintro _ h2 ⟨rfl, O2⟩
  have q1 := O1.size
  have q2 := O2.size
  have O02 : Old h0.size h0 h2 := O1.trans (O2.mono q1)
  by_cases hb : b ∈ g.N
  rotate_left
  · simp only [decide_eq_false hb, ops P, bb, if_true]
    exact post_ret2 ⟨O02, .inl ⟨fun h => hb h.2, rfl⟩⟩
  simp only [decide_eq_true hb, ops P, bb, if_false]
  have G2 := G.keep (h' := h2) fun c hc => O02.get c (by omega)
  refine run_callF hb33 ((turned_spec G2 w (by omega)).mono ?_)
  rintro _ h3 ⟨O3, bb', vv, bt, bh, es, hs, rfl, GT⟩
  have q3 := O3.size
  refine run_buildSlice1 eRef rfl ?_
  have GT4 := GT.old (h' := h3.push (.cells #[R b] 41)) (old_push _ _ (Nat.le_refl _))
  have S4 : Rs (h3.push (.cells #[R b] 41)).size (h3.push (.cells #[R b] 41)) (.slice (some ⟨h3.size, 0, none⟩) 1 1) [b] := ⟨Row.sl (Row.mk' (get_push_new _ _)), fun c hc => by cases hc; simp⟩
  have wt := tRn w
  have hbt : ∀ x ∈ [b], x ∈ (trn g).N := fun x hx => by simp at hx; subst hx; exact srt_mem.2 hb
  refine run_callF hb53 ((far_spec (n0 := (h3.push (.cells #[R b] 41)).size) ⟨_, _, _, _, _, _, rfl, GT4.ga⟩ wt S4 hbt (by simp) 0 (Nat.le_refl _)).mono ?_)
  rintro _ h5 ⟨bd, rfl, hlo, M, O5⟩
  have q5 := O5.size
  simp only [Array.size_push] at hlo q5
  have O35 : Old h3.size h3 h5 := (old_push _ _ (Nat.le_refl _)).trans (O5.mono (by simp))
  have O05 : Old h0.size h0 h5 := (O02.trans (O3.mono q2 |>.mono (by omega))).trans (O35.mono (by omega))
  have G5 := G.keep (h' := h5) fun c hc => O05.get c (by omega)
  refine run_callF hb54 ((path_spec G5 w (by omega) M (dOf_far wt hbt 0) a).mono ?_)
  rintro l h6 ⟨O6, hl⟩
  have O06 : Old h0.size h0 h6 := O05.trans (O6.mono (by omega))
  cases hd : dOf (farL (trn g) [b] 0) a with
  | none =>
    rw [hd] at hl
    subst hl
    rw [(eqNil0 h6).run]
    simp only [ops P, if_true]
    exact post_ret2 ⟨O06, .inr (.inl ⟨ha, hb, by unfold wayF; rw [hd]; rfl, rfl⟩)⟩
  | some d =>
    rw [hd] at hl
    have hne : pathF g (farL (trn g) [b] 0) d [a] ≠ [] := pathF_ne d _ (by simp)
    have hl : Nw h5.size h6 l (pathF g (farL (trn g) [b] 0) d [a]) := hl
    obtain ⟨bb2, cap, rfl, _⟩ : ∃ b2 cap, l = .slice (some ⟨b2, 0, none⟩) ((pathF g (farL (trn g) [b] 0) d [a]).map R).length cap ∧ True := by
      rcases hl.own with ⟨_, h0⟩ | ⟨b2, cap, rfl, _⟩
      · exact absurd (by simpa using h0) hne
      · exact ⟨b2, cap, rfl, trivial⟩
    rw [(eqNil1 _ _ _ h6).run]
    simp only [ops P, bb, if_false]
    exact post_ret2 ⟨O06, .inr (.inr ⟨ha, hb, _, _, by unfold wayF; rw [hd]; rfl, rfl, hl.mono (by omega)⟩)⟩
end Go.Proofs.G
namespace Go.Proofs.G
/-- a way of d steps from a node to another one, past none of wo -/
inductive Way (g : Gr) (wo : Nat) (a : Nat) : Nat → Nat → Prop
  | nil : a ≠ wo → Way g wo a a 0
  | snoc {b c d : Nat} : Way g wo a b d → c ∈ g.to b → c ≠ wo → Way g wo a c (d + 1)
/-- the search in breadth, i of its list done -/
structure Bfs (g : Gr) (wo : Nat) (fr : List Nat) (i : Nat) (L : List (Nat × Nat)) : Prop where
  nodup : (L.map (·.1)).Nodup
  way : ∀ p ∈ L, ∃ a ∈ fr, Way g wo a p.1 p.2
  start : ∀ a ∈ fr, a ≠ wo → ∃ q ∈ L, q.1 = a ∧ q.2 = 0
  sorted : L.Pairwise (fun p q => p.2 ≤ q.2)
  near : ∀ p, L[i]? = some p → ∀ q ∈ L, q.2 ≤ p.2 + 1
  done : ∀ j, j < i → ∀ p, L[j]? = some p → ∀ t ∈ g.to p.1, t ≠ wo → ∃ q ∈ L, q.1 = t ∧ q.2 ≤ p.2 + 1
theorem addD_mem {L : List (Nat × Nat)} {wo n d : Nat} {q : Nat × Nat} (h : q ∈ L) : q ∈ addD L wo n d := by
  unfold addD; split
  · exact h
  · exact List.mem_append_left _ h
theorem Bfs.add {g : Gr} {wo : Nat} {fr : List Nat} {i : Nat} {L : List (Nat × Nat)} (B : Bfs g wo fr i L) {n d t : Nat} (hi : L[i]? = some (n, d)) (ht : t ∈ g.to n) :
    Bfs g wo fr i (addD L wo t (d + 1)) ∧ (t ≠ wo → ∃ q ∈ addD L wo t (d + 1), q.1 = t ∧ q.2 ≤ d + 1) := by
  have hil : i < L.length := (List.getElem?_eq_some_iff.1 hi).1
  have hm : (n, d) ∈ L := List.mem_of_getElem? hi
  by_cases hc : t ∈ L.map (·.1) ∨ t = wo
  · have e : addD L wo t (d + 1) = L := by unfold addD; rw [if_pos hc]
    rw [e]
    refine ⟨B, fun hne => ?_⟩
    rcases hc with hc | hc
    · obtain ⟨q, hq, rfl⟩ := List.mem_map.1 hc
      exact ⟨q, hq, rfl, B.near _ hi q hq⟩
    · exact absurd hc hne
  · have e : addD L wo t (d + 1) = L ++ [(t, d + 1)] := by unfold addD; rw [if_neg hc]
    rw [not_or] at hc
    have hget : ∀ j, j ≤ i → (L ++ [(t, d + 1)])[j]? = L[j]? := fun j hj => List.getElem?_append_left (by omega)
    rw [e]
    refine ⟨⟨?_, ?_, ?_, ?_, ?_, ?_⟩, fun _ => ⟨(t, d + 1), by simp, rfl, Nat.le_refl _⟩⟩
    · rw [List.map_append, List.nodup_append]
      refine ⟨B.nodup, by simp, fun a ha b hb => ?_⟩
      simp only [List.map_cons, List.map_nil, List.mem_singleton] at hb
      subst hb
      intro e; subst e; exact hc.1 ha
    · intro p hp
      rcases List.mem_append.1 hp with hp | hp
      · exact B.way p hp
      · simp only [List.mem_singleton] at hp
        subst hp
        obtain ⟨a, ha, w⟩ := B.way _ hm
        exact ⟨a, ha, .snoc w ht hc.2⟩
    · intro a ha hne
      obtain ⟨q, hq, h⟩ := B.start a ha hne
      exact ⟨q, List.mem_append_left _ hq, h⟩
    · rw [List.pairwise_append]
      refine ⟨B.sorted, by simp, fun p hp q hq => ?_⟩
      simp only [List.mem_singleton] at hq
      subst hq
      exact B.near _ hi p hp
    · intro p hp q hq
      rw [hget i (Nat.le_refl _), hi] at hp
      cases hp
      rcases List.mem_append.1 hq with hq | hq
      · exact B.near _ hi q hq
      · simp only [List.mem_singleton] at hq; subst hq; exact Nat.le_refl _
    · intro j hj p hp t' ht' hne
      rw [hget j (by omega)] at hp
      obtain ⟨q, hq, h⟩ := B.done j hj p hp t' ht' hne
      exact ⟨q, List.mem_append_left _ hq, h⟩
theorem Bfs.addE {g : Gr} {wo : Nat} {fr : List Nat} {i n d : Nat} : ∀ (ts : List Nat) {L : List (Nat × Nat)}, Bfs g wo fr i L → L[i]? = some (n, d) → (∀ t ∈ ts, t ∈ g.to n) →
    Bfs g wo fr i (farE wo (d + 1) ts L) ∧ ∀ t ∈ ts, t ≠ wo → ∃ q ∈ farE wo (d + 1) ts L, q.1 = t ∧ q.2 ≤ d + 1
  | [], L, B, hi, h => ⟨B, fun t ht => by cases ht⟩
  | t :: ts, L, B, hi, h => by
    have hil : i < L.length := (List.getElem?_eq_some_iff.1 hi).1
    obtain ⟨B1, h1⟩ := B.add hi (h t (by simp))
    have hi1 : (addD L wo t (d + 1))[i]? = some (n, d) := by rw [addD_get hil]; exact hi
    obtain ⟨B2, h2⟩ := Bfs.addE ts B1 hi1 fun t ht => h t (List.mem_cons_of_mem _ ht)
    refine ⟨B2, fun s hs hne => ?_⟩
    rcases List.mem_cons.1 hs with rfl | hs
    · obtain ⟨q, hq, hh⟩ := h1 hne
      refine ⟨q, ?_, hh⟩
      have : ∀ (ts : List Nat) (L : List (Nat × Nat)), q ∈ L → q ∈ farE wo (d + 1) ts L := by
        intro ts
        induction ts with
        | nil => intro L hL; exact hL
        | cons t ts ih => intro L hL; exact ih _ (addD_mem hL)
      exact this ts _ hq
    · exact h2 s hs hne
theorem Bfs.step {g : Gr} {wo : Nat} {fr : List Nat} {i n d : Nat} {L : List (Nat × Nat)} (B : Bfs g wo fr i L) (hi : L[i]? = some (n, d)) : Bfs g wo fr (i + 1) (farE wo (d + 1) (g.to n) L) := by
  have hil : i < L.length := (List.getElem?_eq_some_iff.1 hi).1
  obtain ⟨B1, h1⟩ := B.addE (g.to n) hi fun t ht => ht
  have hi1 : (farE wo (d + 1) (g.to n) L)[i]? = some (n, d) := by rw [farE_get _ _ hil]; exact hi
  refine ⟨B1.nodup, B1.way, B1.start, B1.sorted, ?_, ?_⟩
  · intro p hp q hq
    have h2 := B1.near _ hi1 q hq
    have h3 : d ≤ p.2 := by
      have := List.pairwise_iff_getElem.1 B1.sorted i (i + 1) (by have := farE_len (wo := wo) (d := d + 1) (g.to n) L; omega) (List.getElem?_eq_some_iff.1 hp).1 (Nat.lt_succ_self i)
      rw [(List.getElem?_eq_some_iff.1 hp).2, (List.getElem?_eq_some_iff.1 hi1).2] at this
      exact this
    simp only at h2
    omega
  · intro j hj p hp t ht hne
    rcases Nat.lt_succ_iff_lt_or_eq.1 hj with hj | rfl
    · exact B1.done j hj p hp t ht hne
    · rw [hi1] at hp; cases hp
      exact h1 t ht hne
theorem Bfs.stop {g : Gr} {wo : Nat} {fr : List Nat} (w : g.WF) : ∀ (k i : Nat) {L : List (Nat × Nat)}, Bfs g wo fr i L → FarOk g.N L → g.N.length < k + i → ∃ i', (farG g wo k i L).length ≤ i' ∧ Bfs g wo fr i' (farG g wo k i L)
  | 0, i, L, B, o, h => ⟨i, by have := o.len; unfold farG; omega, B⟩
  | k + 1, i, L, B, o, h => by
    unfold farG
    cases hi : L[i]? with
    | none => exact ⟨i, by simpa using hi, B⟩
    | some p =>
      obtain ⟨n, d⟩ := p
      exact Bfs.stop w k (i + 1) (B.step hi) (o.addE _ (fun t ht => w.sub n t ht) (by
        have := o.near i n d hi
        have := (List.getElem?_eq_some_iff.1 hi).1
        omega)) (by omega)
theorem Bfs.begin {g : Gr} {wo : Nat} {fr : List Nat} : Bfs g wo fr 0 (farE wo 0 fr []) := by
  have key : ∀ (us : List Nat) (L : List (Nat × Nat)), (L.map (·.1)).Nodup → (∀ p ∈ L, p.1 ∈ fr ∧ p.1 ≠ wo ∧ p.2 = 0) → (∀ u ∈ us, u ∈ fr) →
      ((farE wo 0 us L).map (·.1)).Nodup ∧ (∀ p ∈ farE wo 0 us L, p.1 ∈ fr ∧ p.1 ≠ wo ∧ p.2 = 0) ∧ (∀ p ∈ L, p ∈ farE wo 0 us L) ∧ ∀ u ∈ us, u ≠ wo → ∃ q ∈ farE wo 0 us L, q.1 = u := by
    intro us
    induction us with
    | nil => intro L h1 h2 _; exact ⟨h1, h2, fun p hp => hp, fun u hu => by cases hu⟩
    | cons u us ih =>
      intro L h1 h2 h3
      have h2' : ∀ p ∈ addD L wo u 0, p.1 ∈ fr ∧ p.1 ≠ wo ∧ p.2 = 0 := by
        intro p hp
        unfold addD at hp
        split at hp
        · exact h2 p hp
        · rename_i hc
          rw [not_or] at hc
          rcases List.mem_append.1 hp with hp | hp
          · exact h2 p hp
          · simp only [List.mem_singleton] at hp; subst hp; exact ⟨h3 u (by simp), hc.2, rfl⟩
      obtain ⟨a, b, c, e⟩ := ih (addD L wo u 0) (addD_nodup h1) h2' fun v hv => h3 v (List.mem_cons_of_mem _ hv)
      refine ⟨a, b, fun p hp => c p (addD_mem hp), fun v hv hne => ?_⟩
      rcases List.mem_cons.1 hv with rfl | hv
      · by_cases hc : v ∈ L.map (·.1) ∨ v = wo
        · rcases hc with hc | hc
          · obtain ⟨q, hq, rfl⟩ := List.mem_map.1 hc
            exact ⟨q, c q (addD_mem hq), rfl⟩
          · exact absurd hc hne
        · refine ⟨(v, 0), c _ ?_, rfl⟩
          unfold addD; rw [if_neg hc]; simp
      · exact e v hv hne
  obtain ⟨a, b, _, e⟩ := key fr [] (by simp) (by simp) fun u hu => hu
  refine ⟨a, ?_, ?_, ?_, ?_, ?_⟩
  · intro p hp
    obtain ⟨h1, h2, h3⟩ := b p hp
    refine ⟨p.1, h1, ?_⟩
    rw [h3]; exact .nil h2
  · intro u hu hne
    obtain ⟨q, hq, h⟩ := e u hu hne
    exact ⟨q, hq, h, (b q hq).2.2⟩
  · refine List.Pairwise.imp_of_mem (R := fun _ _ => True) ?_ (List.pairwise_of_forall (fun _ _ => trivial))
    intro p q hp hq _
    rw [(b p hp).2.2]; exact Nat.zero_le _
  · intro p hp q hq
    rw [(b q hq).2.2]; exact Nat.zero_le _
  · intro j hj; omega
theorem Bfs.far {g : Gr} {wo i : Nat} {fr : List Nat} {L : List (Nat × Nat)} (B : Bfs g wo fr i L) (hi : L.length ≤ i) {a k d : Nat} (ha : a ∈ fr) (w : Way g wo a k d) : ∃ q ∈ L, q.1 = k ∧ q.2 ≤ d := by
  induction w with
  | nil h =>
    obtain ⟨q, hq, h1, h2⟩ := B.start a ha h
    exact ⟨q, hq, h1, by omega⟩
  | snoc w ht hne ih =>
    obtain ⟨q, hq, rfl, hd⟩ := ih
    obtain ⟨j, hj, he⟩ := List.mem_iff_getElem.1 hq
    obtain ⟨q', hq', h1, h2⟩ := B.done j (by omega) q (by rw [List.getElem?_eq_getElem hj, he]) _ ht hne
    exact ⟨q', hq', h1, by omega⟩
theorem dOf_mem {L : List (Nat × Nat)} (hn : (L.map (·.1)).Nodup) {k d : Nat} : dOf L k = some d ↔ (k, d) ∈ L := by
  unfold dOf
  constructor
  · intro h
    obtain ⟨p, hp, rfl⟩ := Option.map_eq_some_iff.1 h
    have h1 := List.mem_of_find?_eq_some hp
    have h2 := List.find?_some hp
    simp only [beq_iff_eq] at h2
    subst h2; exact h1
  · intro h
    obtain ⟨i, hi, he⟩ := List.mem_iff_getElem.1 h
    rw [find_fst hn (i := i) (by rw [List.getElem?_eq_getElem hi, he])]; rfl
theorem dOf_none {L : List (Nat × Nat)} {k : Nat} : dOf L k = none ↔ k ∉ L.map (·.1) := by
  unfold dOf
  rw [Option.map_eq_none_iff, find_none]
/-- how far: the fewest steps -/
theorem far_iff {g : Gr} (w : g.WF) {fr : List Nat} (hf : ∀ x ∈ fr, x ∈ g.N) {wo k d : Nat} : dOf (farL g fr wo) k = some d ↔ (∃ a ∈ fr, Way g wo a k d) ∧ ∀ a ∈ fr, ∀ d', Way g wo a k d' → d ≤ d' := by
  have o : FarOk g.N (farE wo 0 fr []) := (FarOk.nil g.N).addE fr hf (by simp)
  obtain ⟨i, hi, B⟩ := Bfs.stop w (g.N.length + 1) 0 (Bfs.begin (g := g) (wo := wo) (fr := fr)) o (by omega)
  rw [show farG g wo (g.N.length + 1) 0 (farE wo 0 fr []) = farL g fr wo from rfl] at hi B
  rw [dOf_mem B.nodup]
  have least : ∀ {d : Nat}, (k, d) ∈ farL g fr wo → ∀ a ∈ fr, ∀ d', Way g wo a k d' → d ≤ d' := by
    intro d hm a ha d' wy
    obtain ⟨q, hq, h1, h2⟩ := B.far hi ha wy
    have e1 := (dOf_mem B.nodup).2 hm
    have e2 := (dOf_mem B.nodup (k := k) (d := q.2)).2 (by rw [← h1]; exact hq)
    rw [e1] at e2; cases e2; exact h2
  constructor
  · intro hm
    exact ⟨B.way _ hm, least hm⟩
  · rintro ⟨⟨a, ha, wy⟩, hl⟩
    obtain ⟨q, hq, h1, h2⟩ := B.far hi ha wy
    obtain ⟨a', ha', wy'⟩ := B.way q hq
    rw [h1] at wy'
    have := hl a' ha' _ wy'
    have e : q = (k, d) := by obtain ⟨x, y⟩ := q; simp only at h1 h2 this ⊢; subst h1; congr 1; omega
    rw [← e]; exact hq
theorem far_none {g : Gr} (w : g.WF) {fr : List Nat} (hf : ∀ x ∈ fr, x ∈ g.N) {wo k : Nat} : dOf (farL g fr wo) k = none ↔ ¬ ∃ a ∈ fr, ∃ d, Way g wo a k d := by
  have o : FarOk g.N (farE wo 0 fr []) := (FarOk.nil g.N).addE fr hf (by simp)
  obtain ⟨i, hi, B⟩ := Bfs.stop w (g.N.length + 1) 0 (Bfs.begin (g := g) (wo := wo) (fr := fr)) o (by omega)
  rw [show farG g wo (g.N.length + 1) 0 (farE wo 0 fr []) = farL g fr wo from rfl] at hi B
  rw [dOf_none]
  constructor
  · rintro h ⟨a, ha, d, wy⟩
    obtain ⟨q, hq, h1, h2⟩ := B.far hi ha wy
    exact h (List.mem_map.2 ⟨q, hq, h1⟩)
  · rintro h hm
    obtain ⟨q, hq, rfl⟩ := List.mem_map.1 hm
    obtain ⟨a, ha, wy⟩ := B.way q hq
    exact h ⟨a, ha, _, wy⟩
end Go.Proofs.G
namespace Go.Proofs.G
theorem Way.ne {g : Gr} {wo a b d : Nat} (w : Way g wo a b d) : a ≠ wo ∧ b ≠ wo := by
  induction w with
  | nil h => exact ⟨h, h⟩
  | snoc _ _ h ih => exact ⟨ih.1, h⟩
theorem Way.cons {g : Gr} {wo a b c d : Nat} (w : Way g wo b c d) (ha : a ≠ wo) (ht : b ∈ g.to a) : Way g wo a c (d + 1) := by
  induction w with
  | nil h => exact .snoc (.nil ha) ht h
  | snoc _ h1 h2 ih => exact .snoc ih h1 h2
theorem Way.trans {g : Gr} {wo a b c d e : Nat} (w : Way g wo a b d) (v : Way g wo b c e) : Way g wo a c (d + e) := by
  induction v with
  | nil _ => exact w
  | snoc _ h1 h2 ih => exact .snoc ih h1 h2
theorem Way.zero {g : Gr} {wo a b : Nat} (w : Way g wo a b 0) : a = b := by cases w; rfl
theorem Way.head {g : Gr} {wo a c d : Nat} (w : Way g wo a c (d + 1)) : ∃ b, b ∈ g.to a ∧ Way g wo b c d := by
  generalize he : d + 1 = e at w
  induction w generalizing d with
  | nil _ => omega
  | @snoc b c' d' w h1 h2 ih =>
    have hd : d = d' := by omega
    subst hd
    cases d with
    | zero => have := w.zero; subst this; exact ⟨c', h1, .nil h2⟩
    | succ d =>
      obtain ⟨x, hx, wx⟩ := ih rfl
      exact ⟨x, hx, .snoc wx h1 h2⟩
theorem Way.inN {g : Gr} (G : g.WF) {wo a b d : Nat} (w : Way g wo a b d) (ha : a ∈ g.N) : b ∈ g.N := by
  induction w with
  | nil _ => exact ha
  | snoc _ h1 _ _ => exact G.sub _ _ h1
theorem trn_N {g : Gr} (w : g.WF) : (trn g).N = g.N := by
  show srt g.N = g.N
  refine (srt_perm g.N).eq_of_pairwise (le := (· ≤ ·)) (fun a b _ _ h1 h2 => Nat.le_antisymm h1 h2) (srt_le _) (w.up.imp fun h => Nat.le_of_lt h)
theorem trn_to {g : Gr} (w : g.WF) {k t : Nat} : t ∈ (trn g).to k ↔ t ∈ g.N ∧ k ∈ g.to t := by
  show t ∈ cpt (srt (toAll (tE g) k)) ↔ _
  rw [cpt_mem, srt_mem, toAll_tE g (fun n => nodup_up (w.upt n)), List.mem_filter]
  simp
theorem way_trn {g : Gr} (G : g.WF) {a b d : Nat} (ha : a ∈ g.N) (hb : b ∈ g.N) : Way (trn g) 0 b a d ↔ Way g 0 a b d := by
  constructor
  · intro w
    clear ha
    induction w with
    | nil h => exact .nil h
    | snoc w h1 h2 ih =>
      have := (trn_to G).1 h1
      exact ih.cons h2 this.2
  · intro w
    clear hb
    induction w with
    | nil h => exact .nil h
    | snoc w h1 h2 ih =>
      have hb := w.inN G ha
      exact ih.cons h2 ((trn_to G).2 ⟨hb, h1⟩)
/-- how far it is from a to b -/
def dist (g : Gr) (a b : Nat) : Option Nat := dOf (farL (trn g) [b] 0) a
theorem dist_iff {g : Gr} (G : g.WF) {a b d : Nat} (ha : a ∈ g.N) (hb : b ∈ g.N) : dist g a b = some d ↔ Way g 0 a b d ∧ ∀ d', Way g 0 a b d' → d ≤ d' := by
  unfold dist
  rw [far_iff (tRn G) (fun x hx => by simp at hx; subst hx; rw [trn_N G]; exact hb)]
  simp only [List.mem_singleton, exists_eq_left, forall_eq]
  simp only [way_trn G ha hb]
theorem dist_none {g : Gr} (G : g.WF) {a b : Nat} (ha : a ∈ g.N) (hb : b ∈ g.N) : dist g a b = none ↔ ¬ ∃ d, Way g 0 a b d := by
  unfold dist
  rw [far_none (tRn G) (fun x hx => by simp at hx; subst hx; rw [trn_N G]; exact hb)]
  simp only [List.mem_singleton, exists_eq_left]
  simp only [way_trn G ha hb]
theorem way_least {g : Gr} {a b d : Nat} (w : Way g 0 a b d) : ∃ e, e ≤ d ∧ Way g 0 a b e ∧ ∀ d', Way g 0 a b d' → e ≤ d' := by
  induction d using Nat.strongRecOn with
  | _ d ih =>
    by_cases h : ∃ e, e < d ∧ Way g 0 a b e
    · obtain ⟨e, he, we⟩ := h
      obtain ⟨x, h1, h2⟩ := ih e he we
      exact ⟨x, by omega, h2⟩
    · refine ⟨d, Nat.le_refl _, w, fun d' w' => ?_⟩
      by_cases hl : d ≤ d'
      · exact hl
      · exact absurd ⟨d', by omega, w'⟩ h
theorem dist_le {g : Gr} (G : g.WF) {a b d : Nat} (ha : a ∈ g.N) (hb : b ∈ g.N) (w : Way g 0 a b d) : ∃ e, e ≤ d ∧ dist g a b = some e := by
  obtain ⟨e, h1, h2⟩ := way_least w
  exact ⟨e, h1, (dist_iff G ha hb).2 h2⟩
/-- from a node an edge less far -/
theorem dist_next {g : Gr} (G : g.WF) {x b k : Nat} (hx : x ∈ g.N) (hb : b ∈ g.N) (h : dist g x b = some (k + 1)) : ∃ t ∈ g.to x, dist g t b = some k := by
  obtain ⟨w, hl⟩ := (dist_iff G hx hb).1 h
  obtain ⟨t, ht, wt⟩ := w.head
  have htN := G.sub _ _ ht
  refine ⟨t, ht, (dist_iff G htN hb).2 ⟨wt, fun d' w' => ?_⟩⟩
  have := hl _ (w'.cons w.ne.1 ht)
  omega
/-- a shortest way, listed -/
structure Short (g : Gr) (a b d : Nat) (l : List Nat) : Prop where
  len : l.length = d + 1
  far : ∀ i x, l[i]? = some x → x ∈ g.N ∧ dist g x b = some (d - i)
  step : ∀ i x y, l[i]? = some x → l[i + 1]? = some y → y ∈ g.to x
  head : l[0]? = some a
theorem pathF_short {g : Gr} (G : g.WF) {a b d : Nat} (hb : b ∈ g.N) : ∀ (k : Nat) (acc : List Nat), acc.length + k = d + 1 → acc ≠ [] → (∀ i x, acc[i]? = some x → x ∈ g.N ∧ dist g x b = some (d - i)) →
    (∀ i x y, acc[i]? = some x → acc[i + 1]? = some y → y ∈ g.to x) → acc[0]? = some a → Short g a b d (pathF g (farL (trn g) [b] 0) k acc)
  | 0, acc, h1, _, h2, h3, h4 => ⟨by simpa [pathF] using h1, h2, h3, h4⟩
  | k + 1, acc, h1, hne, h2, h3, h4 => by
    have hpos : 0 < acc.length := List.length_pos_iff.2 hne
    have hlast : acc[acc.length - 1]? = some (acc.getLast?.getD 0) := by
      rw [← List.getLast?_eq_getElem?]
      cases h : acc.getLast? with
      | none => rw [List.getLast?_eq_none_iff] at h; exact absurd h hne
      | some x => rfl
    obtain ⟨hxN, hx⟩ := h2 _ _ hlast
    rw [show d - (acc.length - 1) = k + 1 by omega] at hx
    obtain ⟨t, ht, hd⟩ := dist_next G hxN hb hx
    rw [pathF]
    cases hf : (g.to (acc.getLast?.getD 0)).find? (fun t => decide (dOf (farL (trn g) [b] 0) t = some k)) with
    | none =>
      have := List.find?_eq_none.1 hf t ht
      exact absurd hd (by simpa [dist] using this)
    | some u =>
      have hu := List.mem_of_find?_eq_some hf
      have hdu : dist g u b = some k := by simpa [dist] using List.find?_some hf
      have snoc : ∀ i x, (acc ++ [u])[i]? = some x → acc[i]? = some x ∨ (i = acc.length ∧ x = u) := by
        intro i x h
        by_cases hi : i < acc.length
        · rw [List.getElem?_append_left hi] at h; exact .inl h
        · rw [List.getElem?_append_right (by omega)] at h
          have : i - acc.length = 0 := by
            by_cases h0 : i - acc.length = 0
            · exact h0
            · rw [List.getElem?_eq_none (by simp; omega)] at h; cases h
          rw [this] at h
          simp at h
          exact .inr ⟨by omega, h.symm⟩
      refine pathF_short G hb k (acc ++ [u]) (by simp; omega) (by simp) (fun i x h => ?_) (fun i x y hi hj => ?_) (by rw [List.getElem?_append_left hpos]; exact h4)
      · rcases snoc i x h with h | ⟨rfl, rfl⟩
        · exact h2 i x h
        · exact ⟨G.sub _ _ hu, by rw [hdu]; congr 1; omega⟩
      · rcases snoc _ _ hj with hj | ⟨hj, rfl⟩
        · have : i + 1 < acc.length := (List.getElem?_eq_some_iff.1 hj).1
          rw [List.getElem?_append_left (by omega)] at hi
          exact h3 i x y hi hj
        · have : i = acc.length - 1 := by omega
          subst this
          rw [List.getElem?_append_left (by omega), hlast] at hi
          cases hi; exact hu
theorem wayF_some {g : Gr} (G : g.WF) {a b : Nat} (ha : a ∈ g.N) (hb : b ∈ g.N) {l : List Nat} (h : wayF g a b = some l) : ∃ d, dist g a b = some d ∧ Short g a b d l := by
  unfold wayF at h
  obtain ⟨d, hd, rfl⟩ := Option.map_eq_some_iff.1 h
  refine ⟨d, hd, pathF_short G hb d [a] (by simp; omega) (by simp) (fun i x hi => ?_) (fun i x y hi hj => ?_) rfl⟩
  · cases i with
    | zero => simp at hi; subst hi; exact ⟨ha, hd⟩
    | succ i => simp at hi
  · simp at hj
theorem wayF_none {g : Gr} {a b : Nat} : wayF g a b = none ↔ dist g a b = none := by
  unfold wayF dist; exact Option.map_eq_none_iff
theorem wayF_len {g : Gr} (G : g.WF) {a b d : Nat} (ha : a ∈ g.N) (hb : b ∈ g.N) (h : dist g a b = some d) : ∃ l, wayF g a b = some l ∧ Short g a b d l := by
  cases hw : wayF g a b with
  | none => rw [wayF_none, h] at hw; cases hw
  | some l =>
    obtain ⟨d', h', s⟩ := wayF_some G ha hb hw
    rw [h] at h'; cases h'; exact ⟨l, rfl, s⟩
theorem Short.last {g : Gr} (G : g.WF) {a b d : Nat} {l : List Nat} (hb : b ∈ g.N) (s : Short g a b d l) : l[d]? = some b := by
  have hd : d < l.length := by have := s.len; omega
  have h1 := List.getElem?_eq_getElem hd
  obtain ⟨hx, h2⟩ := s.far _ _ h1
  rw [Nat.sub_self] at h2
  rw [h1, ((dist_iff G hx hb).1 h2).1.zero]
/-- Reach: what is reached -/
theorem reachF_mem {g : Gr} (G : g.WF) {us : List Nat} (hf : ∀ x ∈ us, x ∈ g.N) {wo k : Nat} : k ∈ (farL g us wo).map (·.1) ↔ ∃ a ∈ us, ∃ d, Way g wo a k d := by
  have := far_none G hf (wo := wo) (k := k)
  rw [dOf_none] at this
  exact ⟨fun h => Classical.byContradiction fun hn => this.2 hn h, fun h => Classical.byContradiction fun hn => this.1 hn h⟩
end Go.Proofs.G
open Go Go.Hv
set_option maxRecDepth 100000
namespace Go.Proofs.G
theorem hb57 : hasBody P 57 = true := by kernel_rfl
theorem hb59 : hasBody P 59 = true := by kernel_rfl
theorem z86 : (P.info? 86).map (·.zero) = some (some (.map none)) := by kernel_rfl
/-- the function value fv asks pr of a node; what it reads lies below n -/
def Asks (n : Nat) (h : Heap) (fv : Value) (pr : Nat → Bool) : Prop :=
  ∃ g cap, fv = .func (.func g) #[] #[cap] ∧ hasBody P g = true ∧ ∀ h', (∀ c, c < n → h'[c]? = h[c]?) → h.size ≤ h'.size → ∀ x, HCalls P g #[R x, cap] h' fun v h'' => v = .bool (pr x) ∧ Old h'.size h' h''
/-- slices.IndexFunc -/
theorem indexFunc_spec {n : Nat} {h0 : Heap} {sv fv : Value} {us : List Nat} {pr : Nat → Bool} (F : Rs h0.size h0 sv us) (hl : us.length < 4611686018427387904) (A : Asks n h0 fv pr) (hn : n ≤ h0.size) :
    HCalls P 84 #[sv, fv] h0 fun v h' => Old h0.size h0 h' ∧ ((v = .int .i64 (-1) ∧ ∀ x ∈ us, pr x = false) ∨ ∃ j x, us[j]? = some x ∧ v = I j ∧ pr x = true ∧ ∀ y ∈ us.take j, pr y = false) := by
  obtain ⟨g, cap, rfl, hg, ha⟩ := A
  refine indexFunc_ok ?_
  unfold indexFunc_c0
  simp only [fr, (F.len false).1]
  refine lp_up us.length (fun j f h => f 0 = sv ∧ f 1 = .func (.func g) #[] #[cap] ∧ f 7 = I us.length ∧ f 8 = I j ∧ (∀ x ∈ us.take j, pr x = false) ∧ Old h0.size h0 h) ⟨rfl, rfl, rfl, rfl, by simp, Old.refl _ _⟩ ?_
  rintro j f h Q' hj ⟨f0, f1, f7, f8, hin, O⟩ on out
  unfold indexFunc_L2
  simp only [f0, f1, f7, f8, ops P, lt_R]
  by_cases hjl : j < us.length
  · obtain ⟨x, hxj⟩ : ∃ x, us[j]? = some x := ⟨_, List.getElem?_eq_getElem hjl⟩
    obtain ⟨a, a1, _, a2, _, a4⟩ := F.at hxj .i64
    rw [if_pos (by simpa using hjl), a1, load_run o41 (show cell h a = _ from (by unfold cell; rw [O.get _ (by omega)]; exact a2))]
    refine run_dyn hg ?_
    refine (ha h (fun c hc => O.get c (by omega)) O.size x).mono ?_
    rintro _ h2 ⟨rfl, O2⟩
    simp only [ops P]
    have O2' : Old h0.size h0 h2 := O.trans (O2.mono O.size)
    cases hp : pr x with
    | false =>
      simp only [bb, if_false]
      refine on _ _ hjl ⟨f0, f1, f7, congrArg _ (wInc (by omega)), fun y hy => ?_, O2'⟩
      rw [take_at hxj] at hy
      rcases List.mem_append.1 hy with hy | hy
      · exact hin y hy
      · simp at hy; subst hy; exact hp
    | true =>
      simp only [bb, if_true]
      refine out _ _ _ (by simp) ?_
      simp only [ex]
      exact post_ret1 ⟨O2', .inr ⟨j, x, hxj, rfl, hp, hin⟩⟩
  · rw [if_neg (by simpa using hjl)]
    refine out _ _ _ (by simp) ?_
    simp only [ex]
    unfold indexFunc_c1
    rw [List.take_of_length_le (by omega)] at hin
    exact post_ret1 ⟨O, .inl ⟨rfl, hin⟩⟩
theorem Asks.keep {n : Nat} {h h' : Heap} {fv : Value} {pr : Nat → Bool} (A : Asks n h fv pr) (hk : ∀ c, c < n → h'[c]? = h[c]?) (hs : h.size ≤ h'.size) : Asks n h' fv pr := by
  obtain ⟨g, cap, e, hg, ha⟩ := A
  exact ⟨g, cap, e, hg, fun h'' k s => ha h'' (fun c hc => (k c hc).trans (hk c hc)) (by omega)⟩
/-- slices.DeleteFunc of a slice of one's own -/
theorem deleteFunc_spec {n : Nat} {h0 : Heap} {v fv : Value} {l : List Nat} {pr : Nat → Bool} (N : Nw n h0 v l) (hl : l.length < 65536) (A : Asks n h0 fv pr) (hn : n ≤ h0.size) :
    HCalls P 57 #[v, fv] h0 fun u h' => Nw n h' u (l.filter fun x => !pr x) ∧ Old n h0 h' := by
  refine deleteFunc_ok ?_
  unfold deleteFunc_c0
  simp only [fr]
  have F : Rs h0.size h0 v l := N.rs
  refine run_callF hb84 ((indexFunc_spec F (by omega) A hn).mono ?_)
  rintro _ h1 ⟨O1, (⟨rfl, hno⟩ | ⟨j, x, hxj, rfl, hp, hbef⟩)⟩
  · simp only [ops P]
    rw [if_pos (by simp)]
    refine post_ret1 ⟨?_, O1.mono hn⟩
    have e : (l.filter fun x => !pr x) = l := List.filter_eq_self.2 fun x hx => by simp [hno x hx]
    rw [e]
    exact N.keep O1 (Nat.le_refl _)
  · simp only [ops P]
    rw [if_neg (by simp)]
    have hjl : j < l.length := (List.getElem?_eq_some_iff.1 hxj).1
    have A1 : Asks n h1 fv pr := A.keep (fun c hc => O1.get c (by omega)) O1.size
    have hn1 := O1.size
    obtain ⟨g, cap, rfl, hg, ha⟩ := A1
    obtain ⟨b, cp, rfl, r⟩ : ∃ b cp, v = dv b l.length cp ∧ Row h1 b 41 cp (l.map R) := by
      rcases N.own with ⟨rfl, hl0⟩ | ⟨b, cp, rfl, r⟩
      · have : l = [] := by simpa using hl0
        subst this; simp at hjl
      · exact ⟨b, cp, by simp, r.keep (O1.get _ r.lt)⟩
    have hb : n ≤ b := N.lo b rfl
    have hcap : l.length ≤ cp := by have := r.le; simpa using this
    have D0 : Dt h1 b cp l.toArray := by unfold Dt; simpa using r
    rw [wInc (by omega)]
    have efl : ∀ m, m < l.length → (l.take (m + 1)).filter (fun x => !pr x) = (l.take m).filter (fun x => !pr x) ++ if pr l[m]! = true then [] else [l[m]!] := by
      intro m hm
      rw [List.take_succ_eq_append_getElem hm, List.filter_append]
      congr 1
      rw [List.getElem!_eq_getElem?_getD, List.getElem?_eq_getElem hm]
      simp only [Option.getD_some]
      cases hq : pr l[m] <;> simp [hq]
    have e0 : (l.take (j + 1)).filter (fun x => !pr x) = l.take j := by
      rw [efl j hjl, List.getElem!_eq_getElem?_getD, hxj]
      simp only [Option.getD_some, hp, if_true, List.append_nil]
      exact List.filter_eq_self.2 fun x hx => by simp [hbef x hx]
    refine lp_of (fun k f h => ∃ m k' d, k = l.length - m ∧ f 0 = dv b l.length cp ∧ f 1 = .func (.func g) #[] #[cap] ∧ f 5 = I k' ∧ f 6 = I m ∧ m ≤ l.length ∧ k' < m ∧ d.size = l.length ∧ ((l.take m).filter fun x => !pr x).length = k' ∧ d.toList.take k' = (l.take m).filter (fun x => !pr x) ∧ (∀ i, m ≤ i → d[i]! = l.toArray[i]!) ∧ Dt h b cp d ∧ Old n h1 h ∧ h1.size ≤ h.size) _ ⟨j + 1, j, l.toArray, rfl, rfl, rfl, rfl, rfl, by omega, by omega, by simp, by rw [e0]; simp; omega, by rw [e0], fun i _ => rfl, D0, Old.refl _ _, Nat.le_refl _⟩ ?_
    rintro k f h Q' ⟨m, k', d, rfl, f0, f1, f5, f6, hm, hk, hds, hcl, hcp, hsame, D, O, hsz⟩ on out
    unfold deleteFunc_L2
    have elen : ∀ K h, run P (.builtin .len #[22] 3 [false] [dv b l.length cp]) K h = K (I l.length) h := fun K h => (ans_lenSlice (P := P) s22).run K
    simp only [f0, f1, f5, f6, elen, ops P, lt_R]
    by_cases hml : m < l.length
    · rw [if_pos (by simpa using hml)]
      simp only [ix hml .i64, D.ld (i := m) (by omega)]
      have em : d[m]! = l[m]! := by rw [hsame m (Nat.le_refl _)]; simp
      rw [em]
      refine run_dyn hg ?_
      refine (ha h (fun c hc => O.get c hc) hsz (l[m]!)).mono ?_
      rintro _ h2 ⟨rfl, O2⟩
      simp only [ops P]
      have D2 : Dt h2 b cp d := D.keep (O2.get _ D.lt)
      have O2' : Old n h1 h2 := O.trans (O2.mono (by omega))
      have q2 := O2.size
      have estep := efl m hml
      cases hp2 : pr l[m]! with
      | false =>
        rw [hp2] at estep
        simp only [bb, if_true]
        simp only [(ix (b := b) (n := l.length) (cap := cp) (i := k') (by omega) .i64).1]
        refine D2.st (by omega) _ fun h3 D3 C3 s3 => ?_
        try simp only [ops P]
        unfold deleteFunc_c3
        simp only [rdU, reduceIte, Nat.reduceEqDiff, f6, ops P]
        have estep' : (l.take (m + 1)).filter (fun x => !pr x) = (l.take m).filter (fun x => !pr x) ++ [l[m]!] := by simpa using estep
        refine on (l.length - (m + 1)) _ _ (by omega) ⟨m + 1, k' + 1, d.setIfInBounds k' l[m]!, rfl, f0, f1, congrArg _ (wInc (by omega)), congrArg _ (wInc (by omega)), by omega, by omega, by simp [hds], by rw [estep']; simp [hcl], ?_, fun i hi => ?_, D3, O2'.chg C3 (by omega) (fun i hi e => by omega), by omega⟩
        · rw [estep', ← hcp]
          have hk2 : k' < d.toList.length := by simp; omega
          rw [Array.toList_setIfInBounds, List.take_set, List.take_succ_eq_append_getElem hk2, List.set_append_right _ _ (by simp; omega)]
          simp [show min k' d.size = k' by omega]
        · rw [← hsame i (by omega)]
          by_cases hjd : i < d.size
          · simp only [Array.getElem!_eq_getD, Array.getD_eq_getD_getElem?, Array.getElem?_setIfInBounds]
            rw [if_neg (by omega)]
          · simp [Array.getElem!_eq_getD, Array.getD_eq_getD_getElem?, hjd]
      | true =>
        rw [hp2] at estep
        simp only [bb, if_false]
        unfold deleteFunc_c3
        simp only [rdU, reduceIte, Nat.reduceEqDiff, f6, ops P]
        have estep' : (l.take (m + 1)).filter (fun x => !pr x) = (l.take m).filter (fun x => !pr x) := by simpa using estep
        exact on (l.length - (m + 1)) _ _ (by omega) ⟨m + 1, k', d, rfl, f0, f1, f5, congrArg _ (wInc (by omega)), by omega, by omega, hds, by rw [estep']; exact hcl, by rw [estep']; exact hcp, fun i hi => hsame i (by omega), D2, O2', by omega⟩
    · rw [if_neg (by simpa using hml)]
      have hml' : m = l.length := by omega
      subst hml'
      refine out _ _ _ (by simp) ?_
      simp only [ex]
      unfold deleteFunc_c1
      rw [List.take_length] at hcl hcp
      have esl : ∀ (lo hi : Option Value) (x y : Nat), (lo = none ∧ x = 0 ∨ ∃ k, lo = some (.int k (x : Int))) → (hi = none ∧ y = l.length ∨ ∃ k, hi = some (.int k (y : Int))) → x ≤ y → y ≤ cp → x < cp → ∀ K h, run P (.slice 22 (dv b l.length cp) lo hi none) K h = K (.slice (some ⟨b, x, none⟩) (y - x) (cp - x)) h := by
        intro lo hi x y h1 h2 h3 h4 h5 K h
        have := ans_slice (P := P) s22 (ao := some ⟨b, 0, none⟩) (n := l.length) (c := cp) h1 h2 h3 h4 (h := h)
        rw [this.run, if_neg (by omega), Option.map_some, Addr.add_add0, Nat.zero_add, Nat.mul_one]
      have e1 := esl (some (I k')) none k' l.length (.inr ⟨_, rfl⟩) (.inl ⟨rfl, rfl⟩) (by omega) (by omega) (by omega)
      have e2 := esl none (some (I k')) 0 k' (.inl ⟨rfl, rfl⟩) (.inr ⟨_, rfl⟩) (by omega) (by omega) (by omega)
      simp only [rdU, reduceIte, Nat.reduceEqDiff, f0, f5]
      rw [e1]
      refine run_clearTail eRef rfl (o := k') (n := l.length - k') (r := D) (by simp; omega) (by omega) fun h2 s2 k2 R2 => ?_
      simp only [e2]
      rw [← List.map_take, hcp] at R2
      refine post_ret1 ⟨⟨.inr ⟨b, cp, ?_, R2⟩, fun c hc => ?_⟩, ⟨by have := O1.size; omega, fun c hc => ?_⟩⟩
      · show Value.slice _ _ _ = _
        rw [List.length_map, hcl]; rfl
      · cases hc; exact hb
      · rw [k2 c (by omega), O.get c hc, O1.get c (by omega)]
/-- Keeps, plainly -/
def keepsF (g : Gr) (us : List Nat) (x : Nat) : List Nat :=
  if x ∈ (farL g us 0).map (·.1) then (reachF g us).filter fun y => !decide (y ∈ (farL g us x).map (·.1)) else []
theorem keeps_spec {n : Nat} {h0 : Heap} {p : Value} {g : Gr} (G : GR n h0 p g) (w : g.WF) (hn : n ≤ h0.size) {frv : Value} {us : List Nat} (F : Rs n h0 frv us) (hl : us.length ≤ 4611686018427387903) (x : Nat) :
    HCalls P 21 #[p, frv, R x] h0 fun v h' => Old h0.size h0 h' ∧ ((¬ ((∀ y ∈ us, y ∈ g.N) ∧ x ∈ g.N) ∧ v = .tuple #[.slice none 0 0, I 140]) ∨ ((∀ y ∈ us, y ∈ g.N) ∧ x ∈ g.N ∧ ∃ l, v = .tuple #[l, I 0] ∧ Nw h0.size h' l (keepsF g us x))) := by
  refine keeps_ok ?_
  unfold keeps_c0
  simp only [fr]
  refine run_callF hb56 ((all_spec G hn F (by omega)).mono ?_)
  rintro _ h1 ⟨rfl, O1⟩
  have q1 := O1.size
  simp only [ops P]
  by_cases hall : ∀ y ∈ us, y ∈ g.N
  rotate_left
  · simp only [decide_eq_false hall, ops P, bb, when_f, if_true]
    exact post_ret2 ⟨O1, .inl ⟨fun h => hall h.1, rfl⟩⟩
  have ed : decide (∀ y ∈ us, y ∈ g.N) = true := by simpa using hall
  simp only [ed, ops P, bb, when_t, if_false]
  have G1 := G.keep (h' := h1) fun c hc => O1.get c (by omega)
  have F1 := F.keep (h' := h1) fun c hc => O1.get c (by omega)
  refine run_callF hb41 ((there_spec G1 x).mono ?_)
  rintro _ h2 ⟨rfl, O2⟩
  have q2 := O2.size
  have O02 : Old h0.size h0 h2 := O1.trans (O2.mono q1)
  simp only [ops P]
  by_cases hx : x ∈ g.N
  rotate_left
  · simp only [decide_eq_false hx, ops P, bb, if_true]
    exact post_ret2 ⟨O02, .inl ⟨fun h => hx h.2, rfl⟩⟩
  simp only [decide_eq_true hx, ops P, bb, if_false]
  have G2 := (G.keep (h' := h2) fun c hc => O02.get c (by omega)).mono (m := h2.size) (by omega)
  have F2 := (F.keep (h' := h2) fun c hc => O02.get c (by omega)).mono (m := h2.size) (by omega)
  refine run_callF hb53 ((far_spec (n0 := h2.size) G2 w F2 hall (by omega) 0 (Nat.le_refl _)).mono ?_)
  rintro _ h3 ⟨bd, rfl, hlo, M, O3⟩
  have q3 := O3.size
  have G3 := (G2.keep (h' := h3) fun c hc => O3.get c (by omega)).mono (m := h3.size) (by omega)
  have F3 := (F2.keep (h' := h3) fun c hc => O3.get c (by omega)).mono (m := h3.size) (by omega)
  refine run_callF hb53 ((far_spec (n0 := h3.size) G3 w F3 hall (by omega) x (Nat.le_refl _)).mono ?_)
  rintro _ h4 ⟨be, rfl, hle, M', O4⟩
  have q4 := O4.size
  rw [run_alloc z86]
  simp only [Value.cells]
  refine Go.Hv.run_store o86 (u := .map none) rfl (by unfold cell; simp) (by unfold froz; simp) ?_
  have hbl : (setC (h4.push (.cells #[.map none] 86)) ⟨h4.size, 0, none⟩ (.map (some be)))[h4.size]? = some (.cells #[.map (some be)] 86 (0, 0)) := by
    rw [setC_get _ _ (get_push_new _ _)]; rfl
  have hold : ∀ c, c < h4.size → (setC (h4.push (.cells #[.map none] 86)) ⟨h4.size, 0, none⟩ (.map (some be)))[c]? = h4[c]? := fun c hc => by
    rw [setC_get_ne _ _ _ (by simp; omega), get_push_old _ _ hc]
  have hsz : (setC (h4.push (.cells #[.map none] 86)) ⟨h4.size, 0, none⟩ (.map (some be))).size = h4.size + 1 := by rw [setC_size]; simp
  generalize setC (h4.push (.cells #[.map none] 86)) ⟨h4.size, 0, none⟩ (.map (some be)) = h5 at *
  have O05 : Old h0.size h0 h5 := ⟨by omega, fun c hc => by rw [hold c (by omega), O4.get c (by omega), O3.get c (by omega), O02.get c hc]⟩
  have M5 : MapR h5 bd R ((farL g us 0).map fun p => (p.1, I p.2)) := M.keep (by rw [hold _ (by have := M.lt; omega), O4.get _ M.lt])
  have M5' : MapR h5 be R ((farL g us x).map fun p => (p.1, I p.2)) := M'.keep (hold _ M'.lt)
  have look : ∀ {h' : Heap} {bd : Nat} {L : List (Nat × Nat)} (M : MapR h' bd R (L.map fun p => (p.1, I p.2))) k K, run P (.lookup 86 (.map (some bd)) (R k) true) K h' = K (.tuple #[I ((dOf L k).getD 0), .bool (dOf L k).isSome]) h' := fun {h' bd L} M k K => by
    rw [(M.lookup mInt kR k true).run, alook_map]
    unfold dOf
    cases L.find? (fun p => p.1 == k) with
    | none => rfl
    | some q => rfl
  have isS : ∀ (L : List (Nat × Nat)) k, (dOf L k).isSome = decide (k ∈ L.map (·.1)) := fun L k => by
    unfold dOf
    rw [Option.isSome_map, Bool.eq_iff_iff, decide_eq_true_iff, Option.isSome_iff_ne_none, ne_eq, find_none, Decidable.not_not]
  rw [look M5]
  simp only [ops P, isS]
  by_cases hr : x ∈ (farL g us 0).map (·.1)
  rotate_left
  · simp only [decide_eq_false hr, bb, if_true]
    refine post_ret2 ⟨O05, .inr ⟨hall, hx, _, rfl, ?_⟩⟩
    unfold keepsF
    rw [if_neg hr]
    exact Nw.nil _ _
  simp only [decide_eq_true hr, bb, if_false]
  have ok := farL_ok w hall 0
  have hlen := ok.len
  have hfew := w.few
  refine run_callF hb58 ((keys_spec M5 (by simp; omega)).mono ?_)
  rintro l h6 ⟨O6, N⟩
  have q6 := O6.size
  have e : ((farL g us 0).map fun p => (p.1, I p.2)).map (·.1) = (farL g us 0).map (·.1) := by simp
  rw [e] at N
  have A : Asks h5.size h6 (.func (.func 59) #[] #[.pointer (some ⟨h4.size, 0, none⟩)]) fun y => decide (y ∈ (farL g us x).map (·.1)) := by
    refine ⟨59, _, rfl, hb59, fun h' hk hs y => ?_⟩
    have hc : h'[h4.size]? = some (.cells #[.map (some be)] 86 (0, 0)) := by rw [hk _ (by omega), O6.get _ (by omega), hbl]
    have MM : MapR h' be R ((farL g us x).map fun p => (p.1, I p.2)) := M5'.keep (by rw [hk _ M5'.lt, O6.get _ M5'.lt])
    refine keepsf_ok ?_
    unfold keepsf_c0
    simp only [fr, load_run o86 (cell_at hc (i := 0) (v := .map (some be)) rfl), look MM, ops P, isS]
    exact post_ret1 ⟨rfl, Old.refl _ _⟩
  refine run_callF hb57 ((deleteFunc_spec N (by rw [srt_len]; simp; omega) A (by omega)).mono ?_)
  rintro l' h7 ⟨N', O7⟩
  refine post_ret2 ⟨O05.trans ((O6.mono (by omega)).trans (O7.mono (by omega))), .inr ⟨hall, hx, l', rfl, ?_⟩⟩
  unfold keepsF
  rw [if_pos hr]
  exact N'.mono (by omega)
end Go.Proofs.G
open Go Go.Hv
set_option maxRecDepth 100000
namespace Go.Proofs.G
theorem hb22 : hasBody P 22 = true := by kernel_rfl
theorem hb21 : hasBody P 21 = true := by kernel_rfl
theorem beq_R0 {b : Nat} : ((b : Int) == 0) = decide (b = 0) := by
  have := beq_R (a := b) (b := 0); simpa using this
/-- k: a node through which all ways to x go -/
def Dom (g : Gr) (us : List Nat) (x k : Nat) : Prop := k ∈ (farL g us 0).map (·.1) ∧ k ≠ x ∧ x ∉ (farL g us k).map (·.1)
instance (g : Gr) (us : List Nat) (x k : Nat) : Decidable (Dom g us x k) := by unfold Dom; infer_instance
/-- how many it keeps -/
def kpN (g : Gr) (us : List Nat) (k : Nat) : Int := ((farL g us 0).length : Int) - ((farL g us k).length : Int)
theorem look86 {h' : Heap} {bd : Nat} {L : List (Nat × Nat)} (M : MapR h' bd R (L.map fun p => (p.1, I p.2))) (k : Nat) (K : Value → Heap → Prop) : run P (.lookup 86 (.map (some bd)) (R k) true) K h' = K (.tuple #[I ((dOf L k).getD 0), .bool (decide (k ∈ L.map (·.1)))]) h' := by
  have isS : (dOf L k).isSome = decide (k ∈ L.map (·.1)) := by
    unfold dOf
    rw [Option.isSome_map, Bool.eq_iff_iff, decide_eq_true_iff, Option.isSome_iff_ne_none, ne_eq, find_none, Decidable.not_not]
  rw [← isS, (M.lookup mInt kR k true).run, alook_map]
  unfold dOf
  cases L.find? (fun p => p.1 == k) with
  | none => rfl
  | some q => rfl
theorem len86 {h' : Heap} {bd : Nat} {L : List (Nat × Nat)} (M : MapR h' bd R (L.map fun p => (p.1, I p.2))) (c : Bool) (K : Value → Heap → Prop) : run P (.builtin .len #[86] 3 [c] [.map (some bd)]) K h' = K (I L.length) h' := by
  have := M.len (P := P) Try.underlying86 (ty := 3) (c := c)
  rw [this.run, List.length_map]
theorem keeper_spec {n : Nat} {h0 : Heap} {p : Value} {g : Gr} (G : GR n h0 p g) (w : g.WF) (hn : n ≤ h0.size) {frv : Value} {us : List Nat} (F : Rs n h0 frv us) (hl : us.length ≤ 4611686018427387903) (x : Nat) :
    HCalls P 22 #[p, frv, R x] h0 fun v h' => Old h0.size h0 h' ∧ ((¬ ((∀ y ∈ us, y ∈ g.N) ∧ x ∈ g.N) ∧ v = .tuple #[R 0, .bool false, I 140]) ∨ ((∀ y ∈ us, y ∈ g.N) ∧ x ∈ g.N ∧
      ((x ∉ (farL g us 0).map (·.1) ∧ v = .tuple #[R 0, .bool false, I 142]) ∨ (x ∈ (farL g us 0).map (·.1) ∧ (((∀ k, ¬ Dom g us x k) ∧ v = .tuple #[R 0, .bool false, I 0]) ∨ ∃ k, Dom g us x k ∧ (∀ k', Dom g us x k' → kpN g us k ≤ kpN g us k') ∧ v = .tuple #[R k, .bool true, I 0]))))) := by
  refine keeper_ok ?_
  unfold keeper_c0
  simp only [fr]
  refine run_callF hb56 ((all_spec G hn F (by omega)).mono ?_)
  rintro _ h1 ⟨rfl, O1⟩
  have q1 := O1.size
  simp only [ops P]
  by_cases hall : ∀ y ∈ us, y ∈ g.N
  rotate_left
  · simp only [decide_eq_false hall, ops P, bb, when_f, if_true]
    exact post_ret3 ⟨O1, .inl ⟨fun h => hall h.1, rfl⟩⟩
  have ed : decide (∀ y ∈ us, y ∈ g.N) = true := by simpa using hall
  simp only [ed, ops P, bb, when_t, if_false]
  have G1 := G.keep (h' := h1) fun c hc => O1.get c (by omega)
  refine run_callF hb41 ((there_spec G1 x).mono ?_)
  rintro _ h2 ⟨rfl, O2⟩
  have q2 := O2.size
  have O02 : Old h0.size h0 h2 := O1.trans (O2.mono q1)
  simp only [ops P]
  by_cases hx : x ∈ g.N
  rotate_left
  · simp only [decide_eq_false hx, ops P, bb, if_true]
    exact post_ret3 ⟨O02, .inl ⟨fun h => hx h.2, rfl⟩⟩
  simp only [decide_eq_true hx, ops P, bb, if_false]
  have G2 := (G.keep (h' := h2) fun c hc => O02.get c (by omega)).mono (m := h2.size) (by omega)
  have F2 := (F.keep (h' := h2) fun c hc => O02.get c (by omega)).mono (m := h2.size) (by omega)
  refine run_callF hb53 ((far_spec (n0 := h2.size) G2 w F2 hall (by omega) 0 (Nat.le_refl _)).mono ?_)
  rintro _ h3 ⟨bd, rfl, hlo, M, O3⟩
  have q3 := O3.size
  have O03 : Old h0.size h0 h3 := O02.trans (O3.mono (by omega))
  have G3 := (G2.keep (h' := h3) fun c hc => O3.get c (by omega)).mono (m := h3.size) (by omega)
  have F3 := (F2.keep (h' := h3) fun c hc => O3.get c (by omega)).mono (m := h3.size) (by omega)
  simp only [look86 M, ops P]
  by_cases hr : x ∈ (farL g us 0).map (·.1)
  rotate_left
  · simp only [decide_eq_false hr, bb, if_true]
    exact post_ret3 ⟨O03, .inr ⟨hall, hx, .inl ⟨hr, rfl⟩⟩⟩
  simp only [decide_eq_true hr, bb, if_false]
  have ok := farL_ok w hall 0
  have hlen := ok.len
  have hfew := w.few
  have h0k : ∀ k ∈ (farL g us 0).map (·.1), k ≠ 0 := fun k hk e => w.pos (e ▸ ok.sub k hk)
  refine run_range Try.underlying86 M fun h4 it4 c4 s4 => ?_
  have O34 : Old h3.size h3 h4 := c4.old (Nat.le_refl _) fun _ _ h => h
  refine lp_of (fun k f h => ∃ (todo : List (Nat × Value)) (best : Nat) (kp : Int) (seen : List Nat), k = todo.length ∧ f 0 = p ∧ f 1 = frv ∧ f 2 = R x ∧ f 9 = .map (some bd) ∧ f 41 = .pointer (some ⟨h3.size, 0, none⟩) ∧ f 12 = R best ∧ f 13 = .int .i64 kp ∧ ItR h h3.size bd R ((farL g us 0).map fun p => (p.1, I p.2)) todo ∧ (∀ y, y ∈ (farL g us 0).map (·.1) ↔ y ∈ seen ∨ y ∈ todo.map (·.1)) ∧ Old h3.size h3 h ∧ h3.size < h.size ∧
    ((best = 0 ∧ ∀ k ∈ seen, ¬ Dom g us x k) ∨ (best ∈ seen ∧ Dom g us x best ∧ kp = kpN g us best ∧ ∀ k ∈ seen, Dom g us x k → kpN g us best ≤ kpN g us k))) _ ⟨_, 0, 0, [], rfl, rfl, rfl, rfl, rfl, rfl, rfl, rfl, it4, fun y => by simp, O34, by omega, .inl ⟨rfl, by simp⟩⟩ ?_
  rintro k f h Q' ⟨todo, best, kp, seen, rfl, f0, f1, f2, f9, f41, f12, f13, it, hse, O, hsz, hinv⟩ on out
  unfold keeper_L2
  simp only [f0, f1, f2, f9, f41, f12, f13]
  refine run_next it (fun ht => ?_) fun h5 k v i hi it5 c5 s5 hent => ?_
  · simp only [ops P, bb, if_false]
    refine out _ _ _ (by simp) ?_
    simp only [ex]
    unfold keeper_c1
    subst ht
    have hse' : ∀ y, y ∈ (farL g us 0).map (·.1) ↔ y ∈ seen := fun y => by rw [hse]; simp
    have O' : Old h0.size h0 h := O03.trans (O.mono (by omega))
    simp only [rdU, reduceIte, Nat.reduceEqDiff, f12, ops P, bne_R]
    rcases hinv with ⟨rfl, hno⟩ | ⟨hb, hd, rfl, hle⟩
    · refine post_ret3 ⟨O', .inr ⟨hall, hx, .inr ⟨hr, .inl ⟨fun k hk => hno k ((hse' k).1 hk.1) hk, ?_⟩⟩⟩⟩
      simp [rdU]
    · refine post_ret3 ⟨O', .inr ⟨hall, hx, .inr ⟨hr, .inr ⟨best, hd, fun k hk => hle k ((hse' k).1 hk.1) hk, ?_⟩⟩⟩⟩
      have := h0k best hd.1
      simp [rdU, this]
  · simp only [ops P, bb, if_true]
    rw [hent.run]
    simp only [ops P, beq_R]
    have hil := (List.getElem?_eq_some_iff.1 hi).1
    have hkt : k ∈ todo.map (·.1) := List.mem_map.2 ⟨(k, v), List.mem_of_getElem? hi, rfl⟩
    have hkw : k ∈ (farL g us 0).map (·.1) := (hse k).2 (.inr hkt)
    have hse2 : ∀ y, y ∈ (farL g us 0).map (·.1) ↔ y ∈ k :: seen ∨ y ∈ (todo.eraseIdx i).map (·.1) := by
      intro y
      rw [hse]
      have h1 := (erase_perm hi).map (·.1)
      have h2 : y ∈ todo.map (·.1) ↔ y = k ∨ y ∈ (todo.eraseIdx i).map (·.1) := by
        rw [← h1.mem_iff]; simp
      rw [h2]
      simp only [List.mem_cons]
      constructor
      · rintro (h | h | h)
        · exact .inl (.inr h)
        · exact .inl (.inl h)
        · exact .inr h
      · rintro ((h | h) | h)
        · exact .inr (.inl h)
        · exact .inl h
        · exact .inr (.inr h)
    have O5 : Old h3.size h3 h5 := O.chg c5 (by omega) fun i hi e => by omega
    have step : ∀ (f' : Hv.F) (h' : Heap) (best' : Nat) (kp' : Int), f' 0 = p → f' 1 = frv → f' 2 = R x → f' 9 = .map (some bd) → f' 41 = .pointer (some ⟨h3.size, 0, none⟩) → f' 12 = R best' → f' 13 = .int .i64 kp' → Old h5.size h5 h' →
        ((best' = 0 ∧ ∀ j ∈ k :: seen, ¬ Dom g us x j) ∨ (best' ∈ k :: seen ∧ Dom g us x best' ∧ kp' = kpN g us best' ∧ ∀ j ∈ k :: seen, Dom g us x j → kpN g us best' ≤ kpN g us j)) → Q' .normal f' h' := by
      intro f' h' best' kp' g0 g1 g2 g9 g41 g12 g13 O' hinv'
      have q' := O'.size
      refine on (todo.eraseIdx i).length _ _ (by rw [List.length_eraseIdx, if_pos hil]; omega) ⟨_, best', kp', k :: seen, rfl, g0, g1, g2, g9, g41, g12, g13, it5.keep (O'.get _ (by omega)) (O'.get _ it5.map.lt), hse2, O5.trans (O'.mono (by omega)), by omega, hinv'⟩
    have notdom : ¬ Dom g us x k → ((best = 0 ∧ ∀ j ∈ k :: seen, ¬ Dom g us x j) ∨ (best ∈ k :: seen ∧ Dom g us x best ∧ kp = kpN g us best ∧ ∀ j ∈ k :: seen, Dom g us x j → kpN g us best ≤ kpN g us j)) := by
      intro hnd
      rcases hinv with ⟨hb, hno⟩ | ⟨hb, hd, he, hle⟩
      · refine .inl ⟨hb, fun j hj => ?_⟩
        rcases List.mem_cons.1 hj with rfl | hj
        · exact hnd
        · exact hno j hj
      · refine .inr ⟨List.mem_cons_of_mem _ hb, hd, he, fun j hj hdj => ?_⟩
        rcases List.mem_cons.1 hj with rfl | hj
        · exact absurd hdj hnd
        · exact hle j hj hdj
    by_cases hkx : k = x
    · simp only [decide_eq_true hkx, if_true]
      exact step _ _ best kp f0 f1 f2 f9 f41 f12 f13 (Old.refl _ _) (notdom fun h => h.2.1 hkx)
    simp only [decide_eq_false hkx, bb, if_false]
    have G5 := (G3.keep (h' := h5) fun c hc => O5.get c (by omega)).mono (m := h5.size) (by omega)
    have F5 := (F3.keep (h' := h5) fun c hc => O5.get c (by omega)).mono (m := h5.size) (by omega)
    refine run_callF hb53 ((far_spec (n0 := h5.size) G5 w F5 hall (by omega) k (Nat.le_refl _)).mono ?_)
    rintro _ h6 ⟨be, rfl, hle, M6, O6⟩
    have q6 := O6.size
    have MM : MapR h6 bd R ((farL g us 0).map fun p => (p.1, I p.2)) := it5.map.keep (O6.get _ it5.map.lt)
    simp only [look86 M6, len86 M6, len86 MM, ops P]
    by_cases hxk : x ∈ (farL g us k).map (·.1)
    · simp only [decide_eq_true hxk, if_true]
      exact step _ _ best kp f0 f1 f2 f9 f41 f12 f13 O6 (notdom fun h => h.2.2 hxk)
    simp only [decide_eq_false hxk, bb, if_false]
    have hdk : Dom g us x k := ⟨hkw, hkx, hxk⟩
    have hlen6 := (farL_ok w hall k).len
    have hkn : IntKind.i64.wrap (((farL g us 0).length : Int) - ((farL g us k).length : Int)) = kpN g us k := by
      unfold kpN
      simp only [IntKind.wrap]
      simp [IntKind.signed, IntKind.bits]
      omega
    rw [hkn]
    simp only [beq_R0]
    rcases hinv with ⟨rfl, hno⟩ | ⟨hb, hd, rfl, hle⟩
    · simp only [decide_true, bb, when_f, if_true, ops P]
      refine step _ _ k (kpN g us k) f0 f1 f2 f9 f41 rfl rfl O6 (.inr ⟨by simp, hdk, rfl, fun j hj hdj => ?_⟩)
      rcases List.mem_cons.1 hj with rfl | hj
      · exact Int.le_refl _
      · exact absurd hdj (hno j hj)
    · have hb0 : ¬ best = 0 := h0k best hd.1
      simp only [decide_eq_false hb0, bb, when_t, if_false, ops P]
      by_cases hlt : kpN g us k < kpN g us best
      · simp only [decide_eq_true hlt, if_true]
        refine step _ _ k (kpN g us k) f0 f1 f2 f9 f41 rfl rfl O6 (.inr ⟨by simp, hdk, rfl, fun j hj hdj => ?_⟩)
        rcases List.mem_cons.1 hj with rfl | hj
        · exact Int.le_refl _
        · have := hle j hj hdj; omega
      · simp only [decide_eq_false hlt, bb, if_false]
        refine step _ _ best (kpN g us best) f0 f1 f2 f9 f41 f12 f13 O6 (.inr ⟨List.mem_cons_of_mem _ hb, hd, rfl, fun j hj hdj => ?_⟩)
        rcases List.mem_cons.1 hj with rfl | hj
        · omega
        · exact hle j hj hdj
end Go.Proofs.G
