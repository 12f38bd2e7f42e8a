import Derived.Test.YtadfdknlogceoaaKk
import Derived.Test.YtadfdknlogceoaaKm
set_option linter.all false
open Go Go.Hv
set_option maxRecDepth 100000
namespace Go.Proofs.G

/-- the map and the list of those that are reached -/
structure DL (n0 : Nat) (h : Heap) (bd : Nat) (lv : Value) (L : List (Nat × Nat)) : Prop where
  map : MapR h bd R (L.map fun p => (p.1, I p.2))
  lo : n0 ≤ bd
  own : Own h lv 41 ((L.map (·.1)).map R)
  at' : ∀ c, blkOf lv = some c → n0 ≤ c ∧ c ≠ bd
theorem DL.len {n0 : Nat} {h : Heap} {bd : Nat} {lv : Value} {L : List (Nat × Nat)} (d : DL n0 h bd lv L) (c : Bool) : (∀ K h, run P (.builtin .len #[22] 3 [c] [lv]) K h = K (I L.length) h) := by
  intro K h'
  obtain ⟨ao, k, rfl, _⟩ := d.own.sl
  have := ans_lenSlice (P := P) s22 (ty := 3) (c := c) (a := ao) (n := ((L.map (·.1)).map R).length) (k := k) (h := h')
  rw [this.run]; simp
theorem alook_map {L : List (Nat × Nat)} (f : Nat → Value) (n : Nat) : alook (L.map fun p => (p.1, f p.2)) n = ((L.find? fun p => p.1 == n).map fun p => f p.2) := by
  induction L with
  | nil => rfl
  | cons p L ih =>
    simp only [List.map_cons, alook, List.find?_cons]
    by_cases e : n = p.1
    · simp [e]
    · have : (p.1 == n) = false := by simpa using fun x : p.1 = n => e x.symm
      simp [e, this, ih]
theorem find_fst {L : List (Nat × Nat)} (hn : (L.map (·.1)).Nodup) {i n d : Nat} (h : L[i]? = some (n, d)) : L.find? (fun p => p.1 == n) = some (n, d) := by
  induction L generalizing i with
  | nil => cases h
  | cons p L ih =>
    simp only [List.map_cons, List.nodup_cons] at hn
    cases i with
    | zero =>
      simp only [List.getElem?_cons_zero, Option.some.injEq] at h
      subst h; simp
    | succ i =>
      have h' : L[i]? = some (n, d) := by simpa using h
      have hm : n ∈ L.map (·.1) := List.mem_map.2 ⟨_, List.mem_of_getElem? h', rfl⟩
      have : p.1 ≠ n := fun e => hn.1 (by rw [e]; exact hm)
      rw [List.find?_cons_of_neg (by simpa using this)]
      exact ih hn.2 h'
theorem find_none {L : List (Nat × Nat)} {n : Nat} : L.find? (fun p => p.1 == n) = none ↔ n ∉ L.map (·.1) := by
  rw [List.find?_eq_none]
  constructor
  · intro h hm
    obtain ⟨p, hp, rfl⟩ := List.mem_map.1 hm
    exact h p hp (by simp)
  · intro h p hp e
    exact h (List.mem_map.2 ⟨p, hp, by simpa using e⟩)
/-- one more is reached -/
theorem DL.push {n0 : Nat} {h : Heap} {bd : Nat} {lv : Value} {L : List (Nat × Nat)} (D : DL n0 h bd lv L) {n d : Nat} (hn : n ∉ L.map (·.1)) (hl : L.length ≤ 4096) (hb : n0 ≤ h.size) {K : Value → Value → Heap → Prop}
    (hk : ∀ w lv' h', DL n0 h' bd lv' (L ++ [(n, d)]) → Old n0 h h' → K w lv' h') :
    run P (.mapUpdate 86 (.map (some bd)) (R n) (I d)) (fun _ h => run P (.buildSlice 22 1 [(0, R n)]) (fun w h => run P (.builtin .append #[22, 22] 22 [false, false] [lv, w]) (fun v h => K w v h) h) h) h := by
  obtain ⟨arr, clk, m⟩ := D.map
  refine run_mapUpdate mInt kR m n (I d) fun h1 arr1 clk1 m1 c1 s1 _ => ?_
  refine run_buildSlice1 eRef rfl ?_
  have hk1 : ∀ b, blkOf lv = some b → h1[b]? = h[b]? := fun b hb => c1.get b (D.own.lt hb) (D.at' b hb).2
  have o1 : Own h1 lv 41 ((L.map (·.1)).map R) := D.own.keep hk1
  have o2 : Own (h1.push (.cells #[R n] 41)) lv 41 ((L.map (·.1)).map R) := o1.keep fun b hb => get_push_old _ _ (o1.lt hb)
  have sw : Sl (h1.push (.cells #[R n] 41)) (.slice (some ⟨h1.size, 0, none⟩) 1 1) [R n] := Row.sl (Row.mk' (get_push_new _ _))
  refine run_append1 eRef o2 sw (by simp [oneC]) (by simp; omega) (by simp; omega) fun v' h' o3 c3 b3 => ?_
  have hbd : bd < h.size := D.map.lt
  have hne : ¬ blkOf lv = some bd := fun e => (D.at' bd e).2 rfl
  refine hk _ _ _ ⟨?_, D.lo, by simpa using o3, fun c hc => ?_⟩ ?_
  · have e : aset (L.map fun p => (p.1, I p.2)) n (I d) = (L ++ [(n, d)]).map fun p => (p.1, I p.2) := by
      rw [aset_of_not_mem _ _ (by simpa using hn)]; simp
    rw [← e]
    have hb1 : bd < h1.size := by omega
    exact ⟨arr1, clk1, (((c3.get bd (by simp; omega) hne).trans (get_push_old _ _ hb1)).trans m1.get), m1.kv, m1.nodup, m1.born, m1.clock⟩
  · rcases b3 c hc with h1' | h1'
    · exact D.at' c h1'
    · simp at h1'; exact ⟨by omega, by omega⟩
  · have o1 : Old n0 h h1 := c1.old hb fun i hi e => by have := D.lo; omega
    have o2 : Old n0 h1 (h1.push (.cells #[R n] 41)) := old_push _ _ (by omega)
    have o3 : Old n0 (h1.push (.cells #[R n] 41)) h' := c3.old (by simp; omega) fun i hi e => by have := (D.at' i e).1; omega
    exact (o1.trans o2).trans o3

/-- far: how far away each node is that is reached -/
theorem far_spec {n0 : Nat} {h0 : Heap} {p : Value} {g : Gr} (G : GR n0 h0 p g) (w : g.WF) {frv : Value} {us : List Nat} (F : Rs n0 h0 frv us) (hf : ∀ x ∈ us, x ∈ g.N) (hfl : us.length ≤ 4611686018427387904) (wo : Nat) (hn : n0 ≤ h0.size) :
    HCalls P 53 #[p, frv, R wo] h0 fun v h' => ∃ bd, v = .map (some bd) ∧ n0 ≤ bd ∧ MapR h' bd R ((farL g us wo).map fun p => (p.1, I p.2)) ∧ Old n0 h0 h' := by
  obtain ⟨b, nv, bt, bh, es, hs, rfl, A⟩ := G
  refine far_ok ?_
  unfold far_c0
  simp only [fr, run_mkMap]
  rw [(F.len false).1]
  refine lp_up us.length (fun j f h => f 0 = .pointer (some ⟨b, 0, none⟩) ∧ f 2 = R wo ∧ f 7 = .map (some h0.size) ∧ f 19 = frv ∧ f 20 = I us.length ∧ f 21 = I j ∧ DL n0 h h0.size (f 8) (farE wo 0 (us.take j) []) ∧ Old n0 h0 h) ?_ ?_
  · simp only [fr, rdU, reduceIte, Nat.reduceEqDiff, true_and]
    exact ⟨rfl, ⟨by simpa [farE] using MapR.new h0 R, hn, Own.nil _ _, fun c hc => by cases hc⟩, old_push _ _ hn⟩
  rintro j f h Q' hj ⟨f0, f2, f7, f19, f20, f21, D, O⟩ on out
  unfold far_L7
  have ok : FarOk g.N (farE wo 0 (us.take j) []) := (FarOk.nil g.N).addE _ (fun x hx => hf x (List.mem_of_mem_take hx)) (Nat.zero_le _)
  have hlen := ok.len
  have hfew := w.few
  simp only [f2, f7, f19, f20, f21, ops P, lt_R]
  by_cases hjl : j < us.length
  · obtain ⟨x, hx⟩ : ∃ x, us[j]? = some x := ⟨_, List.getElem?_eq_getElem hjl⟩
    obtain ⟨a, a1, _, a2, _, a4⟩ := F.at hx .i64
    rw [if_pos (by simpa using hjl), a1, load_run o41 (show cell h a = _ from (by unfold cell; rw [O.get _ a4]; exact a2)), (D.map.lookup mInt kR x true).run, alook_map]
    have step := farE_step (wo := wo) (d := 0) (L := []) hx
    have fin : ∀ f' h', f' 0 = .pointer (some ⟨b, 0, none⟩) → f' 2 = R wo → f' 7 = .map (some h0.size) → f' 19 = frv → f' 20 = I us.length → f' 21 = I j → DL n0 h' h0.size (f' 8) (farE wo 0 (us.take (j + 1)) []) → Old n0 h0 h' → far_c8 Q' f' h' := by
      intro f' h' g0 g2 g7 g19 g20 g21 D' O'
      unfold far_c8
      simp only [g21, ops P]
      refine on _ _ hjl ?_
      simp only [rdU, reduceIte, Nat.reduceEqDiff]
      exact ⟨g0, g2, g7, g19, g20, congrArg _ (wInc (by omega)), D', O'⟩
    cases hfi : (farE wo 0 (us.take j) []).find? (fun p => p.1 == x) with
    | some q =>
      have hm : x ∈ (farE wo 0 (us.take j) []).map (·.1) := by
        refine Classical.byContradiction fun hm => ?_
        rw [find_none.2 hm] at hfi; cases hfi
      simp only [lkV, Option.map_some, if_true, ops P, bb, if_false]
      refine fin _ _ ?_ ?_ ?_ ?_ ?_ ?_ ?_ O
      all_goals simp only [rdU, reduceIte, Nat.reduceEqDiff]
      all_goals first | assumption | skip
      rw [step, addD, if_pos (.inl hm)]; exact D
    | none =>
      have hm : x ∉ (farE wo 0 (us.take j) []).map (·.1) := find_none.1 hfi
      simp only [lkV, Option.map_none, if_true, ops P, bb, if_false, bne_R]
      by_cases hx2 : x = wo
      · rw [if_neg (by simpa using hx2)]
        refine fin _ _ ?_ ?_ ?_ ?_ ?_ ?_ ?_ O
        all_goals simp only [rdU, reduceIte, Nat.reduceEqDiff]
        all_goals first | assumption | skip
        rw [step, addD, if_pos (.inr hx2)]; exact D
      · rw [if_pos (by simpa using hx2)]
        refine D.push (d := 0) hm (by omega) (by have := O.size; omega) fun w lv' h' D' O' => ?_
        refine fin _ _ ?_ ?_ ?_ ?_ ?_ ?_ ?_ (O.trans O')
        all_goals simp only [rdU, reduceIte, Nat.reduceEqDiff]
        all_goals first | assumption | skip
        rw [step, addD, if_neg (by simp only [not_or]; exact ⟨hm, hx2⟩)]; exact D'
  · rw [if_neg (by simpa using hjl)]
    refine out _ _ _ (by simp) ?_
    have hjj : us.take j = us := List.take_of_length_le (by omega)
    rw [hjj] at ok D hlen
    simp only [ex]
    unfold far_c1
    refine lp_of (fun k f h => ∃ i L, k = g.N.length + 1 - i ∧ farG g wo (g.N.length + 1 - i) i L = farL g us wo ∧ FarOk g.N L ∧ i ≤ L.length ∧ f 0 = .pointer (some ⟨b, 0, none⟩) ∧ f 2 = R wo ∧ f 7 = .map (some h0.size) ∧ f 13 = I i ∧ DL n0 h h0.size (f 8) L ∧ Old n0 h0 h) _ ⟨0, _, rfl, rfl, ok, Nat.zero_le _, ?_⟩ ?_
    · simp only [rdU, reduceIte, Nat.reduceEqDiff]
      exact ⟨f0, f2, f7, by trivial, D, O⟩
    rintro k f h Q' ⟨i, L, rfl, hG, ok, hi, f0, f2, f7, f13, D, O⟩ on out
    have hL := ok.len
    have O0 := O
    unfold far_L3
    simp only [f0, f13, ops P, lt_R, D.len]
    by_cases hil : i < L.length
    · obtain ⟨⟨n, d⟩, hnd⟩ : ∃ p, L[i]? = some p := ⟨_, List.getElem?_eq_getElem hil⟩
      have A' := A.keep O.get
      obtain ⟨ts, _, t1, T⟩ := A'.look n
      have hnd' : ((L.map (·.1)).map R)[i]? = some (R n) := by simp [hnd]
      obtain ⟨a, a1, a2, a3⟩ := D.own.sl.index (P := P) s22 (k := .i64) hnd'
      rw [if_pos (by simpa using hil)]
      simp only [(fld P f75_1).2.1, load_still o72 A'.c1, (a1 h).still, load_still o41 a2, t1, (T.len _).2]
      have hd := ok.near i n d hnd
      have hfk : g.N.length + 1 - i = (g.N.length - i) + 1 := by omega
      refine lp_up (g.to n).length (fun j f h => f 0 = .pointer (some ⟨b, 0, none⟩) ∧ f 2 = R wo ∧ f 7 = .map (some h0.size) ∧ f 13 = I i ∧ f 59 = ts ∧ f 60 = I (g.to n).length ∧ f 61 = I j ∧ DL n0 h h0.size (f 8) (farE wo (d + 1) ((g.to n).take j) L) ∧ Old n0 h0 h) ?_ ?_
      · simp only [rdU, reduceIte, Nat.reduceEqDiff]
        exact ⟨f0, f2, f7, f13, by trivial, by trivial, by trivial, D, O⟩
      rintro j f h Q2 hj ⟨f0, f2, f7, f13, f59, f60, f61, D, O⟩ on2 out2
      have T := T.keep (h' := h) fun c hc => by rw [O.get c hc, O0.get c hc]
      have okj : FarOk g.N (farE wo (d + 1) ((g.to n).take j) L) := ok.addE _ (fun x hx => w.sub n x (List.mem_of_mem_take hx)) (by omega)
      have hlj := okj.len
      have hto := w.fewt n
      unfold far_L5
      simp only [f2, f7, f13, f59, f60, f61, ops P, lt_R]
      by_cases hjl : j < (g.to n).length
      · obtain ⟨x, hx⟩ : ∃ x, (g.to n)[j]? = some x := ⟨_, List.getElem?_eq_getElem hjl⟩
        obtain ⟨a, a1, _, a2, _, a4⟩ := T.at hx .i64
        rw [if_pos (by simpa using hjl), a1, load_run o41 a2, (D.map.lookup mInt kR x true).run, alook_map]
        have step := farE_step (wo := wo) (d := d + 1) (L := L) hx
        have fin : ∀ f' h', f' 0 = .pointer (some ⟨b, 0, none⟩) → f' 2 = R wo → f' 7 = .map (some h0.size) → f' 13 = I i → f' 59 = ts → f' 60 = I (g.to n).length → f' 61 = I j → DL n0 h' h0.size (f' 8) (farE wo (d + 1) ((g.to n).take (j + 1)) L) → Old n0 h0 h' → far_c6 Q2 f' h' := by
          intro f' h' g0 g2 g7 g13 g19 g20 g21 D' O'
          unfold far_c6
          simp only [g21, ops P]
          refine on2 _ _ hjl ?_
          simp only [rdU, reduceIte, Nat.reduceEqDiff]
          exact ⟨g0, g2, g7, g13, g19, g20, congrArg _ (wInc (by omega)), D', O'⟩
        cases hfi : (farE wo (d + 1) ((g.to n).take j) L).find? (fun p => p.1 == x) with
        | some q =>
          have hm : x ∈ (farE wo (d + 1) ((g.to n).take j) L).map (·.1) := by
            refine Classical.byContradiction fun hm => ?_
            rw [find_none.2 hm] at hfi; cases hfi
          simp only [lkV, Option.map_some, if_true, ops P, bb, if_false]
          refine fin _ _ ?_ ?_ ?_ ?_ ?_ ?_ ?_ ?_ O
          all_goals simp only [rdU, reduceIte, Nat.reduceEqDiff]
          all_goals first | assumption | skip
          rw [step, addD, if_pos (.inl hm)]; exact D
        | none =>
          have hm : x ∉ (farE wo (d + 1) ((g.to n).take j) L).map (·.1) := find_none.1 hfi
          simp only [lkV, Option.map_none, if_true, ops P, bb, bne_R]
          by_cases hx2 : x = wo
          · rw [if_neg (by simpa using hx2)]
            refine fin _ _ ?_ ?_ ?_ ?_ ?_ ?_ ?_ ?_ O
            all_goals simp only [rdU, reduceIte, Nat.reduceEqDiff]
            all_goals first | assumption | skip
            rw [step, addD, if_pos (.inr hx2)]; exact D
          · rw [if_pos (by simpa using hx2)]
            have hnd2 : (farE wo (d + 1) ((g.to n).take j) L)[i]? = some (n, d) := by rw [farE_get _ _ hil]; exact hnd
            have hnd3 : (((farE wo (d + 1) ((g.to n).take j) L).map (·.1)).map R)[i]? = some (R n) := by simp [hnd2]
            obtain ⟨a', a1', a2', a3'⟩ := D.own.sl.index (P := P) s22 (k := .i64) hnd3
            simp only [(a1' h).run, load_run o41 a2', (D.map.lookup mInt kR n false).run, alook_map, find_fst okj.nodup hnd2, lkV, Option.map_some, bb, if_false, ops P]
            rw [show IntKind.i64.wrap ((d : Int) + 1) = ((d + 1 : Nat) : Int) from wInc (by omega)]
            refine D.push (d := d + 1) hm (by omega) (by have := O.size; omega) fun w lv' h' D' O' => ?_
            refine fin _ _ ?_ ?_ ?_ ?_ ?_ ?_ ?_ ?_ (O.trans O')
            all_goals simp only [rdU, reduceIte, Nat.reduceEqDiff]
            all_goals first | assumption | skip
            rw [step, addD, if_neg (by simp only [not_or]; exact ⟨hm, hx2⟩)]; exact D'
      · rw [if_neg (by simpa using hjl)]
        refine out2 _ _ _ (by simp) ?_
        simp only [ex]
        unfold far_c4
        simp only [rdU, reduceIte, Nat.reduceEqDiff, f13, ops P]
        have hjj : (g.to n).take j = g.to n := List.take_of_length_le (by omega)
        rw [hjj] at okj D hlj
        refine on _ _ _ ?_ ⟨i + 1, _, rfl, ?_, okj, ?_, ?_⟩
        · omega
        · rw [show g.N.length + 1 - (i + 1) = g.N.length - i by omega]
          rw [hfk, farG, hnd] at hG
          exact hG
        · have := farE_len (wo := wo) (d := d + 1) (g.to n) L; omega
        · simp only [rdU, reduceIte, Nat.reduceEqDiff]
          exact ⟨f0, f2, f7, congrArg _ (wInc (by omega)), D, O⟩
    · rw [if_neg (by simpa using hil)]
      refine out _ _ _ (by simp) ?_
      simp only [ex]
      unfold far_c2
      refine post_ret1 ⟨h0.size, ?_, hn, ?_, O⟩
      · simp only [rdU, reduceIte, Nat.reduceEqDiff]; exact f7
      · have : farL g us wo = L := by
          rw [← hG]
          have : g.N.length + 1 - i = (g.N.length - i) + 1 := by omega
          rw [this, farG, List.getElem?_eq_none (by omega)]
        rw [this]; exact D.map
end Go.Proofs.G
open Go Go.Hv
set_option maxRecDepth 100000
namespace Go.Proofs.G
/-- there, of a graph under way -/
theorem GM.there {n : Nat} {h : Heap} {b : Nat} {nv : Value} {bt bh : Nat} {es hs : List (Nat × Value)} {g : Gr} (G : GM n h b nv bt bh es hs g) (k : Nat) :
    HCalls P 41 #[.pointer (some ⟨b, 0, none⟩), R k] h fun v h' => v = .bool (decide (k ∈ g.N)) ∧ Old h.size h h' := there_spec ⟨b, nv, bt, bh, es, hs, rfl, G.ga⟩ k
theorem GM.old {n : Nat} {h h' : Heap} {b : Nat} {nv : Value} {bt bh : Nat} {es hs : List (Nat × Value)} {g : Gr} (x : GM n h b nv bt bh es hs g) (O : Old h.size h h') : GM n h' b nv bt bh es hs g :=
  x.keep fun c hc => O.get c (by rcases hc with ⟨_, _, h⟩ | ⟨_, _, h⟩ <;> exact lt_of_get h)
theorem dup_of : ∀ {xs : List Nat}, ¬ xs.Nodup → ∃ x ∈ xs, x ∈ xs.erase x
  | [], h => absurd List.nodup_nil h
  | a :: l, h => by
    by_cases ha : a ∈ l
    · exact ⟨a, by simp, by simpa using ha⟩
    · have hl : ¬ l.Nodup := fun hl => h (List.nodup_cons.2 ⟨ha, hl⟩)
      obtain ⟨x, hx, hx2⟩ := dup_of hl
      have hne : a ≠ x := fun e => ha (e ▸ hx)
      refine ⟨x, by simp [hx], ?_⟩
      rw [List.erase_cons_tail (by simpa using hne)]
      exact List.mem_cons_of_mem _ hx2
theorem nodup_len {hs : List (Nat × Value)} {xs : List Nat} (hn : (hs.map (·.1)).Nodup) (hk : ∀ k, k ∈ hs.map (·.1) ↔ k ∈ xs) : hs.length < xs.length ↔ ¬ xs.Nodup := by
  constructor
  · intro h hx
    have := len_le_of_nodup hx (N := hs.map (·.1)) fun x hx => (hk x).2 hx
    simp at this; omega
  · intro h
    obtain ⟨x, hx, hx2⟩ := dup_of h
    have h1 := len_le_of_nodup hn (N := xs.erase x) fun y hy => by
      have := (hk y).1 hy
      by_cases e : y = x
      · rw [e]; exact hx2
      · exact (List.mem_erase_of_ne e).2 this
    rw [List.length_erase_of_mem hx] at h1
    have := List.length_pos_of_mem hx
    simp at h1; omega
def mkCode : MkE → Nat
  | .long => 2
  | .arg => 1
  | .node => 140
  | .ok => 0
theorem toAll_step {E : List (Nat × Nat)} {j : Nat} {e : Nat × Nat} (h : E[j]? = some e) : toAll (E.take (j + 1)) = addTo (toAll (E.take j)) e := by
  unfold toAll; rw [take_at h, List.foldl_append]; rfl
theorem toAll_len (E : List (Nat × Nat)) (k : Nat) : (toAll E k).length ≤ E.length := by
  rw [toAll_eq, List.length_map]; exact List.length_filter_le _ _
/-- Make -/
theorem make_spec {n : Nat} {h0 : Heap} {nv ev : Value} {N : List Nat} {E : List (Nat × Nat)} (S : Rs n h0 nv N) (T : Ed n h0 ev E) (hn : n ≤ h0.size) :
    HCalls P 14 #[nv, ev] h0 fun v h' => Old h0.size h0 h' ∧ ((mkE N E ≠ .ok ∧ v = .tuple #[.pointer none, I (mkCode (mkE N E))]) ∨ (mkE N E = .ok ∧ ∃ b vv bt bh es hs, v = .tuple #[.pointer (some ⟨b, 0, none⟩), I 0] ∧ GM h0.size h' b vv bt bh es hs (grOf N E))) := by
  refine make_ok ?_
  unfold make_c0
  simp only [fr, (S.len false).1, ops P, T.len]
  have bad : ∀ (m : MkE) (f : F) (h : Heap), mkE N E = m → m ≠ .ok → f 4 = .pointer none → f 5 = I (mkCode m) → Old h0.size h0 h → post [.tmp 4, .tmp 5] (fun v h' => Old h0.size h0 h' ∧ ((mkE N E ≠ .ok ∧ v = .tuple #[.pointer none, I (mkCode (mkE N E))]) ∨ (mkE N E = .ok ∧ ∃ b vv bt bh es hs, v = .tuple #[.pointer (some ⟨b, 0, none⟩), I 0] ∧ GM h0.size h' b vv bt bh es hs (grOf N E)))) .ret f h := by
    intro m f h hm hne f4 f5 O
    refine post_ret2 ⟨O, .inl ⟨by rw [hm]; exact hne, ?_⟩⟩
    rw [f4, f5, hm]
  by_cases hN : 4096 < N.length
  · have hN' : decide ((4096 : Int) < (N.length : Int)) = true := by simp; omega
    simp only [hN', ops P, bb, if_true]
    refine bad .long _ _ (by unfold mkE; rw [if_pos (.inl hN)]) (by decide) rfl rfl (Old.refl _ _)
  have hN' : decide ((4096 : Int) < (N.length : Int)) = false := by simp; omega
  by_cases hE : 16384 < E.length
  · have hE' : decide ((16384 : Int) < (E.length : Int)) = true := by simp; omega
    simp only [hN', ops P, bb, if_true, if_false, T.len]
    simp only [hE', ops P, bb, if_true, if_false]
    refine bad .long _ _ (by unfold mkE; rw [if_pos (.inr hE)]) (by decide) rfl rfl (Old.refl _ _)
  have hE' : decide ((16384 : Int) < (E.length : Int)) = false := by simp; omega
  simp only [hN', ops P, bb, if_true, if_false, T.len]
  simp only [hE', ops P, bb, if_true, if_false]
  refine run_callF hb40 ((empty_spec S hn (by omega)).mono ?_)
  rintro _ h1 ⟨O1, b, vv, bt, bh, hs, rfl, G1⟩
  refine run_callF hb41 ((G1.there 0).mono ?_)
  rintro _ h2 ⟨rfl, O2⟩
  have G2 := G1.old O2
  have O12 : Old h0.size h0 h2 := O1.trans (O2.mono O1.size)
  have dN : ∀ (to : Nat → List Nat) (z : Nat), decide (z ∈ (⟨srt N, to⟩ : Gr).N) = decide (z ∈ N) := fun _ z => decide_eq_decide.2 srt_mem
  rw [dN]
  have hkN : ∀ k, k ∈ hs.map (·.1) ↔ k ∈ N := fun k => by rw [G2.hk k]; exact srt_mem
  by_cases h0N : 0 ∈ N
  · simp only [h0N, decide_true, ops P, bb, if_true]
    refine bad .arg _ _ (by unfold mkE; rw [if_neg (by omega), if_pos (.inl h0N)]) (by decide) rfl rfl O12
  simp only [h0N, decide_false, ops P, bb, if_false, (fld P f75_2).1, load_run o73 (cell_at G2.cells (i := 2) (v := .map (some bh)) rfl), (MapR.len Try.underlying73 G2.hm).run, (S.len false).1, lt_R]
  by_cases hnd : N.Nodup
  · have hlt : ¬ hs.length < N.length := fun h => (nodup_len G2.hm.nodup hkN).1 h hnd
    rw [if_neg (by simpa using hlt)]
    refine lp_up E.length (fun j f h => f 6 = .pointer (some ⟨b, 0, none⟩) ∧ f 31 = ev ∧ f 32 = I E.length ∧ f 33 = I j ∧ Old h0.size h0 h ∧ (∀ e ∈ E.take j, e.1 ∈ N ∧ e.2 ∈ N) ∧ ∃ es, GM h0.size h b vv bt bh es hs ⟨srt N, toAll (E.take j)⟩) ?_ ?_
    · exact ⟨rfl, rfl, rfl, rfl, O12, by simp, [], G2⟩
    rintro j f h Q' hj ⟨f6, f31, f32, f33, O, hin, es, G⟩ on out
    unfold make_L2
    simp only [f6, f31, f32, f33, ops P, lt_R]
    by_cases hjl : j < E.length
    · obtain ⟨⟨x, y⟩, hxy⟩ : ∃ e, E[j]? = some e := ⟨_, List.getElem?_eq_getElem hjl⟩
      have T' := T.keep (h' := h) fun c hc => O.get c (by omega)
      obtain ⟨a, a1, a2⟩ := T'.at hxy
      rw [if_pos (by simpa using hjl), a1, a2, run_alloc z57]
      refine run_storeS a57 (l := [R x, R y]) (get_push_new _ _) rfl (by simp [Value.cells]) (by simp [oneC]) fun h3 arr3 s3 k3 g3 z3 l3 => ?_
      have hs3 : h3.size = h.size + 1 := by rw [s3]; simp
      have harr : arr3 = #[R x, R y] := by
        apply Array.ext'
        rw [l3]; simp [Value.cells]
      subst harr
      have O3 : Old h.size h h3 := ⟨by omega, fun c hc => by rw [k3 c (by omega), get_push_old _ _ hc]⟩
      have G3 := G.old O3
      have g3' : h3[h.size]? = some (.cells #[R x, R y] 57 (0, 0)) := g3
      simp only [(fld P f57_0).1, load_run o41 (cell_at g3' (i := 0) (v := R x) rfl)]
      refine run_callF hb41 ((G3.there x).mono ?_)
      rintro _ h4 ⟨rfl, O4⟩
      have G4 := G3.old O4
      rw [dN]
      have O04 : Old h0.size h0 h4 := (O.trans (O3.mono O.size)).trans (O4.mono (by have := O.size; omega))
      have hbadnode : x ∉ N ∨ y ∉ N → mkE N E = .node := fun hb => by
        unfold mkE
        rw [if_neg (by omega), if_neg (by simp only [not_or, Classical.not_not]; exact ⟨h0N, hnd⟩), if_pos ⟨(x, y), List.mem_of_getElem? hxy, hb⟩]
      by_cases hx : x ∈ N
      · have g4 : h4[h.size]? = some (.cells #[R x, R y] 57 (0, 0)) := (O4.get _ (by omega)).trans g3'
        simp only [hx, decide_true, ops P, bb, if_false, (fld P f57_1).1, load_run o41 (cell_at g4 (i := 1) (v := R y) rfl)]
        refine run_callF hb41 ((G4.there y).mono ?_)
        rintro _ h5 ⟨rfl, O5⟩
        have G5 := G4.old O5
        rw [dN]
        have O05 : Old h0.size h0 h5 := O04.trans (O5.mono O04.size)
        by_cases hy : y ∈ N
        · simp only [hy, decide_true, ops P, bb, if_false]
          have g5 : h5[h.size]? = some (.cells #[R x, R y] 57 (0, 0)) := (O5.get _ (by have := O4.size; omega)).trans g4
          refine ⟨fun h' => h'[b]? = h5[b]? ∧ h'[h.size]? = h5[h.size]? ∧ h'[bt]? = h5[bt]?, ?_⟩
          simp only [opsf P, ops P, (fldt f75_1).1, (fldt f57_0).1, (fldt f57_1).1]
          have i0 : h5[b]? = h5[b]? ∧ h5[h.size]? = h5[h.size]? ∧ h5[bt]? = h5[bt]? := ⟨rfl, rfl, rfl⟩
          refine tk_of (.map (some bt)) i0 (fun h' hh => ans_load o72 (cell_at (hh.1.trans G5.cells) (i := 1) rfl)) ?_
          refine tk_of (R x) i0 (fun h' hh => ans_load o41 (cell_at (hh.2.1.trans g5) (i := 0) rfl)) ?_
          refine tk_of (.map (some bt)) i0 (fun h' hh => ans_load o72 (cell_at (hh.1.trans G5.cells) (i := 1) rfl)) ?_
          refine tk_of (R x) i0 (fun h' hh => ans_load o41 (cell_at (hh.2.1.trans g5) (i := 0) rfl)) ?_
          refine tk_of (lkV (.slice none 0 0) (alook es x) false) i0 (fun h' hh => (G5.tm.keep hh.2.2).lookup mTo kR x false) ?_
          refine tk_of (R y) i0 (fun h' hh => ans_load o41 (cell_at (hh.2.1.trans g5) (i := 1) rfl)) ?_
          refine run_buildSlice1 eRef rfl ?_
          have hbs : b < h5.size := lt_of_get G5.cells
          have hts : bt < h5.size := G5.tm.lt
          have hhs : h.size < h5.size := lt_of_get g5
          refine ⟨⟨get_push_old _ _ hbs, get_push_old _ _ hhs, get_push_old _ _ hts⟩, ?_⟩
          -- the list of x
          obtain ⟨lv, elv, olv, blv⟩ : ∃ lv, lkV (.slice none 0 0) (alook es x) false = lv ∧ Own h5 lv 41 ((toAll (E.take j) x).map R) ∧ ∀ c, blkOf lv = some c → ∃ v, alook es x = some v ∧ blkOf v = some c := by
            cases hlk : alook es x with
            | none => exact ⟨_, rfl, by rw [show toAll (E.take j) x = [] from G5.tx x hlk]; exact Own.nil _ _, fun c hc => by cases hc⟩
            | some v => exact ⟨v, rfl, (G5.tv x v hlk).1, fun c hc => ⟨v, rfl, hc⟩⟩
          rw [elv]
          have hlen := toAll_len (E.take j) x
          have hlen2 : (E.take j).length ≤ E.length := by simp; omega
          have o6 : Own (h5.push (.cells #[R y] 41)) lv 41 ((toAll (E.take j) x).map R) := olv.keep fun c hc => get_push_old _ _ (olv.lt hc)
          have sw : Sl (h5.push (.cells #[R y] 41)) (.slice (some ⟨h5.size, 0, none⟩) 1 1) [R y] := Row.sl (Row.mk' (get_push_new _ _))
          refine run_append1 eRef o6 sw (by simp [oneC]) (by simp; omega) (by simp; omega) fun v7 h7 o7 c7 b7 => ?_
          have keep7 : ∀ c, c < h5.size → blkOf lv ≠ some c → h7[c]? = h5[c]? := fun c hc hne => (c7.get c (by simp; omega) hne).trans (get_push_old _ _ hc)
          have hs7 : h5.size ≤ h7.size := by have := c7.size; simp at this; omega
          have nb : blkOf lv ≠ some b := fun e => by
            obtain ⟨v, q1, q2⟩ := blv b e
            exact ((G5.tv x v q1).2 b q2).2.1 rfl
          have ncell : ∀ c, (¬ ∃ arr, h5[c]? = some (.cells arr 41 (0, 0))) → blkOf lv ≠ some c := fun c hc e => hc (own_cells olv e)
          have nt : blkOf lv ≠ some bt := ncell bt fun ⟨arr, q⟩ => by
            obtain ⟨arr', clk', q'⟩ := map_obj G5.tm
            rw [q'] at q; cases q
          have ne : blkOf lv ≠ some h.size := ncell h.size fun ⟨arr, q⟩ => by
            rw [g5] at q
            have := congrArg (fun o => match o with | some (Obj.cells _ e _) => e | _ => 0) q
            cases this
          refine ⟨⟨keep7 b hbs nb, keep7 _ hhs ne, keep7 bt hts nt⟩, ?_⟩
          have m7 : MapR h7 bt R es := G5.tm.keep (keep7 bt hts nt)
          obtain ⟨arr, clk, m7⟩ := m7
          refine run_mapUpdate mTo kR m7 x v7 fun h8 arr8 clk8 m8 c8 s8 _ => ?_
          have b7' : ∀ c, blkOf v7 = some c → c ≠ bt := fun c hc e => by
            rcases b7 c hc with h' | h'
            · rw [e] at h'; exact nt h'
            · simp at h'; omega
          have o8 : Own h8 v7 41 ((toAll (E.take j) x ++ [y]).map R) := by
            rw [List.map_append]
            exact o7.keep fun c hc => c8.get c (o7.lt hc) (b7' c hc)
          have G8 := G5.upd (k := x) (v' := v7) (l := toAll (E.take j) x ++ [y]) ⟨_, _, m8⟩ o8 (fun c hc => by
            rcases b7 c hc with h' | h'
            · exact .inl (blv c h')
            · simp at h'; exact .inr (by omega)) (fun c hc hne hnb => by
            rw [c8.get c (by omega) hne]
            exact keep7 c hc fun e => by
              obtain ⟨v, q1, q2⟩ := blv c e
              exact hnb v q1 q2)
          try simp only [ops P]
          refine on _ _ hjl ⟨f6, f31, f32, congrArg _ (wInc (by omega)), ?_, fun e he => ?_, _, G8.to rfl fun k => ?_⟩
          · refine O05.trans ⟨by omega, fun c hc => ?_⟩
            have hc5 : c < h5.size := by have := O05.size; omega
            have hlo := G5.lo
            rw [c8.get c (by omega) (by omega)]
            refine keep7 c hc5 fun e => ?_
            obtain ⟨v, q1, q2⟩ := blv c e
            have := ((G5.tv x v q1).2 c q2).1; omega
          · rw [take_at hxy] at he
            rcases List.mem_append.1 he with he | he
            · exact hin e he
            · simp at he; subst he; exact ⟨hx, hy⟩
          · rw [toAll_step hxy]
            show (if k = x then _ else _) = addTo _ _ k
            unfold addTo
            by_cases hk : k = x
            · subst hk; simp
            · simp [hk]
        · simp only [hy, decide_false, ops P, bb, if_true]
          refine out _ _ _ (by simp) ?_
          simp only [ex]
          exact bad .node _ _ (hbadnode (.inr hy)) (by decide) rfl rfl O05
      · simp only [hx, decide_false, ops P, bb, if_true]
        refine out _ _ _ (by simp) ?_
        simp only [ex]
        exact bad .node _ _ (hbadnode (.inl hx)) (by decide) rfl rfl O04
    · rw [if_neg (by simpa using hjl)]
      refine out _ _ _ (by simp) ?_
      simp only [ex]
      unfold make_c1
      have hjj : E.take j = E := List.take_of_length_le (by omega)
      rw [hjj] at G hin
      show run P (.callF 42 [f 6]) _ h
      rw [f6]
      refine run_callF hb42 ((rises_spec G (fun k => by have := toAll_len E k; show (toAll E k).length < 65536; omega)).mono ?_)
      rintro _ h6 ⟨rfl, O6, es', G6⟩
      refine post_ret2 ⟨O.trans O6, .inr ⟨?_, b, vv, bt, bh, es', hs, rfl, G6⟩⟩
      unfold mkE
      rw [if_neg (by omega), if_neg (by simp only [not_or, Classical.not_not]; exact ⟨h0N, hnd⟩), if_neg]
      rintro ⟨e, he, hb⟩
      have := hin e he
      rcases hb with hb | hb
      · exact hb this.1
      · exact hb this.2
  · have hlt : hs.length < N.length := (nodup_len G2.hm.nodup hkN).2 hnd
    rw [if_pos (by simpa using hlt)]
    refine bad .arg _ _ (by unfold mkE; rw [if_neg (by omega), if_pos (.inr hnd)]) (by decide) rfl rfl O12
end Go.Proofs.G
open Go Go.Hv
set_option maxRecDepth 100000
namespace Go.Proofs.G
/-- an edge more, in a graph under way -/
theorem GM.push {n : Nat} {h : Heap} {b : Nat} {nv : Value} {bt bh : Nat} {es hs : List (Nat × Value)} {N : List Nat} {to : Nat → List Nat} (G : GM n h b nv bt bh es hs ⟨N, to⟩) (x y : Nat) (hlen : (to x).length ≤ 100000000) {St : Heap → Prop}
    (hSt : ∀ h' : Heap, h'[b]? = h[b]? → h'[bt]? = h[bt]? → (∀ c, c < n → h'[c]? = h[c]?) → h.size ≤ h'.size → St h') {K : Value → Value → Heap → Prop}
    (hk : ∀ u v h8 es8, GM n h8 b nv bt bh es8 hs ⟨N, addTo to (x, y)⟩ → Old n h h8 → K u v h8) :
    run P (.buildSlice 22 1 [(0, R y)]) (fun u h => St h ∧ run P (.builtin .append #[22, 22] 22 [false, false] [lkV (.slice none 0 0) (alook es x) false, u]) (fun v h => St h ∧ run P (.mapUpdate 72 (.map (some bt)) (R x) v) (fun _ h => K u v h) h) h) h := by
  have hbs : b < h.size := lt_of_get G.cells
  have hts : bt < h.size := G.tm.lt
  have hnb := G.lo.1
  refine run_buildSlice1 eRef rfl ⟨hSt _ (get_push_old _ _ hbs) (get_push_old _ _ hts) (fun c hc => get_push_old _ _ (by omega)) (by simp), ?_⟩
  obtain ⟨lv, elv, olv, blv⟩ : ∃ lv, lkV (.slice none 0 0) (alook es x) false = lv ∧ Own h lv 41 ((to x).map R) ∧ ∀ c, blkOf lv = some c → ∃ v, alook es x = some v ∧ blkOf v = some c := by
    cases hlk : alook es x with
    | none => exact ⟨_, rfl, by rw [show to x = [] from G.tx x hlk]; exact Own.nil _ _, fun c hc => by cases hc⟩
    | some v => exact ⟨v, rfl, (G.tv x v hlk).1, fun c hc => ⟨v, rfl, hc⟩⟩
  rw [elv]
  have o6 : Own (h.push (.cells #[R y] 41)) lv 41 ((to x).map R) := olv.keep fun c hc => get_push_old _ _ (olv.lt hc)
  have sw : Sl (h.push (.cells #[R y] 41)) (.slice (some ⟨h.size, 0, none⟩) 1 1) [R y] := Row.sl (Row.mk' (get_push_new _ _))
  refine run_append1 eRef o6 sw (by simp [oneC]) (by simp; omega) (by simp; omega) fun v7 h7 o7 c7 b7 => ?_
  have keep7 : ∀ c, c < h.size → blkOf lv ≠ some c → h7[c]? = h[c]? := fun c hc hne => (c7.get c (by simp; omega) hne).trans (get_push_old _ _ hc)
  have hs7 : h.size ≤ h7.size := by have := c7.size; simp at this; omega
  have nb : blkOf lv ≠ some b := fun e => by
    obtain ⟨v, q1, q2⟩ := blv b e
    exact ((G.tv x v q1).2 b q2).2.1 rfl
  have nt : blkOf lv ≠ some bt := fun e => by
    obtain ⟨arr, q⟩ := own_cells olv e
    obtain ⟨arr', clk', q'⟩ := map_obj G.tm
    rw [q'] at q; cases q
  have nlo : ∀ c, c < n → blkOf lv ≠ some c := fun c hc e => by
    obtain ⟨v, q1, q2⟩ := blv c e
    have := ((G.tv x v q1).2 c q2).1; omega
  refine ⟨hSt _ (keep7 b hbs nb) (keep7 bt hts nt) (fun c hc => keep7 c (by omega) (nlo c hc)) hs7, ?_⟩
  have m7 : MapR h7 bt R es := G.tm.keep (keep7 bt hts nt)
  obtain ⟨arr, clk, m7⟩ := m7
  refine run_mapUpdate mTo kR m7 x v7 fun h8 arr8 clk8 m8 c8 s8 _ => ?_
  have b7' : ∀ c, blkOf v7 = some c → c ≠ bt := fun c hc e => by
    rcases b7 c hc with h' | h'
    · rw [e] at h'; exact nt h'
    · simp at h'; omega
  have o8 : Own h8 v7 41 ((to x ++ [y]).map R) := by
    rw [List.map_append]
    exact o7.keep fun c hc => c8.get c (o7.lt hc) (b7' c hc)
  have G8 := G.upd (k := x) (v' := v7) (l := to x ++ [y]) ⟨_, _, m8⟩ o8 (fun c hc => by
    rcases b7 c hc with h' | h'
    · exact .inl (blv c h')
    · simp at h'; exact .inr (by omega)) (fun c hc hne hnb => by
    rw [c8.get c (by omega) hne]
    exact keep7 c hc fun e => by
      obtain ⟨v, q1, q2⟩ := blv c e
      exact hnb v q1 q2)
  refine hk _ _ h8 _ (G8.to rfl fun k => ?_) ⟨by omega, fun c hc => ?_⟩
  · show (if k = x then _ else _) = addTo _ _ k
    unfold addTo
    by_cases hk : k = x
    · subst hk; simp
    · simp [hk]
  · have hlo := G.lo
    rw [c8.get c (by omega) (by omega)]
    exact keep7 c (by omega) (nlo c hc)
/-- the edges the other way, as they are met -/
def tE (g : Gr) : List (Nat × Nat) := g.N.flatMap fun n => (g.to n).map fun t => (t, n)
theorem toAll_tE (g : Gr) (w : ∀ n, (g.to n).Nodup) (k : Nat) : toAll (tE g) k = g.N.filter fun n => decide (k ∈ g.to n) := by
  rw [toAll_eq]
  unfold tE
  generalize g.N = N
  induction N with
  | nil => rfl
  | cons n N ih =>
    rw [List.flatMap_cons, List.filter_append, List.map_append, ih, List.filter_cons]
    have key : ∀ l : List Nat, l.Nodup → (((l.map fun t => (t, n)).filter fun e => e.1 == k).map (·.2)) = if k ∈ l then [n] else [] := by
      intro l
      induction l with
      | nil => intro _; rfl
      | cons t l ihl =>
        intro hn
        simp only [List.nodup_cons] at hn
        simp only [List.map_cons, List.filter_cons]
        have ihl := ihl hn.2
        by_cases ht : t = k
        · subst ht
          rw [if_neg hn.1] at ihl
          simp [ihl]
        · have : (t == k) = false := by simpa using ht
          simp only [this, Bool.false_eq_true, if_false, ihl]
          have : k ∈ t :: l ↔ k ∈ l := by simp [Ne.symm ht]
          simp [this]
    rw [key _ (w n)]
    by_cases hk : k ∈ g.to n <;> simp [hk]
/-- the graph turned about -/
def trn (g : Gr) : Gr := grOf g.N (tE g)
end Go.Proofs.G
open Go Go.Hv
set_option maxRecDepth 100000
namespace Go.Proofs.G
theorem hb33 : hasBody P 33 = true := by kernel_rfl
theorem tE_len' (g : Gr) (w : g.WF) (l : List Nat) : (l.flatMap fun n => (g.to n).map fun t => (t, n)).length ≤ l.length * 4096 := by
  rw [List.length_flatMap]
  induction l with
  | nil => simp
  | cons n l ih => simp only [List.map_cons, List.sum_cons, List.length_cons, List.length_map] at *; have := w.fewt n; omega
theorem foldl_addTo_len (l : List (Nat × Nat)) (to : Nat → List Nat) (k : Nat) : (l.foldl addTo to k).length ≤ (to k).length + l.length := by
  induction l generalizing to with
  | nil => simp
  | cons e l ih =>
    rw [List.foldl_cons]
    refine Nat.le_trans (ih _) ?_
    have : (addTo to e k).length ≤ (to k).length + 1 := by unfold addTo; split <;> simp
    simp; omega
/-- turned -/
theorem turned_spec {n : Nat} {h0 : Heap} {p : Value} {g : Gr} (G0 : GR n h0 p g) (w : g.WF) (hn : n ≤ h0.size) :
    HCalls P 33 #[p] h0 fun v h' => Old h0.size h0 h' ∧ ∃ b vv bt bh es hs, v = .pointer (some ⟨b, 0, none⟩) ∧ GM h0.size h' b vv bt bh es hs (trn g) := by
  obtain ⟨b0, nv0, bt0, bh0, es0, hs0, rfl, A⟩ := G0
  have hfew := w.few
  refine turned_ok ?_
  unfold turned_c0
  simp only [fr, ops P, (fld P f75_0).1, load_run o22 A.c0]
  refine run_callF hb40 ((empty_spec A.nodes hn (by omega)).mono ?_)
  rintro _ h1 ⟨O1, b, vv, bt, bh, hs, rfl, G1⟩
  have A1 := A.keep (h' := h1) fun c hc => O1.get c (by omega)
  simp only [load_run o22 A1.c0, (A1.nodes.len false).1]
  refine lp_up g.N.length (fun j f h => f 0 = .pointer (some ⟨b0, 0, none⟩) ∧ f 3 = .pointer (some ⟨b, 0, none⟩) ∧ f 16 = nv0 ∧ f 17 = I g.N.length ∧ f 18 = I j ∧ Old h0.size h0 h ∧ ∃ es, GM h0.size h b vv bt bh es hs ⟨srt g.N, toAll ((g.N.take j).flatMap fun n => (g.to n).map fun t => (t, n))⟩) ?_ ?_
  · exact ⟨rfl, rfl, rfl, rfl, rfl, O1, [], G1⟩
  rintro j f h Q' hj ⟨f0, f3, f16, f17, f18, O, es, G⟩ on out
  unfold turned_L2
  simp only [f0, f3, f16, f17, f18, ops P, lt_R]
  have A2 := A.keep (h' := h) fun c hc => O.get c (by omega)
  by_cases hjl : j < g.N.length
  · obtain ⟨m, hm⟩ : ∃ m, g.N[j]? = some m := ⟨_, List.getElem?_eq_getElem hjl⟩
    obtain ⟨a, a1, _, a2, _, _⟩ := A2.nodes.at hm .i64
    obtain ⟨tv, t1, _, T⟩ := A2.look m
    rw [if_pos (by simpa using hjl)]
    simp only [a1, load_run o41 a2, (fld P f75_1).1, load_run o72 A2.c1, t1, (T.len false).1]
    refine lp_up (g.to m).length (fun i f h' => f 0 = .pointer (some ⟨b0, 0, none⟩) ∧ f 3 = .pointer (some ⟨b, 0, none⟩) ∧ f 5 = R m ∧ f 16 = nv0 ∧ f 17 = I g.N.length ∧ f 18 = I j ∧ f 27 = tv ∧ f 28 = I (g.to m).length ∧ f 29 = I i ∧ Old h0.size h0 h' ∧ ∃ es, GM h0.size h' b vv bt bh es hs ⟨srt g.N, toAll (((g.N.take j).flatMap fun n => (g.to n).map fun t => (t, n)) ++ ((g.to m).take i).map fun t => (t, m))⟩) ?_ ?_
    · exact ⟨f0, f3, rfl, f16, f17, f18, rfl, rfl, rfl, O, es, by simpa using G⟩
    rintro i f h' Q2 hi ⟨f0, f3, f5, f16, f17, f18, f27, f28, f29, O', es, G⟩ on2 out2
    unfold turned_L4
    simp only [f3, f5, f27, f28, f29, ops P, lt_R]
    by_cases hil : i < (g.to m).length
    · obtain ⟨t, ht⟩ : ∃ t, (g.to m)[i]? = some t := ⟨_, List.getElem?_eq_getElem hil⟩
      have A3 := A.keep (h' := h') fun c hc => O'.get c (by omega)
      have T' : Rs n h' tv (g.to m) := by
        refine T.keep fun c hc => ?_
        rw [O'.get c (by omega), O.get c (by omega)]
      obtain ⟨a', a1', _, a2', _, _⟩ := T'.at ht .i64
      rw [if_pos (by simpa using hil), a1', load_run o41 a2']
      refine ⟨fun h2 => h2[b]? = h'[b]? ∧ h2[bt]? = h'[bt]?, ?_⟩
      simp only [opsf P, ops P, (fldt f75_1).1]
      have i0 : h'[b]? = h'[b]? ∧ h'[bt]? = h'[bt]? := ⟨rfl, rfl⟩
      refine tk_of (.map (some bt)) i0 (fun h2 hh => ans_load o72 (cell_at (hh.1.trans G.cells) (i := 1) rfl)) ?_
      try simp only [opsf P, ops P, (fldt f75_1).1]
      refine tk_of (.map (some bt)) i0 (fun h2 hh => ans_load o72 (cell_at (hh.1.trans G.cells) (i := 1) rfl)) ?_
      try simp only [opsf P, ops P, (fldt f75_1).1]
      refine tk_of (lkV (.slice none 0 0) (alook es t) false) i0 (fun h2 hh => (G.tm.keep hh.2).lookup mTo kR t false) ?_
      try simp only [opsf P, ops P, (fldt f75_1).1]
      have hb1 : (toAll (((g.N.take j).flatMap fun n => (g.to n).map fun t => (t, n)) ++ ((g.to m).take i).map fun t => (t, m)) t).length ≤ 100000000 := by
        refine Nat.le_trans (toAll_len _ _) ?_
        have h1 := tE_len' g w (g.N.take j)
        have h2 := w.fewt m
        simp only [List.length_append, List.length_map, List.length_take] at *
        have h3 : min j g.N.length * 4096 ≤ 4096 * 4096 := Nat.mul_le_mul_right _ (by omega)
        omega
      refine G.push t m hb1 (fun h2 q1 q2 _ _ => ⟨q1, q2⟩) fun u v h8 es8 G8 O8 => ?_
      try simp only [ops P]
      refine on2 _ _ hil ⟨f0, f3, f5, f16, f17, f18, f27, f28, congrArg _ (wInc (by have := w.fewt m; omega)), O'.trans O8, es8, G8.to rfl fun k => ?_⟩
      rw [take_at ht, List.map_append, ← List.append_assoc]
      show addTo (toAll _) _ k = toAll _ k
      unfold toAll
      rw [List.foldl_append (l' := List.map (fun t => (t, m)) [t])]
      rfl
    · rw [if_neg (by simpa using hil)]
      refine out2 _ _ _ (by simp) ?_
      simp only [ex]
      unfold turned_c3
      simp only [rdU, reduceIte, Nat.reduceEqDiff, f18, ops P]
      refine on _ _ hjl ⟨f0, f3, f16, f17, congrArg _ (wInc (by omega)), O', es, G.to rfl fun k => ?_⟩
      rw [List.take_of_length_le (l := g.to m) (by omega), take_at hm]
      simp
  · rw [if_neg (by simpa using hjl)]
    refine out _ _ _ (by simp) ?_
    simp only [ex]
    unfold turned_c1
    have hjj : g.N.take j = g.N := List.take_of_length_le (by omega)
    rw [hjj] at G
    show run P (.callF 42 [f 3]) _ h
    rw [f3]
    refine run_callF hb42 ((rises_spec G (fun k => ?_)).mono ?_)
    · show (toAll (tE g) k).length < 65536
      rw [toAll_tE g (fun n => nodup_up (w.upt n))]
      have := List.length_filter_le (fun n => decide (k ∈ g.to n)) g.N
      omega
    · rintro _ h6 ⟨rfl, O6, es', G6⟩
      exact post_ret1 ⟨O.trans O6, b, vv, bt, bh, es', hs, rfl, G6⟩
end Go.Proofs.G
open Go Go.Hv
set_option maxRecDepth 100000
namespace Go.Proofs.G
/-- how far a node is, by a list of such -/
def dOf (L : List (Nat × Nat)) (n : Nat) : Option Nat := (L.find? fun p => p.1 == n).map (·.2)
/-- the least of the shortest ways -/
def pathF (g : Gr) (L : List (Nat × Nat)) : Nat → List Nat → List Nat
  | 0, acc => acc
  | left + 1, acc => match (g.to (acc.getLast?.getD 0)).find? fun t => decide (dOf L t = some left) with
    | some t => pathF g L left (acc ++ [t])
    | none => pathF g L left acc
theorem Nw.push {n : Nat} {h : Heap} {lv : Value} {l : List Nat} (W : Nw n h lv l) (x : Nat) (hl : l.length ≤ 100000000) (hb : n ≤ h.size) {K : Value → Value → Heap → Prop}
    (hk : ∀ u v h', Nw n h' v (l ++ [x]) → (∀ c, c < h.size → blkOf lv ≠ some c → h'[c]? = h[c]?) → h.size ≤ h'.size → (∀ c, blkOf v = some c → blkOf lv = some c ∨ h.size ≤ c) → K u v h') :
    run P (.buildSlice 22 1 [(0, R x)]) (fun u h => run P (.builtin .append #[22, 22] 22 [false, false] [lv, u]) (fun v h => K u v h) h) h := by
  refine run_buildSlice1 eRef rfl ?_
  have o1 : Own (h.push (.cells #[R x] 41)) lv 41 (l.map R) := W.own.keep fun c hc => get_push_old _ _ (W.own.lt hc)
  have sw : Sl (h.push (.cells #[R x] 41)) (.slice (some ⟨h.size, 0, none⟩) 1 1) [R x] := Row.sl (Row.mk' (get_push_new _ _))
  refine run_append1 eRef o1 sw (by simp [oneC]) (by simp; omega) (by simp; omega) fun v h2 o2 c2 b2 => ?_
  refine hk _ v h2 ⟨by simpa using o2, fun c hc => ?_⟩ (fun c hc hne => (c2.get c (by simp; omega) hne).trans (get_push_old _ _ hc)) (by have := c2.size; simp at this; omega) (fun c hc => ?_)
  · rcases b2 c hc with h' | h'
    · exact W.lo c h'
    · simp at h'; omega
  · rcases b2 c hc with h' | h'
    · exact .inl h'
    · simp at h'; exact .inr (by omega)
theorem hb54 : hasBody P 54 = true := by kernel_rfl
theorem path_spec {n : Nat} {h0 : Heap} {p : Value} {g : Gr} (G0 : GR n h0 p g) (w : g.WF) (hn : n ≤ h0.size) {bd : Nat} {L : List (Nat × Nat)} (M : MapR h0 bd R (L.map fun p => (p.1, I p.2))) (hd : ∀ k d, dOf L k = some d → d ≤ 100000) (fm : Nat) :
    HCalls P 54 #[p, R fm, .map (some bd)] h0 fun v h' => Old h0.size h0 h' ∧ (match dOf L fm with | none => v = .slice none 0 0 | some d => Nw h0.size h' v (pathF g L d [fm])) := by
  obtain ⟨b, nv, bt, bh, es, hs, rfl, A⟩ := G0
  have look : ∀ {h' : Heap}, h'[bd]? = h0[bd]? → ∀ k K, run P (.lookup 86 (.map (some bd)) (R k) true) K h' = K (.tuple #[I ((dOf L k).getD 0), .bool (dOf L k).isSome]) h' := fun {h'} hh k K => by
    rw [((M.keep hh).lookup mInt kR k true).run, alook_map]
    unfold dOf
    cases L.find? (fun p => p.1 == k) with
    | none => rfl
    | some q => rfl
  refine path_ok ?_
  unfold path_c0
  simp only [fr, look rfl, ops P]
  cases hdf : dOf L fm with
  | none =>
    simp only [Option.isSome_none, bb, if_true]
    exact post_ret1 ⟨Old.refl _ _, rfl⟩
  | some d0 =>
    simp only [Option.isSome_some, bb, if_false, Option.getD_some]
    have hd0 := hd fm d0 hdf
    refine run_buildSlice1 eRef rfl ?_
    have N0 : Nw h0.size (h0.push (.cells #[R fm] 41)) (.slice (some ⟨h0.size, 0, none⟩) 1 1) [fm] := ⟨.inr ⟨h0.size, 1, rfl, ⟨_, get_push_new _ _, rfl, rfl⟩⟩, fun c hc => by cases hc; exact Nat.le_refl _⟩
    refine lp_of (fun k f h => ∃ acc, f 0 = .pointer (some ⟨b, 0, none⟩) ∧ f 2 = .map (some bd) ∧ f 7 = I k ∧ Nw h0.size h (f 9) acc ∧ acc ≠ [] ∧ acc.length + k ≤ 200000 ∧ pathF g L k acc = pathF g L d0 [fm] ∧ Old h0.size h0 h) d0 ⟨[fm], rfl, rfl, rfl, N0, by simp, by simp; omega, rfl, old_push _ _ (Nat.le_refl _)⟩ ?_
    rintro k f h Q' ⟨acc, f0, f2, f7, N, hne, hlen, hE, O⟩ on out
    unfold path_L2
    simp only [f0, f2, f7, ops P]
    cases k with
    | zero =>
      rw [if_neg (by simp)]
      refine out _ _ _ (by simp) ?_
      simp only [ex]
      unfold path_c1
      exact post_ret1 ⟨O, by rw [← hE]; exact N⟩
    | succ k =>
      rw [if_pos (by simp)]
      have hpos : 0 < acc.length := List.length_pos_iff.2 hne
      have hlast : acc[acc.length - 1]? = some (acc.getLast?.getD 0) := by
        rw [← List.getLast?_eq_getElem?]
        cases h : acc.getLast? with
        | none => rw [List.getLast?_eq_none_iff] at h; exact absurd h hne
        | some x => rfl
      obtain ⟨a, a1, _, a2, _, _⟩ := N.rs.at hlast .i64
      have A' := A.keep (h' := h) fun c hc => O.get c (by omega)
      obtain ⟨tv, t1, _, T⟩ := A'.look (acc.getLast?.getD 0)
      rw [(N.rs.len false).1]
      simp only [ops P, wDec (show acc.length < 9223372036854775808 by omega) hpos, a1, load_run o41 a2, (fld P f75_1).1, load_run o72 A'.c1, t1, (T.len false).1]
      have behind : ∀ (f' : F) (h' : Heap) (acc' : List Nat), f' 0 = .pointer (some ⟨b, 0, none⟩) → f' 2 = .map (some bd) → f' 7 = I (k + 1) → Nw h0.size h' (f' 9) acc' → acc' ≠ [] → acc'.length + k ≤ 200000 → pathF g L k acc' = pathF g L d0 [fm] → Old h0.size h0 h' → path_c3 Q' f' h' := by
        intro f' h' acc' g0 g2 g7 N' q1 q2 q3 O'
        unfold path_c3
        simp only [g7, ops P]
        exact on k _ _ (Nat.lt_succ_self k) ⟨acc', g0, g2, congrArg _ (wDec (n := k + 1) (by omega) (by omega)), N', q1, q2, q3, O'⟩
      have hto := w.fewt (acc.getLast?.getD 0)
      refine lp_up (g.to (acc.getLast?.getD 0)).length (fun i f h' => f 0 = .pointer (some ⟨b, 0, none⟩) ∧ f 2 = .map (some bd) ∧ f 7 = I (k + 1) ∧ f 9 = f 9 ∧ f 40 = tv ∧ f 41 = I (g.to (acc.getLast?.getD 0)).length ∧ f 42 = I i ∧ Nw h0.size h' (f 9) acc ∧ h' = h ∧ (g.to (acc.getLast?.getD 0)).find? (fun t => decide (dOf L t = some k)) = ((g.to (acc.getLast?.getD 0)).drop i).find? (fun t => decide (dOf L t = some k))) ?_ ?_
      · exact ⟨f0, f2, f7, rfl, rfl, rfl, rfl, N, rfl, by simp⟩
      rintro i f h' Q2 hi ⟨f0, f2, f7, _, f40, f41, f42, N9, rfl, hfind⟩ on2 out2
      unfold path_L4
      simp only [f2, f7, f40, f41, f42, ops P, lt_R]
      rw [pathF] at hE
      by_cases hil : i < (g.to (acc.getLast?.getD 0)).length
      · obtain ⟨t, ht⟩ : ∃ t, (g.to (acc.getLast?.getD 0))[i]? = some t := ⟨_, List.getElem?_eq_getElem hil⟩
        obtain ⟨a', a1', _, a2', _, _⟩ := T.at ht .i64
        rw [if_pos (by simpa using hil), a1', load_run o41 a2', look (O.get _ M.lt)]
        have hdrop : (g.to (acc.getLast?.getD 0)).drop i = t :: (g.to (acc.getLast?.getD 0)).drop (i + 1) := by
          rw [List.drop_eq_getElem_cons hil]
          congr 1
          rw [List.getElem?_eq_getElem hil] at ht; simpa using ht
        rw [hdrop, List.find?_cons] at hfind
        have w1 : IntKind.i64.wrap (((k + 1 : Nat) : Int) - 1) = (k : Int) := wDec (n := k + 1) (by omega) (by omega)
        by_cases hdt : dOf L t = some k
        · simp only [hdt, Option.isSome_some, Option.getD_some, bb, ops P, w1, beq_R, decide_true, if_true] at hfind ⊢
          refine N9.push t (by omega) O.size fun u v h2 N2 k2 s2 b2 => ?_
          refine out2 _ _ _ (by simp) ?_
          simp only [ex]
          refine behind _ h2 (acc ++ [t]) f0 f2 f7 N2 (by simp) (by simp; omega) ?_ ⟨by have := O.size; omega, fun c hc => ?_⟩
          · rw [hfind] at hE; exact hE
          · rw [k2 c (by have := O.size; omega) (fun e => by have := N9.lo c e; omega), O.get c hc]
        · have hcond : ((dOf L t).isSome && decide ((dOf L t).getD 0 = k)) = false := by
            cases h : dOf L t with
            | none => rfl
            | some z => simp; rintro rfl; exact hdt h
          simp only [hdt, decide_false] at hfind
          have go : ∀ f' : F, f' 0 = .pointer (some ⟨b, 0, none⟩) → f' 2 = .map (some bd) → f' 7 = I (k + 1) → f' 40 = tv → f' 41 = I (g.to (acc.getLast?.getD 0)).length → f' 9 = f 9 → f' 42 = I (i + 1) → Q2 .normal f' h' := fun f' g0 g2 g7 g40 g41 g9 g42 => on2 _ _ hil ⟨g0, g2, g7, rfl, g40, g41, g42, by rw [g9]; exact N9, rfl, hfind⟩
          cases h : dOf L t with
          | none =>
            simp only [Option.isSome_none, bb, ops P, if_false]
            exact go _ f0 f2 f7 f40 f41 rfl (congrArg _ (wInc (by omega)))
          | some z =>
            have hzk : ¬ z = k := fun e => hdt (by rw [h, e])
            simp only [Option.isSome_some, Option.getD_some, bb, ops P, w1, beq_R, hzk, decide_false, if_true, if_false]
            exact go _ f0 f2 f7 f40 f41 rfl (congrArg _ (wInc (by omega)))
      · rw [if_neg (by simpa using hil)]
        refine out2 _ _ _ (by simp) ?_
        simp only [ex]
        rw [List.drop_eq_nil_of_le (by omega)] at hfind
        rw [hfind] at hE
        exact behind _ _ acc f0 f2 f7 N9 hne (by omega) hE O
end Go.Proofs.G
