import Derived.KernelRfl
import Derived.Test.YtadfdknlogceoaaKr
import Derived.Test.YtadfdknlogceoaaKp
import Derived.Test.YtadfdknlogceoaaKq
import Derived.Test.YtadfdknlogceoaaKo
import Derived.Test.YtadfdknlogceoaaKe
set_option linter.all false
open Go Go.Hv
set_option maxRecDepth 100000
namespace Go.Proofs.G
theorem sort0 (h : Heap) : HCalls P 48 #[.slice none 0 0, cf] h fun _ h' => h' = h := by
  have key : HCalls P 97 #[.slice none 0 0, I 0, I 0, cf] h fun _ h' => h' = h := by
    refine insSortF_ok ?_
    unfold insSortF_c0
    simp only [fr, ops P]
    refine lp_of (fun k f h' => f 2 = I 0 ∧ f 8 = I 1 ∧ h' = h) 0 ⟨rfl, rfl, rfl⟩ ?_
    rintro k f h' Q' ⟨f2, f8, rfl⟩ on out
    unfold insSortF_L1
    simp only [f2, f8, ops P]
    rw [if_neg (by simp)]
    refine out _ _ _ (by simp) ?_
    simp only [ex]
    exact post_end0 rfl
  refine sortFunc_ok ?_
  unfold sortFunc_c0
  have e1 : ∀ K h, run P (.builtin .len #[36] 3 [false] [.slice none 0 0]) K h = K (I 0) h := fun K h => (ans_lenSlice (P := P) s36).run K
  have e2 := (ans_convInt (n := (0 : Int)) (h := h) (j := .i64) u3 u112).run
  have e3 : IntKind.u64.wrap 0 = 0 := by decide
  rw [e3] at e2
  simp only [fr, e1]
  show run P (.conv 3 112 (.int .i64 0)) _ h
  rw [e2]
  refine run_callF hb75 ((len75_spec 0 (by omega) h).mono ?_)
  rintro _ _ ⟨rfl, rfl⟩
  rename_i h
  refine run_callF hb76 ?_
  refine HCalls.mono (R := fun _ h' => h' = h) ?_ (fun v h' e => post_end0 e)
  refine pdqF_ok ?_
  unfold pdqF_c0
  refine lp_of (fun k f h' => f 0 = .slice none 0 0 ∧ f 1 = I 0 ∧ f 2 = I 0 ∧ f 4 = cf ∧ h' = h) 0 ⟨rfl, rfl, rfl, rfl, rfl⟩ ?_
  rintro k f h' Q' ⟨f0, f1, f2, f4, rfl⟩ on out
  unfold pdqF_L1
  have w0 : IntKind.i64.wrap (((0 : Nat) : Int) - ((0 : Nat) : Int)) = 0 := by decide
  simp only [f0, f1, f2, f4, ops P, w0]
  rw [if_pos (by simp)]
  refine run_callF hb97 (key.mono ?_)
  rintro _ _ rfl
  refine out _ _ _ (by simp) ?_
  simp only [ex]
  exact post_ret0 rfl
/-- slices.SortFunc at twelve slices or fewer -/
theorem sf12 {m : Nat} (hm : m ≤ 12) : SF m := by
  intro α _ val ls h0 b cap d0 hd cm D0
  refine sortFunc_ok ?_
  unfold sortFunc_c0
  have e1 : ∀ K h, run P (.builtin .len #[36] 3 [false] [dv b d0.size cap]) K h = K (I d0.size) h := fun K h => (ans_lenSlice (P := P) s36).run K
  have e2 := (ans_convInt (n := (d0.size : Int)) (h := h0) (j := .i64) u3 u112).run
  rw [wU (by omega)] at e2
  simp only [fr, e1, e2]
  refine run_callF hb75 ((len75_spec d0.size (by omega) h0).mono ?_)
  rintro _ _ ⟨rfl, rfl⟩
  rename_i h0
  refine run_callF hb76 ?_
  refine HCalls.mono (R := fun _ h' => Chg (fun c => c = b) h0 h' ∧ ∃ d', DtV val h' b cap d' ∧ Sort.PermIn 0 m d0 d' ∧ Sort.SortedIn ls 0 m d') ?_ (fun v h' e => post_end0 e)
  refine pdqF_ok ?_
  unfold pdqF_c0
  refine lp_of (fun k f h' => f 0 = dv b d0.size cap ∧ f 1 = I 0 ∧ f 2 = I d0.size ∧ f 4 = cf ∧ h' = h0) 0 ⟨rfl, rfl, rfl, rfl, rfl⟩ ?_
  rintro k f h' Q' ⟨f0, f1, f2, f4, rfl⟩ on out
  unfold pdqF_L1
  have w0 : IntKind.i64.wrap ((d0.size : Int) - ((0 : Nat) : Int)) = (d0.size : Int) := by
    rw [show ((d0.size : Int) - ((0 : Nat) : Int)) = (d0.size : Int) by omega]; exact wI (by omega)
  simp only [f0, f1, f2, f4, ops P, w0]
  rw [if_pos (by simp; omega)]
  rename_i h0
  refine run_callF hb97 ((insSortF_spec cm D0 (Nat.zero_le _) (Nat.le_refl _) (by omega)).mono ?_)
  rintro _ h1 ⟨rfl, D1, C1⟩
  refine out _ _ _ (by simp) ?_
  simp only [ex]
  obtain ⟨p1, p2⟩ := Sort.insertionSort_holds cm.swo d0 0 d0.size (Nat.zero_le _) (Nat.le_refl _)
  rw [hd] at p1 p2 D1
  exact post_ret0 ⟨C1, _, D1, p1, p2⟩
end Go.Proofs.G
set_option maxRecDepth 100000
namespace Go.Proofs.G
def srtI (l : List Nat) : List Nat := l.foldr (fun x acc => insR acc x) []
theorem insR_perm (l : List Nat) (t : Nat) : (insR l t).Perm (t :: l) := by
  induction l with
  | nil => exact List.Perm.refl _
  | cons x xs ih =>
    unfold insR
    split
    · exact (List.Perm.cons x ih).trans (List.Perm.swap _ _ _)
    · exact List.Perm.refl _
theorem insR_le {l : List Nat} {t : Nat} (hs : l.Pairwise (· ≤ ·)) : (insR l t).Pairwise (· ≤ ·) := by
  induction l with
  | nil => simp [insR]
  | cons x xs ih =>
    rw [List.pairwise_cons] at hs
    unfold insR
    split
    · rename_i hx
      rw [List.pairwise_cons]
      refine ⟨fun y hy => ?_, ih hs.2⟩
      rcases insR_mem.1 hy with rfl | hy
      · omega
      · exact hs.1 y hy
    · rename_i hx
      rw [List.pairwise_cons]
      refine ⟨fun y hy => ?_, List.pairwise_cons.2 hs⟩
      rcases List.mem_cons.1 hy with rfl | hy
      · omega
      · have := hs.1 y hy; omega
theorem srtI_ok (l : List Nat) : (srtI l).Perm l ∧ (srtI l).Pairwise (· ≤ ·) := by
  induction l with
  | nil => exact ⟨List.Perm.refl _, List.Pairwise.nil⟩
  | cons x xs ih => exact ⟨(insR_perm _ _).trans (List.Perm.cons x ih.1), insR_le ih.2⟩
theorem srt_I (l : List Nat) : srt l = srtI l :=
  ((srt_perm l).trans (srtI_ok l).1.symm).eq_of_pairwise (le := (· ≤ ·)) (fun a b _ _ h1 h2 => Nat.le_antisymm h1 h2) (srt_le l) (srtI_ok l).2
def exE : List (Nat × Nat) := [(1, 2), (2, 3), (3, 2), (1, 4)]
def exG : Gr := grOf [4, 2, 3, 1] exE
def exF (k : Nat) : List Nat := if k = 1 then [2, 4] else if k = 2 then [3] else if k = 3 then [2] else []
theorem toAll_none {E : List (Nat × Nat)} {k : Nat} (h : ∀ e ∈ E, e.1 ≠ k) : toAll E k = [] := by
  rw [toAll_eq]
  simp only [List.map_eq_nil_iff, List.filter_eq_nil_iff]
  intro e he; have := h e he; simpa using this
theorem exG_eq : exG = ⟨[1, 2, 3, 4], exF⟩ := by
  unfold exG grOf
  congr 1
  · rw [srt_I]; rfl
  · funext k
    unfold exF
    by_cases h1 : k = 1
    · subst h1; rw [srt_I]; rfl
    by_cases h2 : k = 2
    · subst h2; rw [srt_I]; rfl
    by_cases h3 : k = 3
    · subst h3; rw [srt_I]; rfl
    rw [if_neg h1, if_neg h2, if_neg h3, toAll_none, srt_I]
    · rfl
    · intro e he; simp [exE] at he; rcases he with rfl | rfl | rfl | rfl <;> simp <;> omega
def exT (k : Nat) : List Nat := if k = 2 then [1, 3] else if k = 3 then [2] else if k = 4 then [1] else []
theorem exT_eq : trn exG = ⟨[1, 2, 3, 4], exT⟩ := by
  rw [exG_eq]
  unfold trn grOf
  congr 1
  · rw [srt_I]; rfl
  · have e : tE ⟨[1, 2, 3, 4], exF⟩ = [(2, 1), (4, 1), (3, 2), (2, 3)] := rfl
    rw [e]
    funext k
    unfold exT
    by_cases h1 : k = 2
    · subst h1; rw [srt_I]; rfl
    by_cases h2 : k = 3
    · subst h2; rw [srt_I]; rfl
    by_cases h3 : k = 4
    · subst h3; rw [srt_I]; rfl
    rw [if_neg h1, if_neg h2, if_neg h3, toAll_none, srt_I]
    · rfl
    · intro e he; simp at he; rcases he with rfl | rfl | rfl | rfl <;> simp <;> omega
theorem ex_mk : mkE [4, 2, 3, 1] exE = .ok := by decide
theorem ex_keeps : keepsF exG [1] 2 = [2, 3] := by
  unfold keepsF reachF
  rw [srt_I, exG_eq]; decide +kernel
theorem ex_dom2 : Dom exG [1] 3 2 := by rw [exG_eq]; decide +kernel
theorem ex_dom {k : Nat} (h : Dom exG [1] 3 k) (hm : ∀ k', Dom exG [1] 3 k' → kpN exG [1] k ≤ kpN exG [1] k') : k = 2 := by
  have h2 := hm 2 ex_dom2
  have hk := h.1
  rw [exG_eq] at h hk h2
  have e1 : (farL ⟨[1, 2, 3, 4], exF⟩ [1] 0).map (·.1) = [1, 2, 4, 3] := by decide +kernel
  rw [e1] at hk
  simp at hk
  rcases hk with rfl | rfl | rfl | rfl
  · exfalso; revert h2; decide +kernel
  · rfl
  · exfalso; revert h; decide +kernel
  · exfalso; revert h; decide +kernel
theorem ex_way : wayF exG 1 3 = some [1, 2, 3] := by
  unfold wayF
  rw [exT_eq, exG_eq]; decide +kernel
theorem ex_ring : ringF exG = some [2, 3] := by
  unfold ringF ringN
  rw [exT_eq, exG_eq]; decide +kernel
theorem ex_parts : (partsF exG).length = 3 := by
  unfold partsF behindF partS
  rw [exT_eq, exG_eq]; decide +kernel
theorem ex_order {l : List Nat} (G : Greedy exG l) : l.length < exG.N.length := by
  have hN : exG.N = [1, 2, 3, 4] := by rw [exG_eq]
  have hle : l.length ≤ exG.N.length := len_le_of_nodup G.nodup G.sub
  by_cases h : l.length < exG.N.length
  · exact h
  exfalso
  have pre : ∀ x ∈ l, ∀ m ∈ exG.N, x ∈ exG.to m → ∃ i, l[i]? = some x ∧ m ∈ l.take i := by
    intro x hx m hm ht
    obtain ⟨i, hi, he⟩ := List.mem_iff_getElem.1 hx
    have hg : l[i]? = some x := by rw [List.getElem?_eq_getElem hi, he]
    refine ⟨i, hg, ?_⟩
    have hp := (G.at' i x hg).2.1
    by_cases hmm : m ∈ l.take i
    · exact hmm
    · have := preN_pos hm hmm ht; omega
  have sub : ∀ x ∈ exG.N, x ∈ l := by
    intro x hx
    by_cases hxl : x ∈ l
    · exact hxl
    · have : (x :: l).Nodup := List.nodup_cons.2 ⟨hxl, G.nodup⟩
      have := len_le_of_nodup this fun y hy => by
        rcases List.mem_cons.1 hy with rfl | hy
        · exact hx
        · exact G.sub y hy
      simp at this; omega
  have h23 : 3 ∈ exG.to 2 := by rw [exG_eq]; decide
  have h32 : 2 ∈ exG.to 3 := by rw [exG_eq]; decide
  have n2 : 2 ∈ exG.N := by rw [hN]; decide
  have n3 : 3 ∈ exG.N := by rw [hN]; decide
  obtain ⟨i, hi, mi⟩ := pre 3 (sub 3 n3) 2 n2 h23
  obtain ⟨j, hj, mj⟩ := pre 2 (sub 2 n2) 3 n3 h32
  have a1 := not_mem_take G.nodup hi
  have a2 := not_mem_take G.nodup hj
  rcases Nat.lt_or_ge i j with h | h
  · exact a1 ((List.take_subset_take_left l (Nat.le_of_lt (by omega : i < i + 1)) : _) |> fun _ => by
      exfalso
      have : (2 : Nat) ∈ l.take j := List.take_subset_take_left l (Nat.le_of_lt h) mi
      exact a2 this)
  · have : (3 : Nat) ∈ l.take i := List.take_subset_take_left l h mj
    exact a1 this
end Go.Proofs.G
open Go Go.Hv
set_option maxRecDepth 100000
namespace Go.Proofs.G
theorem hb13 : hasBody P 13 = true := by kernel_rfl
theorem hb14 : hasBody P 14 = true := by kernel_rfl
theorem hb26' : hasBody P 26 = true := by kernel_rfl
theorem nz0 : (((0 : Nat) : Int) != 0) = false := rfl
theorem fillEx1 : Instr.fill (fun i => some (i * 1, 1)) ((Array.range (4 * 1)).map fun i => (R 0).cells[i % (R 0).cells.size]!) [(0, (Value.int .u64 4)), (1, (Value.int .u64 2)), (2, (Value.int .u64 3)), (3, (Value.int .u64 1))] = some #[R 4, R 2, R 3, R 1] := by kernel_rfl
theorem fillEx2 : Instr.fill (fun i => some (i * 2, 2)) ((Array.range (4 * 2)).map fun i => (Value.agg #[R 0, R 0]).cells[i % (Value.agg #[R 0, R 0]).cells.size]!) [(0, Value.agg #[.int .u64 1, .int .u64 2]), (1, Value.agg #[.int .u64 2, .int .u64 3]), (2, Value.agg #[.int .u64 3, .int .u64 2]), (3, Value.agg #[.int .u64 1, .int .u64 4])] = some #[R 1, R 2, R 2, R 3, R 3, R 2, R 1, R 4] := by kernel_rfl
theorem eqP1 (a : Addr) (h : Heap) : Ans P (.bin .eql 24 false true (.pointer (some a)) (.pointer none)) (.bool false) h := by unfold Ans; kernel_rfl
theorem GR.old {n : Nat} {h h' : Heap} {p : Value} {g : Gr} (G : GR n h p g) (O : Old h.size h h') (hn : n ≤ h.size) : GR n h' p g := G.keep fun c hc => O.get c (by omega)
theorem Nw.old {n : Nat} {h h' : Heap} {v : Value} {l : List Nat} (N : Nw n h v l) (O : Old h.size h h') : Nw n h' v l := N.keep O (Nat.le_refl _)
/-- one cell of a list -/
theorem Nw.ix {n : Nat} {h : Heap} {v : Value} {l : List Nat} (N : Nw n h v l) {i x : Nat} (hx : l[i]? = some x) : ∃ a : Addr, (∀ K h', run P (.indexAddr 22 v (I i)) K h' = K (.pointer (some a)) h') ∧ (∀ K, run P (.load 41 (.pointer (some a))) K h = K (R x) h) := by
  obtain ⟨a, a1, _, a2, _, _⟩ := N.rs.at hx .i64
  exact ⟨a, a1, load_run o41 a2⟩
set_option maxHeartbeats 4000000 in
theorem lives_spec (h0 : Heap) : HCalls P 13 #[] h0 fun v h' => v = .bool true ∧ Old h0.size h0 h' := by
  refine lives_ok ?_
  unfold lives_c0
  refine run_buildSlice eRef (n := 4) (cells := #[R 4, R 2, R 3, R 1]) (by omega) (by omega) fillEx1 ?_
  have Oa : Old h0.size h0 (h0.push (.cells #[R 4, R 2, R 3, R 1] 41)) := old_push _ _ (Nat.le_refl _)
  have ra : Row (h0.push (.cells #[R 4, R 2, R 3, R 1] 41)) h0.size 41 4 ([4, 2, 3, 1].map R) := Row.mk' (get_push_new _ _)
  have sa : (h0.push (.cells #[R 4, R 2, R 3, R 1] 41)).size = h0.size + 1 := by simp
  generalize h0.push (.cells #[R 4, R 2, R 3, R 1] 41) = ha at *
  have bd : ∀ (a b : Int) K h, run P (.build 57 [(0, .int .u64 a), (1, .int .u64 b)]) K h = K (.agg #[.int .u64 a, .int .u64 b]) h := fun a b K h => (build57 a b h).run K
  simp only [bd]
  refine run_buildSlice eEdge (n := 4) (cells := #[R 1, R 2, R 2, R 3, R 3, R 2, R 1, R 4]) (by omega) (by omega) fillEx2 ?_
  have rb : Row (ha.push (.cells #[R 1, R 2, R 2, R 3, R 3, R 2, R 1, R 4] 57)) ha.size 57 8 (eCells exE) := Row.mk' (get_push_new _ _)
  have Ob : Old ha.size ha (ha.push (.cells #[R 1, R 2, R 2, R 3, R 3, R 2, R 1, R 4] 57)) := old_push _ _ (Nat.le_refl _)
  have sb : (ha.push (.cells #[R 1, R 2, R 2, R 3, R 3, R 2, R 1, R 4] 57)).size = ha.size + 1 := by simp
  generalize ha.push (.cells #[R 1, R 2, R 2, R 3, R 3, R 2, R 1, R 4] 57) = hb at *
  have Sb : Rs hb.size hb (.slice (some ⟨h0.size, 0, none⟩) 4 4) [4, 2, 3, 1] := ⟨Row.sl (ra.keep (Ob.get _ (by omega))), fun c hc => by
    have : h0.size = c := by simpa [blkOf] using hc
    omega⟩
  have Tb : Ed hb.size hb (.slice (some ⟨ha.size, 0, none⟩) 4 4) exE := NwE.ed (n := 0) ⟨.inr ⟨ha.size, 4, rfl, rb, rfl, Nat.le_refl _⟩, fun _ _ => Nat.zero_le _⟩
  refine run_callF hb14 ((make_spec Sb Tb (Nat.le_refl _)).mono ?_)
  rintro _ h1 ⟨O1, (⟨hne, rfl⟩ | ⟨_, b, vv, bt, bh, es, hs, rfl, GM1⟩)⟩
  · exact absurd ex_mk hne
  have O01 : Old h0.size h0 h1 := Oa.trans ((Ob.mono (by omega)).trans (O1.mono (by omega)))
  have wG : exG.WF := grOf_wf ex_mk
  have G1 : GR h1.size h1 (.pointer (some ⟨b, 0, none⟩)) exG := ⟨_, _, _, _, _, _, rfl, GM1.ga⟩
  simp only [ops P, nz0, bb, when_t, if_false, (eqP1 _ _).run]
  -- Keeps
  refine run_buildSlice1 eRef (x := .int .u64 1) rfl ?_
  have O2 : Old h1.size h1 (h1.push (.cells #[.int .u64 1] 41)) := old_push _ _ (Nat.le_refl _)
  have S2 : Rs (h1.push (.cells #[.int .u64 1] 41)).size (h1.push (.cells #[.int .u64 1] 41)) (.slice (some ⟨h1.size, 0, none⟩) 1 1) [1] := ⟨Row.sl (Row.mk' (xs := [R 1]) (get_push_new _ _)), fun c hc => by cases hc; simp⟩
  generalize h1.push (.cells #[.int .u64 1] 41) = h2 at *
  have q2 := O2.size
  have G2 := (G1.old O2 (Nat.le_refl _)).mono (m := h2.size) (by omega)
  refine run_callF hb21 ((keeps_spec G2 wG (Nat.le_refl _) S2 (by simp) 2).mono ?_)
  have hall : ∀ y ∈ [1], y ∈ exG.N := by rw [exG_eq]; decide
  have h2N : 2 ∈ exG.N := by rw [exG_eq]; decide
  have h3N : 3 ∈ exG.N := by rw [exG_eq]; decide
  have h1N : 1 ∈ exG.N := by rw [exG_eq]; decide
  rintro _ h3 ⟨O3, (⟨hne, _⟩ | ⟨_, _, l1, rfl, N1⟩)⟩
  · exact absurd ⟨hall, h2N⟩ hne
  rw [ex_keeps] at N1
  simp only [ops P]
  have q3 := O3.size
  -- Keeper
  refine run_buildSlice1 eRef (x := .int .u64 1) rfl ?_
  have O4 : Old h3.size h3 (h3.push (.cells #[.int .u64 1] 41)) := old_push _ _ (Nat.le_refl _)
  have S4 : Rs (h3.push (.cells #[.int .u64 1] 41)).size (h3.push (.cells #[.int .u64 1] 41)) (.slice (some ⟨h3.size, 0, none⟩) 1 1) [1] := ⟨Row.sl (Row.mk' (xs := [R 1]) (get_push_new _ _)), fun c hc => by cases hc; simp⟩
  generalize h3.push (.cells #[.int .u64 1] 41) = h4 at *
  have q4 := O4.size
  have O24 : Old h2.size h2 h4 := O3.trans (O4.mono (by omega))
  have G4 := (G2.old O24 (Nat.le_refl _)).mono (m := h4.size) (by omega)
  refine run_callF hb22 ((keeper_spec G4 wG (Nat.le_refl _) S4 (by simp) 3).mono ?_)
  have h3k : 3 ∈ (farL exG [1] 0).map (·.1) := by rw [exG_eq]; decide +kernel
  rintro _ h5 ⟨O5, (⟨hne, _⟩ | ⟨_, _, (⟨hne, _⟩ | ⟨_, (⟨hne, _⟩ | ⟨kk, hk1, hk2, rfl⟩)⟩)⟩)⟩
  · exact absurd ⟨hall, h3N⟩ hne
  · exact absurd h3k hne
  · exact absurd ex_dom2 (hne 2)
  have hkk := ex_dom hk1 hk2
  subst hkk
  simp only [ops P]
  have q5 := O5.size
  have G5 := (G4.old O5 (Nat.le_refl _)).mono (m := h5.size) (by omega)
  -- Ring
  refine run_callF hb20 ((ring_spec G5 wG (Nat.le_refl _)).mono ?_)
  rintro _ h6 ⟨O6, l2, rfl, B6⟩
  rw [ex_ring] at B6
  obtain ⟨N2, _, _⟩ := B6
  rw [ex_ring]
  simp only [ops P]
  have q6 := O6.size
  have G6 := (G5.old O6 (Nat.le_refl _)).mono (m := h6.size) (by omega)
  -- Path
  refine run_callF hb26' ((path0_spec G6 wG (Nat.le_refl _) 1 3).mono ?_)
  rintro _ h7 ⟨O7, (⟨hne, _⟩ | ⟨_, _, hne, _⟩ | ⟨_, _, l3, way, hw, rfl, N3⟩)⟩
  · exact absurd ⟨h1N, h3N⟩ hne
  · rw [ex_way] at hne; cases hne
  rw [ex_way] at hw
  cases hw
  simp only [ops P]
  have q7 := O7.size
  have G7 := (G6.old O7 (Nat.le_refl _)).mono (m := h7.size) (by omega)
  -- Order
  refine run_callF hb19 ((order_spec G7 wG (Nat.le_refl _)).mono ?_)
  rintro _ h8 ⟨O8, lo, hgr, _, (⟨_, rfl⟩ | ⟨hne, _⟩)⟩
  rotate_left
  · exact absurd (ex_order hgr) hne
  have q8 := O8.size
  have G8 := (G7.old O8 (Nat.le_refl _)).mono (m := h8.size) (by omega)
  have N1' : Nw h2.size h8 l1 [2, 3] := N1.old ((O4.mono (by omega)).trans ((O5.mono (by omega)).trans ((O6.mono (by omega)).trans ((O7.mono (by omega)).trans (O8.mono (by omega))))))
  have N2' : Nw h5.size h8 l2 [2, 3] := N2.old ((O7.mono (by omega)).trans (O8.mono (by omega)))
  have N3' : Nw h6.size h8 l3 [1, 2, 3] := N3.old (O8.mono (by omega))
  obtain ⟨a0, x0, y0⟩ := N1'.ix (i := 0) (x := 2) rfl
  obtain ⟨a1, x1, y1⟩ := N1'.ix (i := 1) (x := 3) rfl
  obtain ⟨a2, x2, y2⟩ := N2'.ix (i := 0) (x := 2) rfl
  obtain ⟨a3, x3, y3⟩ := N3'.ix (i := 1) (x := 2) rfl
  have x0' : ∀ K h', run P (.indexAddr 22 l1 (.int .i64 0)) K h' = K (.pointer (some a0)) h' := x0
  have x1' : ∀ K h', run P (.indexAddr 22 l1 (.int .i64 1)) K h' = K (.pointer (some a1)) h' := x1
  have x2' : ∀ K h', run P (.indexAddr 22 l2 (.int .i64 0)) K h' = K (.pointer (some a2)) h' := x2
  have x3' : ∀ K h', run P (.indexAddr 22 l3 (.int .i64 1)) K h' = K (.pointer (some a3)) h' := x3
  have L1 := (N1'.rs.len false).1
  have L2 := (N2'.rs.len false).1
  have L3 := (N3'.rs.len false).1
  have d1 : ((([2, 3] : List Nat).length : Nat) : Int) = 2 := rfl
  have d2 : ((([1, 2, 3] : List Nat).length : Nat) : Int) = 3 := rfl
  have c1 : ((2 : Nat) : Int) = 2 := rfl
  have c2 : ((3 : Nat) : Int) = 3 := rfl
  have c3 : ((0 : Nat) : Int) = 0 := rfl
  have c4 : ((141 : Nat) : Int) = 141 := rfl
  have bt : ((2 : Int) == 2) = true ∧ ((3 : Int) == 3) = true ∧ ((0 : Int) == 0) = true ∧ ((141 : Int) == 141) = true := ⟨rfl, rfl, rfl, rfl⟩
  simp (config := { maxSteps := 4000000 }) only [ops P, bb, when_t, when_f, if_true, L1, L2, L3, d1, d2, c1, c2, c3, c4, bt, x0', x1', x2', x3', y0, y1, y2, y3, Option.isSome]
  refine run_callF hb15 ((parts_spec G8 wG (Nat.le_refl _) (fun _ => sf12 (by rw [ex_parts]; omega)) (fun _ => sort0)).mono ?_)
  rintro v9 h9 ⟨O9, xs, PV9, PR⟩
  have hlen : xs.length = 3 := by
    have := PR.perm.length_eq
    rw [ex_parts, List.length_map] at this; exact this
  have L9 : ∀ K h, run P (.builtin .len #[36] 3 [false] [v9]) K h = K (.int .i64 3) h := fun K h => by
    rcases PV9.own with ⟨_, h0'⟩ | ⟨b', cap, rfl, _⟩
    · have : xs = [] := by simpa using h0'
      rw [this] at hlen; cases hlen
    · have := ans_lenSlice (P := P) s36 (ty := 3) (c := false) (a := some ⟨b', 0, none⟩) (n := (xs.map (·.1)).length) (k := cap) (h := h)
      rw [this.run, List.length_map, hlen]; rfl
  simp only [L9, ops P, bt, if_true]
  refine post_ret1 ⟨rfl, ?_⟩
  have q1 := O01.size
  exact O01.trans ((O2.mono (by omega)).trans ((O3.mono (by omega)).trans ((O4.mono (by omega)).trans ((O5.mono (by omega)).trans ((O6.mono (by omega)).trans ((O7.mono (by omega)).trans ((O8.mono (by omega)).trans (O9.mono (by omega)))))))))
end Go.Proofs.G
