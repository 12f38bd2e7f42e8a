import Derived.Test.YtadfdknlogceoaaKd
import Derived.Test.YtadfdknlogceoaaKc
import Derived.Test.YtadfdknlogceoaaKb
set_option linter.all false
open Go Go.Hv
set_option maxRecDepth 100000
namespace Go.Proofs.G
/-- slices.Values[[]tenon/api.Ref,tenon/api.Ref]$1: parameters [a0, c0]; results []; slots [0:yield, 2:yield, 3:_, 4:v]; draws [] -/
def valuesf_L1 (Q : Exit → F → Heap → Prop) (f : F) (h : Heap) : Prop :=
  runR P (X.bin .lss 3 false false (f 7) (f 6)) (fun v8 h =>
  br v8 (
    runR P (X.indexAddr 22 (f 5) (f 7)) (fun v9 h =>
    runR P (X.load 41 v9) (fun v10 h =>
    runR P (X.dyn (f 0) [v10]) (fun v13 h =>
    runR P (X.un .not v13) (fun v14 h =>
    br v14 (
      Q .ret (U f [(8, v8), (9, v9), (10, v10), (4, v10), (11, (f 0)), (12, v10), (13, v13), (14, v14)]) h
    ) (
      runR P (X.bin .add 3 false true (f 7) (Value.int .i64 1)) (fun v15 h =>
      Q .normal (U f [(8, v8), (9, v9), (10, v10), (4, v10), (11, (f 0)), (12, v10), (13, v13), (14, v14), (15, v15), (7, v15)]) h
      ) h
    )
    ) h
    ) h
    ) h
    ) h
  ) (
    Q (.exit 0) (U f [(8, v8)]) h
  )
  ) h

def valuesf_c0 (Q : Exit → F → Heap → Prop) (f : F) (h : Heap) : Prop :=
  runR P (X.load 22 (f 1)) (fun v5 h =>
  runR P (X.builtin .len #[22] 3 [false] [v5]) (fun v6 h =>
  lp valuesf_L1 (inB 0 Q) (U f [(5, v5), (6, v6), (7, (Value.int .i64 0))]) h
  ) h
  ) h
theorem valuesf_code : valuesf_c0 = hcodeR P (Try.f86.body.getD .skip) := by kernel_rfl
theorem valuesf_ok {a0 c0 : Value} {h : Heap} {R : Value → Heap → Prop} (hh : valuesf_c0 (post [] R) (frame0 #[a0, c0]) h) : HCalls P 86 #[a0, c0] h R :=
  hcallsR Try.func86 valuesf_code (by kernel_rfl) (by kernel_rfl) (by kernel_rfl) (by kernel_rfl) (by kernel_rfl) hh

/-- slices.Backward[[]tenon/api.Ref,tenon/api.Ref]$1: parameters [a0, c0]; results []; slots [0:yield, 2:yield, 3:i]; draws [] -/
def backwardf_L1 (Q : Exit → F → Heap → Prop) (f : F) (h : Heap) : Prop :=
  runR P (X.bin .geq 3 false true (f 3) (Value.int .i64 0)) (fun v8 h =>
  br v8 (
    runR P (X.load 22 (f 1)) (fun v13 h =>
    runR P (X.indexAddr 22 v13 (f 3)) (fun v15 h =>
    runR P (X.load 41 v15) (fun v16 h =>
    runR P (X.dyn (f 0) [(f 3), v16]) (fun v17 h =>
    runR P (X.un .not v17) (fun v18 h =>
    br v18 (
      Q .ret (U f [(7, (f 3)), (8, v8), (11, (f 0)), (12, (f 3)), (13, v13), (14, (f 3)), (15, v15), (16, v16), (17, v17), (18, v18)]) h
    ) (
      runR P (X.bin .sub 3 false true (f 3) (Value.int .i64 1)) (fun v10 h =>
      Q .normal (U f [(7, (f 3)), (8, v8), (11, (f 0)), (12, (f 3)), (13, v13), (14, (f 3)), (15, v15), (16, v16), (17, v17), (18, v18), (9, (f 3)), (10, v10), (3, v10)]) h
      ) h
    )
    ) h
    ) h
    ) h
    ) h
    ) h
  ) (
    Q (.exit 0) (U f [(7, (f 3)), (8, v8)]) h
  )
  ) h

def backwardf_c0 (Q : Exit → F → Heap → Prop) (f : F) (h : Heap) : Prop :=
  runR P (X.load 22 (f 1)) (fun v4 h =>
  runR P (X.builtin .len #[22] 3 [false] [v4]) (fun v5 h =>
  runR P (X.bin .sub 3 false true v5 (Value.int .i64 1)) (fun v6 h =>
  lp backwardf_L1 (inB 0 Q) (U f [(4, v4), (5, v5), (6, v6), (3, v6)]) h
  ) h
  ) h
  ) h
theorem backwardf_code : backwardf_c0 = hcodeR P (Try.f73.body.getD .skip) := by kernel_rfl
theorem backwardf_ok {a0 c0 : Value} {h : Heap} {R : Value → Heap → Prop} (hh : backwardf_c0 (post [] R) (frame0 #[a0, c0]) h) : HCalls P 73 #[a0, c0] h R :=
  hcallsR Try.func73 backwardf_code (by kernel_rfl) (by kernel_rfl) (by kernel_rfl) (by kernel_rfl) (by kernel_rfl) hh

/-- slices.AppendSeq[[]tenon/api.Ref,tenon/api.Ref]: parameters [a0, a1]; results [.tmp 4]; slots [0:s, 1:seq, 2:s, 3:seq, 5:v]; draws [] -/
noncomputable def appendSeq_A : Code := (rfAB (Try.f106.body.getD .skip)).1
noncomputable def appendSeq_B : Code := (rfAB (Try.f106.body.getD .skip)).2
noncomputable def appendSeq_c1 (Q : Exit → Option Nat → F → Heap → Prop) (m : Option Nat) (f : F) (h : Heap) : Prop :=
  runR P (X.load 22 (f 2)) (fun v12 h =>
  Q .ret m (U f [(12, v12), (4, v12)]) h
  ) h

noncomputable def appendSeq_r2 (Q : Exit → Option Nat → F → Heap → Prop) (m : Option Nat) (f : F) (h : Heap) : Prop :=
  appendSeq_c1 Q m f h

noncomputable def appendSeq_c0 (Q : Exit → Option Nat → F → Heap → Prop) (m : Option Nat) (f : F) (h : Heap) : Prop :=
  runR P (X.box 22 (f 0)) (fun v2 h =>
  m = none ∧ hrange P 13 (f 1) #[7] appendSeq_A appendSeq_B (fun f h2 => appendSeq_r2 Q (some h.size) f h2) (U f [(2, v2), (4, (Value.slice none 0 0)), (6, (f 1))]) h
  ) h
theorem appendSeq_code : appendSeq_c0 = hcodeM P 13 (Try.f106.body.getD .skip) := by kernel_rfl
theorem appendSeq_ok {a0 a1 : Value} {h : Heap} {R : Value → Heap → Prop} (hh : appendSeq_c0 (postM [.tmp 4] R) none (frame0 #[a0, a1]) h) : HCalls P 106 #[a0, a1] h R :=
  hcallsM Try.func106 appendSeq_code (by kernel_rfl) (by kernel_rfl) (by kernel_rfl) (by kernel_rfl) (by kernel_rfl) hh

def appendSeq_A_a0 (Q : Exit → F → Heap → Prop) (f : F) (h : Heap) : Prop :=
  Q .normal (U f [(5, (f 7))]) h
theorem appendSeq_A_code : appendSeq_A_a0 = hcodeR P appendSeq_A := by kernel_rfl
def appendSeq_B_b0 (Q : Exit → F → Heap → Prop) (f : F) (h : Heap) : Prop :=
  runR P (X.load 22 (f 2)) (fun v8 h =>
  runR P (X.buildSlice 22 1 [(0, (f 5))]) (fun v10 h =>
  runR P (X.builtin .append #[22, 22] 22 [false, false] [v8, v10]) (fun v11 h =>
  runR P (X.store 22 (f 2) v11) (fun _ h =>
  Q .normal (U f [(8, v8), (9, (f 5)), (10, v10), (11, v11)]) h
  ) h
  ) h
  ) h
  ) h
theorem appendSeq_B_code : appendSeq_B_b0 = hcodeR P appendSeq_B := by kernel_rfl

/-- (*tenon/graph.Graph).Parts: parameters [a0]; results [.tmp 2]; slots [0:g, 1:g, 3:behind, 4:entered, 5:back, 6:taken, 7:parts, 8:_, 9:n, 10:part]; draws [] -/
noncomputable def parts_A : Code := (rfAB (Try.f15.body.getD .skip)).1
noncomputable def parts_B : Code := (rfAB (Try.f15.body.getD .skip)).2
noncomputable def parts_c1 (Q : Exit → Option Nat → F → Heap → Prop) (m : Option Nat) (f : F) (h : Heap) : Prop :=
  runR P (X.load 36 (f 7)) (fun v42 h =>
  runR P (X.callF 48 [v42, (Value.func (.func 49) #[] #[])]) (fun v43 h =>
  runR P (X.load 36 (f 7)) (fun v44 h =>
  Q .ret m (U f [(42, v42), (43, v43), (44, v44), (2, v44)]) h
  ) h
  ) h
  ) h

noncomputable def parts_r2 (Q : Exit → Option Nat → F → Heap → Prop) (m : Option Nat) (f : F) (h : Heap) : Prop :=
  parts_c1 Q m f h

noncomputable def parts_c0 (Q : Exit → Option Nat → F → Heap → Prop) (m : Option Nat) (f : F) (h : Heap) : Prop :=
  runR P (X.alloc 22) (fun v3 h =>
  runR P (X.mkMap 76 none) (fun v11 h =>
  runR P (X.nilCheck (f 0)) (fun v14 h =>
  runR P (X.fieldAddr 75 v14 0) (fun v15 h =>
  runR P (X.load 22 v15) (fun v16 h =>
  runR P (X.mkFunc (.func 44) [] [v3]) (fun v18 h =>
  runR P (X.callF 43 [(f 0), v16, v11, v18]) (fun v19 h =>
  runR P (X.callF 33 [(f 0)]) (fun v21 h =>
  runR P (X.mkMap 76 none) (fun v22 h =>
  runR P (X.alloc 24) (fun v5 h =>
  runR P (X.alloc 76) (fun v6 h =>
  runR P (X.store 24 v5 v21) (fun _ h =>
  runR P (X.store 76 v6 v22) (fun _ h =>
  runR P (X.alloc 36) (fun v7 h =>
  runR P (X.load 22 v3) (fun v23 h =>
  runR P (X.callF 45 [v23]) (fun v24 h =>
  m = none ∧ hrange P 45 v24 #[25, 26] parts_A parts_B (fun f h2 => parts_r2 Q (some h.size) f h2) (U f [(2, (Value.slice none 0 0)), (3, v3), (11, v11), (4, v11), (12, (f 0)), (13, (f 0)), (14, v14), (15, v15), (16, v16), (17, v11), (18, v18), (19, v19), (20, (f 0)), (21, v21), (22, v22), (5, v5), (6, v6), (7, v7), (23, v23), (24, v24)]) h
  ) h
  ) h
  ) h
  ) h
  ) h
  ) h
  ) h
  ) h
  ) h
  ) h
  ) h
  ) h
  ) h
  ) h
  ) h
  ) h
theorem parts_code : parts_c0 = hcodeM P 45 (Try.f15.body.getD .skip) := by kernel_rfl
theorem parts_ok {a0 : Value} {h : Heap} {R : Value → Heap → Prop} (hh : parts_c0 (postM [.tmp 2] R) none (frame0 #[a0]) h) : HCalls P 15 #[a0] h R :=
  hcallsM Try.func15 parts_code (by kernel_rfl) (by kernel_rfl) (by kernel_rfl) (by kernel_rfl) (by kernel_rfl) hh

def parts_A_a0 (Q : Exit → F → Heap → Prop) (f : F) (h : Heap) : Prop :=
  Q .normal (U f [(9, (f 26))]) h
theorem parts_A_code : parts_A_a0 = hcodeR P parts_A := by kernel_rfl
def parts_B_b0 (Q : Exit → F → Heap → Prop) (f : F) (h : Heap) : Prop :=
  runR P (X.alloc 22) (fun v10 h =>
  runR P (X.load 24 (f 5)) (fun v27 h =>
  runR P (X.buildSlice 22 1 [(0, (f 9))]) (fun v29 h =>
  runR P (X.load 76 (f 6)) (fun v30 h =>
  runR P (X.mkFunc (.func 46) [] [v10]) (fun v31 h =>
  runR P (X.callF 43 [v27, v29, v30, v31]) (fun v32 h =>
  runR P (X.load 22 v10) (fun v33 h =>
  runR P (X.builtin .len #[22] 3 [false] [v33]) (fun v34 h =>
  runR P (X.bin .gtr 3 false true v34 (Value.int .i64 0)) (fun v35 h =>
  br v35 (
    runR P (X.load 22 v10) (fun v36 h =>
    runR P (X.callF 47 [v36]) (fun v37 h =>
    runR P (X.load 36 (f 7)) (fun v38 h =>
    runR P (X.load 22 v10) (fun v39 h =>
    runR P (X.buildSlice 36 1 [(0, v39)]) (fun v40 h =>
    runR P (X.builtin .append #[36, 36] 36 [false, false] [v38, v40]) (fun v41 h =>
    runR P (X.store 36 (f 7) v41) (fun _ h =>
    Q .normal (U f [(10, v10), (27, v27), (28, (f 9)), (29, v29), (30, v30), (31, v31), (32, v32), (33, v33), (34, v34), (35, v35), (36, v36), (37, v37), (38, v38), (39, v39), (40, v40), (41, v41)]) h
    ) h
    ) h
    ) h
    ) h
    ) h
    ) h
    ) h
  ) (
    Q .normal (U f [(10, v10), (27, v27), (28, (f 9)), (29, v29), (30, v30), (31, v31), (32, v32), (33, v33), (34, v34), (35, v35)]) h
  )
  ) h
  ) h
  ) h
  ) h
  ) h
  ) h
  ) h
  ) h
  ) h
theorem parts_B_code : parts_B_b0 = hcodeR P parts_B := by kernel_rfl

end Go.Proofs.G
namespace Go.Proofs.G
/-- a graph as plain data: its nodes, rising; of each node those to which it has edges, rising -/
structure Gr where
  N : List Nat
  to : Nat → List Nat
/-- every edge's ends are nodes; the nodes stand once each -/
structure Gr.WF (g : Gr) : Prop where
  up : g.N.Pairwise (· < ·)
  upt : ∀ n, (g.to n).Pairwise (· < ·)
  sub : ∀ n t, t ∈ g.to n → t ∈ g.N
  few : g.N.length ≤ 4096
  pos : 0 ∉ g.N
theorem nodup_up {l : List Nat} (h : l.Pairwise (· < ·)) : l.Nodup := h.imp fun h => Nat.ne_of_lt h

/-! far: how many edges a shortest way has -/
def addD (L : List (Nat × Nat)) (wo n d : Nat) : List (Nat × Nat) := if n ∈ L.map (·.1) ∨ n = wo then L else L ++ [(n, d)]
def farE (wo d : Nat) (ts : List Nat) (L : List (Nat × Nat)) : List (Nat × Nat) := ts.foldl (fun L t => addD L wo t d) L
def farG (g : Gr) (wo : Nat) : Nat → Nat → List (Nat × Nat) → List (Nat × Nat)
  | 0, _, L => L
  | k + 1, i, L => match L[i]? with
    | none => L
    | some (n, d) => farG g wo k (i + 1) (farE wo (d + 1) (g.to n) L)
def farL (g : Gr) (fr : List Nat) (wo : Nat) : List (Nat × Nat) := farG g wo (g.N.length + 1) 0 (farE wo 0 fr [])

theorem addD_nodup {L : List (Nat × Nat)} {wo n d : Nat} (h : (L.map (·.1)).Nodup) : ((addD L wo n d).map (·.1)).Nodup := by
  unfold addD
  split
  · exact h
  · rename_i hn
    simp only [List.map_append, List.map_cons, List.map_nil]
    refine List.nodup_append.2 ⟨h, by simp, ?_⟩
    intro a ha b hb e
    simp at hb
    exact hn (.inl (by rw [← hb, ← e]; exact ha))
theorem addD_sub {L : List (Nat × Nat)} {wo n d : Nat} {N : List Nat} (h : ∀ x ∈ L.map (·.1), x ∈ N) (hn : n ∈ N) : ∀ x ∈ (addD L wo n d).map (·.1), x ∈ N := by
  unfold addD
  split
  · exact h
  · intro x hx
    simp only [List.map_append, List.map_cons, List.map_nil, List.mem_append, List.mem_singleton] at hx
    rcases hx with hx | rfl
    · exact h x hx
    · exact hn
theorem addD_len {L : List (Nat × Nat)} {wo n d : Nat} : L.length ≤ (addD L wo n d).length := by
  unfold addD; split <;> simp
theorem addD_get {L : List (Nat × Nat)} {wo n d i : Nat} (hi : i < L.length) : (addD L wo n d)[i]? = L[i]? := by
  unfold addD; split
  · rfl
  · rw [List.getElem?_append_left hi]
/-- among n different things of N there are at most as many as N has -/
theorem len_le_of_nodup : ∀ {l N : List Nat}, l.Nodup → (∀ x ∈ l, x ∈ N) → l.length ≤ N.length
  | [], _, _, _ => Nat.zero_le _
  | a :: l, N, hd, hs => by
    simp only [List.nodup_cons] at hd
    have ha : a ∈ N := hs a (by simp)
    have : l.length ≤ (N.erase a).length := len_le_of_nodup hd.2 fun x hx => by
      have hx' := hs x (by simp [hx])
      exact (List.mem_erase_of_ne (fun e => hd.1 (by rw [← e]; exact hx))).2 hx'
    rw [List.length_erase_of_mem ha] at this
    have hpos : 0 < N.length := List.length_pos_of_mem ha
    simp; omega
theorem Gr.WF.fewt {g : Gr} (w : g.WF) (n : Nat) : (g.to n).length ≤ 4096 := Nat.le_trans (len_le_of_nodup (nodup_up (w.upt n)) (w.sub n)) w.few
end Go.Proofs.G
namespace Go.Proofs.G
theorem take_at {α : Type} {l : List α} {i : Nat} {x : α} (h : l[i]? = some x) : l.take (i + 1) = l.take i ++ [x] := by
  rw [List.take_add_one, h]; rfl
theorem farE_step {wo d : Nat} {ts : List Nat} {L : List (Nat × Nat)} {i t : Nat} (h : ts[i]? = some t) : farE wo d (ts.take (i + 1)) L = addD (farE wo d (ts.take i) L) wo t d := by
  unfold farE; rw [take_at h, List.foldl_append]; rfl
/-- what holds of the list of those reached: each once, all nodes, the i-th at most i away -/
structure FarOk (N : List Nat) (L : List (Nat × Nat)) : Prop where
  nodup : (L.map (·.1)).Nodup
  sub : ∀ x ∈ L.map (·.1), x ∈ N
  near : ∀ (i n d : Nat), L[i]? = some (n, d) → d ≤ i
theorem FarOk.len {N : List Nat} {L : List (Nat × Nat)} (o : FarOk N L) : L.length ≤ N.length := by
  have := len_le_of_nodup o.nodup o.sub
  simpa using this
theorem FarOk.nil (N : List Nat) : FarOk N [] := ⟨by simp, by simp, by simp⟩
theorem FarOk.add {N : List Nat} {L : List (Nat × Nat)} (o : FarOk N L) {wo n d : Nat} (hn : n ∈ N) (hd : d ≤ L.length) : FarOk N (addD L wo n d) := by
  refine ⟨addD_nodup o.nodup, addD_sub o.sub hn, fun i m e h => ?_⟩
  unfold addD at h
  split at h
  · exact o.near i m e h
  · rcases Nat.lt_or_ge i L.length with hi | hi
    · rw [List.getElem?_append_left hi] at h; exact o.near i m e h
    · rw [List.getElem?_append_right hi] at h
      have : i - L.length = 0 := by
        rcases Nat.eq_zero_or_pos (i - L.length) with h0 | h0
        · exact h0
        · rw [List.getElem?_eq_none (by simp; omega)] at h; cases h
      rw [this] at h
      simp only [List.getElem?_cons_zero, Option.some.injEq, Prod.mk.injEq] at h
      omega
theorem farE_len {wo d : Nat} (ts : List Nat) : ∀ L, L.length ≤ (farE wo d ts L).length := by
  induction ts with
  | nil => intro L; exact Nat.le_refl _
  | cons t ts ih => intro L; exact Nat.le_trans addD_len (ih _)
theorem farE_get {wo d : Nat} (ts : List Nat) : ∀ (L : List (Nat × Nat)) {i : Nat}, i < L.length → (farE wo d ts L)[i]? = L[i]? := by
  induction ts with
  | nil => intro L i _; rfl
  | cons t ts ih =>
    intro L i hi
    show (farE wo d ts (addD L wo t d))[i]? = _
    rw [ih _ (Nat.lt_of_lt_of_le hi addD_len), addD_get hi]
theorem FarOk.addE {N : List Nat} {wo d : Nat} (ts : List Nat) : ∀ {L : List (Nat × Nat)}, FarOk N L → (∀ t ∈ ts, t ∈ N) → d ≤ L.length → FarOk N (farE wo d ts L) := by
  induction ts with
  | nil => intro L o _ _; exact o
  | cons t ts ih =>
    intro L o hs hd
    exact ih (o.add (hs t (by simp)) hd) (fun x hx => hs x (by simp [hx])) (Nat.le_trans hd addD_len)
theorem FarOk.addG {g : Gr} (w : g.WF) {wo : Nat} : ∀ (k i : Nat) {L : List (Nat × Nat)}, FarOk g.N L → FarOk g.N (farG g wo k i L) := by
  intro k
  induction k with
  | zero => intro i L o; exact o
  | succ k ih =>
    intro i L o
    unfold farG
    split
    · exact o
    · rename_i n d h
      have hi := (List.getElem?_eq_some_iff.1 h).1
      exact ih _ (o.addE _ (w.sub n) (by have := o.near i n d h; omega))
theorem farL_ok {g : Gr} (w : g.WF) {fr : List Nat} (hf : ∀ x ∈ fr, x ∈ g.N) (wo : Nat) : FarOk g.N (farL g fr wo) :=
  FarOk.addG w _ _ ((FarOk.nil g.N).addE _ hf (Nat.zero_le _))
end Go.Proofs.G
open Go Go.Hv
set_option maxRecDepth 100000
namespace Go.Proofs.G

theorem wI {n : Nat} (h : n < 9223372036854775808) : IntKind.i64.wrap (n : Int) = (n : Int) := IntWalk.i64_in _ (by omega)
theorem wInc {n : Nat} (h : n + 1 < 9223372036854775808) : IntKind.i64.wrap ((n : Int) + 1) = ((n + 1 : Nat) : Int) := IntWalk.i64_in _ (by omega)
theorem wDec {n : Nat} (h : n < 9223372036854775808) (h0 : 0 < n) : IntKind.i64.wrap ((n : Int) - 1) = ((n - 1 : Nat) : Int) := by
  rw [show (n : Int) - 1 = ((n - 1 : Nat) : Int) by omega]; exact IntWalk.i64_in _ (by omega)

theorem bb : ((true == true) = true) ∧ ((false == true) = false) ∧ ((true == false) = false) ∧ ((false == false) = true) ∧ ((!true) = false) ∧ ((!false) = true) ∧ ((false = true) = False) := ⟨rfl, rfl, rfl, rfl, rfl, rfl, by simp⟩
theorem f75_0 : fOff P 75 0 = some 0 := by kernel_rfl
theorem f75_1 : fOff P 75 1 = some 1 := by kernel_rfl
theorem f75_2 : fOff P 75 2 = some 2 := by kernel_rfl
theorem o22 : one P 22 = true := by kernel_rfl
theorem o41 : one P 41 = true := by kernel_rfl
theorem o72 : one P 72 = true := by kernel_rfl
theorem o73 : one P 73 = true := by kernel_rfl
theorem o76 : one P 76 = true := by kernel_rfl
theorem o86 : one P 86 = true := by kernel_rfl
theorem s22 : eSz P 22 = some 1 := by kernel_rfl
theorem a107 : aggs P 107 = some 0 := by kernel_rfl
theorem z107 : (P.info? 107).map (·.zero) = some (some (.agg #[])) := by kernel_rfl

/-- a field's cell -/
theorem cell_at {h : Heap} {b i : Nat} {arr : Array Value} {e : TypeId} {fr : Nat × Nat} (hb : h[b]? = some (.cells arr e fr)) {v : Value} (hv : arr[i]? = some v) : cell h ⟨b, i, none⟩ = some v := by
  simp [cell, hb, hv]
theorem fld (P : Program) {s i o b : Nat} (hf : fOff P s i = some o) : (∀ K h, run P (.fieldAddr s (.pointer (some ⟨b, 0, none⟩)) i) K h = K (.pointer (some ⟨b, o, none⟩)) h) ∧ (∀ K h, still P (.fieldAddr s (.pointer (some ⟨b, 0, none⟩)) i) K h = K (.pointer (some ⟨b, o, none⟩))) ∧ (∀ h, Ans P (.fieldAddr s (.pointer (some ⟨b, 0, none⟩)) i) (.pointer (some ⟨b, o, none⟩)) h) := by
  have e : ∀ h, Ans P (.fieldAddr s (.pointer (some ⟨b, 0, none⟩)) i) (.pointer (some ⟨b, o, none⟩)) h := fun h => by
    have := ans_fieldAddr (P := P) hf (a := ⟨b, 0, none⟩) (h := h)
    rwa [Addr.add_add0, Nat.zero_add] at this
  exact ⟨fun K h => (e h).run K, fun K h => (e h).still K, e⟩

/-- a slice's block lies below n -/
def Bl (n : Nat) (v : Value) : Prop := ∀ c, blkOf v = some c → c < n
/-- the slice v reads as the nodes l, below n -/
structure Rs (n : Nat) (h : Heap) (v : Value) (l : List Nat) : Prop where
  sl : Sl h v (l.map R)
  bl : Bl n v
theorem Rs.keep {n : Nat} {h h' : Heap} {v : Value} {l : List Nat} (s : Rs n h v l) (hk : ∀ b, b < n → h'[b]? = h[b]?) : Rs n h' v l := ⟨s.sl.keep fun b hb => hk b (s.bl b hb), s.bl⟩
theorem Rs.mono {n m : Nat} {h : Heap} {v : Value} {l : List Nat} (s : Rs n h v l) (hm : n ≤ m) : Rs m h v l := ⟨s.sl, fun c hc => Nat.lt_of_lt_of_le (s.bl c hc) hm⟩
theorem Rs.nil (n : Nat) (h : Heap) : Rs n h (.slice none 0 0) [] := ⟨Sl.nil h, fun c hc => by cases hc⟩
theorem Rs.len {n : Nat} {h : Heap} {v : Value} {l : List Nat} (s : Rs n h v l) (c : Bool) : (∀ K h, run P (.builtin .len #[22] 3 [c] [v]) K h = K (I l.length) h) ∧ (∀ K h, still P (.builtin .len #[22] 3 [c] [v]) K h = K (I l.length)) := by
  have e : ∀ h', Ans P (.builtin .len #[22] 3 [c] [v]) (I l.length) h' := fun h' => by
    obtain ⟨ao, k, rfl, _⟩ := s.sl
    have := ans_lenSlice (P := P) s22 (ty := 3) (c := c) (a := ao) (n := (l.map R).length) (k := k) (h := h')
    rwa [List.length_map] at this ⊢
  exact ⟨fun K h => (e h).run K, fun K h => (e h).still K⟩
theorem Rs.at {n : Nat} {h : Heap} {v : Value} {l : List Nat} (s : Rs n h v l) {i x : Nat} (hx : l[i]? = some x) (k : IntKind) :
    ∃ a : Addr, (∀ K h, run P (.indexAddr 22 v (.int k i)) K h = K (.pointer (some a)) h) ∧ (∀ K h, still P (.indexAddr 22 v (.int k i)) K h = K (.pointer (some a))) ∧ cell h a = some (R x) ∧ blkOf v = some a.block ∧ a.block < n := by
  obtain ⟨a, h1, h2, h3⟩ := s.sl.index (P := P) s22 (k := k) (i := i) (x := R x) (by simp [hx])
  exact ⟨a, fun K h => (h1 h).run K, fun K h => (h1 h).still K, h2, h3, s.bl _ h3⟩

/-- block b is the program's graph g, all of whose blocks lie below n -/
structure GA (n : Nat) (h : Heap) (b : Nat) (nv : Value) (bt bh : Nat) (es hs : List (Nat × Value)) (g : Gr) : Prop where
  bl : b < n ∧ bt < n ∧ bh < n ∧ bt ≠ bh
  cells : h[b]? = some (.cells #[nv, .map (some bt), .map (some bh)] 75 (0, 0))
  nodes : Rs n h nv g.N
  tm : MapR h bt R es
  tv : ∀ k v, alook es k = some v → Rs n h v (g.to k)
  tx : ∀ k, alook es k = none → g.to k = []
  hm : MapR h bh R hs
  hv : ∀ k v, alook hs k = some v → v = .agg #[]
  hk : ∀ k, k ∈ hs.map (·.1) ↔ k ∈ g.N
theorem GA.keep {n : Nat} {h h' : Heap} {b : Nat} {nv : Value} {bt bh : Nat} {es hs : List (Nat × Value)} {g : Gr} (x : GA n h b nv bt bh es hs g) (hk : ∀ b, b < n → h'[b]? = h[b]?) : GA n h' b nv bt bh es hs g :=
  { x with cells := (hk _ x.bl.1).trans x.cells, nodes := x.nodes.keep hk, tm := x.tm.keep (hk _ x.bl.2.1), tv := fun k v e => (x.tv k v e).keep hk, hm := x.hm.keep (hk _ x.bl.2.2.1) }
theorem GA.mono {n m : Nat} {h : Heap} {b : Nat} {nv : Value} {bt bh : Nat} {es hs : List (Nat × Value)} {g : Gr} (x : GA n h b nv bt bh es hs g) (hm : n ≤ m) : GA m h b nv bt bh es hs g :=
  { x with bl := ⟨Nat.lt_of_lt_of_le x.bl.1 hm, Nat.lt_of_lt_of_le x.bl.2.1 hm, Nat.lt_of_lt_of_le x.bl.2.2.1 hm, x.bl.2.2.2⟩, nodes := x.nodes.mono hm, tv := fun k v e => (x.tv k v e).mono hm }
theorem GA.c0 {n : Nat} {h : Heap} {b : Nat} {nv : Value} {bt bh : Nat} {es hs : List (Nat × Value)} {g : Gr} (x : GA n h b nv bt bh es hs g) : cell h ⟨b, 0, none⟩ = some nv := cell_at x.cells rfl
theorem GA.c1 {n : Nat} {h : Heap} {b : Nat} {nv : Value} {bt bh : Nat} {es hs : List (Nat × Value)} {g : Gr} (x : GA n h b nv bt bh es hs g) : cell h ⟨b, 1, none⟩ = some (.map (some bt)) := cell_at x.cells rfl
theorem GA.c2 {n : Nat} {h : Heap} {b : Nat} {nv : Value} {bt bh : Nat} {es hs : List (Nat × Value)} {g : Gr} (x : GA n h b nv bt bh es hs g) : cell h ⟨b, 2, none⟩ = some (.map (some bh)) := cell_at x.cells rfl
/-- the nodes to which a node has edges -/
theorem GA.look {n : Nat} {h : Heap} {b : Nat} {nv : Value} {bt bh : Nat} {es hs : List (Nat × Value)} {g : Gr} (x : GA n h b nv bt bh es hs g) (k : Nat) :
    ∃ v, (∀ K, run P (.lookup 72 (.map (some bt)) (R k) false) K h = K v h) ∧ (∀ K, still P (.lookup 72 (.map (some bt)) (R k) false) K h = K v) ∧ Rs n h v (g.to k) := by
  have e := x.tm.lookup mTo kR k false
  refine ⟨_, fun K => e.run K, fun K => e.still K, ?_⟩
  cases hl : alook es k with
  | some v => exact x.tv k v hl
  | none => rw [x.tx k hl]; exact Rs.nil n h
/-- the value p is the program's graph g, whose blocks lie below n -/
def GR (n : Nat) (h : Heap) (p : Value) (g : Gr) : Prop := ∃ b nv bt bh es hs, p = .pointer (some ⟨b, 0, none⟩) ∧ GA n h b nv bt bh es hs g
theorem GR.keep {n : Nat} {h h' : Heap} {p : Value} {g : Gr} (x : GR n h p g) (hk : ∀ b, b < n → h'[b]? = h[b]?) : GR n h' p g :=
  let ⟨b, nv, bt, bh, es, hs, e, a⟩ := x; ⟨b, nv, bt, bh, es, hs, e, a.keep hk⟩
theorem GR.mono {n m : Nat} {h : Heap} {p : Value} {g : Gr} (x : GR n h p g) (hm : n ≤ m) : GR m h p g :=
  let ⟨b, nv, bt, bh, es, hs, e, a⟩ := x; ⟨b, nv, bt, bh, es, hs, e, a.mono hm⟩

/-- there: is n a node? -/
theorem there_spec {n0 : Nat} {h : Heap} {p : Value} {g : Gr} (G : GR n0 h p g) (n : Nat) :
    HCalls P 41 #[p, R n] h fun v h' => v = .bool (decide (n ∈ g.N)) ∧ Old h.size h h' := by
  obtain ⟨b, nv, bt, bh, es, hs, rfl, A⟩ := G
  refine there_ok ?_
  unfold there_c0
  have hlk := (A.hm.lookup mHas kR n true).run
  have hv : lkV (.agg #[]) (alook hs n) true = .tuple #[.agg #[], .bool (decide (n ∈ g.N))] := by
    cases hx : alook hs n with
    | none =>
      have : n ∉ g.N := fun hm => (alook_none.1 hx) ((A.hk n).2 hm)
      simp [lkV, this]
    | some v =>
      have : n ∈ g.N := (A.hk n).1 (List.mem_map.2 ⟨_, alook_mem hx, rfl⟩)
      simp [lkV, this, A.hv n v hx]
  rw [hv] at hlk
  simp only [fr, ops, (fld P f75_2).1, load_run o73 A.c2, hlk, run_alloc z107]
  refine run_store0 a107 ?_
  refine post_ret1 ⟨?_, ?_⟩
  · simp only [rdU, reduceIte, Nat.reduceEqDiff]
  · exact old_push _ _ (Nat.le_refl _)
end Go.Proofs.G
