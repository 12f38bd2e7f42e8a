import Derived.Test.YtadfdknlogceoaaProg
import Derived.KernelRfl
import Derived.Test.YtadfdknlogceoaaKb
set_option linter.all false
open Go Go.Hv
set_option maxRecDepth 100000
namespace Go.Proofs.G
noncomputable abbrev P : Program := Try.prog
theorem follows : P.follows .mixedOrders = true := by kernel_rfl
theorem ty : one P 0 = true ∧ one P 1 = true ∧ one P 2 = true ∧ one P 3 = true ∧ one P 4 = true ∧ one P 5 = true ∧ one P 6 = true ∧ aggs P 7 = some 4 ∧ fOff P 7 0 = some 0 ∧ fOff P 7 1 = some 1 ∧ fOff P 7 2 = some 2 ∧ fOff P 7 3 = some 3 ∧ aggs P 8 = some 4 ∧ fOff P 8 0 = some 0 ∧ fOff P 8 1 = some 1 ∧ fOff P 8 2 = some 2 ∧ fOff P 8 3 = some 3 ∧ one P 9 = true ∧ one P 10 = true ∧ one P 11 = true ∧ one P 12 = true ∧ aggs P 13 = some 2 ∧ fOff P 13 0 = some 0 ∧ fOff P 13 1 = some 1 ∧ aggs P 14 = some 2 ∧ fOff P 14 0 = some 0 ∧ fOff P 14 1 = some 1 ∧ one P 15 = true ∧ one P 16 = true ∧ one P 17 = true ∧ aggs P 18 = some 1 ∧ fOff P 18 0 = some 0 ∧ aggs P 19 = some 1 ∧ fOff P 19 0 = some 0 ∧ one P 20 = true ∧ one P 21 = true ∧ one P 22 = true ∧ eSz P 22 = some 1 ∧ one P 23 = true ∧ eSz P 23 = some 2 ∧ one P 24 = true ∧ one P 25 = true ∧ one P 26 = true ∧ one P 27 = true ∧ one P 28 = true ∧ one P 29 = true ∧ one P 30 = true ∧ one P 31 = true ∧ one P 32 = true ∧ one P 33 = true ∧ one P 34 = true ∧ one P 35 = true ∧ one P 36 = true ∧ eSz P 36 = some 1 ∧ one P 37 = true ∧ one P 38 = true ∧ one P 39 = true ∧ one P 40 = true ∧ one P 41 = true ∧ one P 42 = true ∧ one P 43 = true ∧ one P 44 = true ∧ one P 45 = true ∧ one P 46 = true ∧ one P 47 = true ∧ one P 48 = true ∧ one P 49 = true ∧ one P 50 = true ∧ one P 51 = true ∧ one P 52 = true ∧ one P 53 = true ∧ one P 54 = true ∧ one P 55 = true ∧ aggs P 56 = some 2 ∧ fOff P 56 0 = some 0 ∧ fOff P 56 1 = some 1 ∧ aggs P 57 = some 2 ∧ fOff P 57 0 = some 0 ∧ fOff P 57 1 = some 1 ∧ one P 58 = true ∧ one P 59 = true ∧ one P 60 = true ∧ one P 61 = true ∧ one P 62 = true ∧ one P 63 = true ∧ one P 64 = true ∧ one P 65 = true ∧ one P 66 = true ∧ eSz P 66 = some 1 ∧ aggs P 67 = some 3 ∧ fOff P 67 0 = some 0 ∧ fOff P 67 1 = some 1 ∧ fOff P 67 2 = some 2 ∧ aggs P 68 = some 3 ∧ fOff P 68 0 = some 0 ∧ fOff P 68 1 = some 1 ∧ fOff P 68 2 = some 2 ∧ one P 69 = true ∧ one P 70 = true ∧ eSz P 70 = some 1 ∧ one P 71 = true ∧ one P 72 = true ∧ one P 73 = true ∧ aggs P 74 = some 3 ∧ fOff P 74 0 = some 0 ∧ fOff P 74 1 = some 1 ∧ fOff P 74 2 = some 2 ∧ aggs P 75 = some 3 ∧ fOff P 75 0 = some 0 ∧ fOff P 75 1 = some 1 ∧ fOff P 75 2 = some 2 ∧ one P 76 = true ∧ one P 77 = true ∧ one P 78 = true ∧ one P 79 = true ∧ one P 80 = true ∧ one P 81 = true ∧ one P 82 = true ∧ one P 83 = true ∧ one P 84 = true ∧ one P 85 = true ∧ one P 86 = true ∧ one P 87 = true ∧ one P 88 = true ∧ one P 89 = true ∧ one P 90 = true ∧ one P 91 = true ∧ one P 92 = true ∧ one P 93 = true ∧ one P 94 = true ∧ one P 95 = true ∧ one P 96 = true ∧ one P 97 = true ∧ one P 98 = true ∧ one P 99 = true ∧ eSz P 99 = some 1 ∧ one P 100 = true ∧ one P 101 = true ∧ one P 102 = true ∧ one P 103 = true ∧ one P 104 = true ∧ one P 105 = true ∧ one P 106 = true ∧ aggs P 107 = some 0 ∧ one P 108 = true ∧ one P 109 = true ∧ one P 110 = true ∧ one P 111 = true ∧ one P 112 = true ∧ one P 113 = true ∧ one P 114 = true ∧ one P 115 = true ∧ one P 116 = true ∧ one P 117 = true ∧ one P 118 = true ∧ one P 119 = true ∧ one P 120 = true ∧ one P 121 = true ∧ one P 122 = true ∧ one P 123 = true ∧ one P 124 = true ∧ one P 125 = true ∧ one P 126 = true ∧ one P 127 = true ∧ one P 128 = true ∧ one P 129 = true ∧ one P 130 = true ∧ one P 131 = true ∧ one P 132 = true ∧ one P 133 = true ∧ one P 134 = true ∧ one P 135 = true ∧ one P 136 = true ∧ one P 137 = true ∧ one P 138 = true ∧ one P 139 = true ∧ one P 140 = true ∧ one P 141 = true ∧ one P 142 = true ∧ one P 143 = true ∧ one P 144 = true ∧ one P 145 = true ∧ one P 146 = true ∧ aggs P 147 = some 4 ∧ fOff P 147 0 = some 0 ∧ fOff P 147 1 = some 1 ∧ fOff P 147 2 = some 2 ∧ fOff P 147 3 = some 3 ∧ aggs P 148 = some 4 ∧ fOff P 148 0 = some 0 ∧ fOff P 148 1 = some 1 ∧ fOff P 148 2 = some 2 ∧ fOff P 148 3 = some 3 ∧ aggs P 149 = some 0 ∧ aggs P 150 = some 0 ∧ aggs P 151 = some 0 ∧ one P 152 = true ∧ one P 153 = true ∧ one P 154 = true ∧ one P 155 = true ∧ one P 156 = true ∧ one P 157 = true ∧ one P 158 = true ∧ aggs P 159 = some 11 ∧ fOff P 159 0 = some 0 ∧ fOff P 159 1 = some 1 ∧ fOff P 159 2 = some 2 ∧ fOff P 159 3 = some 3 ∧ fOff P 159 4 = some 4 ∧ fOff P 159 5 = some 5 ∧ fOff P 159 6 = some 6 ∧ fOff P 159 7 = some 7 ∧ fOff P 159 8 = some 8 ∧ fOff P 159 9 = some 9 ∧ fOff P 159 10 = some 10 ∧ aggs P 160 = some 11 ∧ fOff P 160 0 = some 0 ∧ fOff P 160 1 = some 1 ∧ fOff P 160 2 = some 2 ∧ fOff P 160 3 = some 3 ∧ fOff P 160 4 = some 4 ∧ fOff P 160 5 = some 5 ∧ fOff P 160 6 = some 6 ∧ fOff P 160 7 = some 7 ∧ fOff P 160 8 = some 8 ∧ fOff P 160 9 = some 9 ∧ fOff P 160 10 = some 10 ∧ one P 161 = true :=
  ⟨by kernel_rfl, by kernel_rfl, by kernel_rfl, by kernel_rfl, by kernel_rfl, by kernel_rfl, by kernel_rfl, by kernel_rfl, by kernel_rfl, by kernel_rfl, by kernel_rfl, by kernel_rfl, by kernel_rfl, by kernel_rfl, by kernel_rfl, by kernel_rfl, by kernel_rfl, by kernel_rfl, by kernel_rfl, by kernel_rfl, by kernel_rfl, by kernel_rfl, by kernel_rfl, by kernel_rfl, by kernel_rfl, by kernel_rfl, by kernel_rfl, by kernel_rfl, by kernel_rfl, by kernel_rfl, by kernel_rfl, by kernel_rfl, by kernel_rfl, by kernel_rfl, by kernel_rfl, by kernel_rfl, by kernel_rfl, by kernel_rfl, by kernel_rfl, by kernel_rfl, by kernel_rfl, by kernel_rfl, by kernel_rfl, by kernel_rfl, by kernel_rfl, by kernel_rfl, by kernel_rfl, by kernel_rfl, by kernel_rfl, by kernel_rfl, by kernel_rfl, by kernel_rfl, by kernel_rfl, by kernel_rfl, by kernel_rfl, by kernel_rfl, by kernel_rfl, by kernel_rfl, by kernel_rfl, by kernel_rfl, by kernel_rfl, by kernel_rfl, by kernel_rfl, by kernel_rfl, by kernel_rfl, by kernel_rfl, by kernel_rfl, by kernel_rfl, by kernel_rfl, by kernel_rfl, by kernel_rfl, by kernel_rfl, by kernel_rfl, by kernel_rfl, by kernel_rfl, by kernel_rfl, by kernel_rfl, by kernel_rfl, by kernel_rfl, by kernel_rfl, by kernel_rfl, by kernel_rfl, by kernel_rfl, by kernel_rfl, by kernel_rfl, by kernel_rfl, by kernel_rfl, by kernel_rfl, by kernel_rfl, by kernel_rfl, by kernel_rfl, by kernel_rfl, by kernel_rfl, by kernel_rfl, by kernel_rfl, by kernel_rfl, by kernel_rfl, by kernel_rfl, by kernel_rfl, by kernel_rfl, by kernel_rfl, by kernel_rfl, by kernel_rfl, by kernel_rfl, by kernel_rfl, by kernel_rfl, by kernel_rfl, by kernel_rfl, by kernel_rfl, by kernel_rfl, by kernel_rfl, by kernel_rfl, by kernel_rfl, by kernel_rfl, by kernel_rfl, by kernel_rfl, by kernel_rfl, by kernel_rfl, by kernel_rfl, by kernel_rfl, by kernel_rfl, by kernel_rfl, by kernel_rfl, by kernel_rfl, by kernel_rfl, by kernel_rfl, by kernel_rfl, by kernel_rfl, by kernel_rfl, by kernel_rfl, by kernel_rfl, by kernel_rfl, by kernel_rfl, by kernel_rfl, by kernel_rfl, by kernel_rfl, by kernel_rfl, by kernel_rfl, by kernel_rfl, by kernel_rfl, by kernel_rfl, by kernel_rfl, by kernel_rfl, by kernel_rfl, by kernel_rfl, by kernel_rfl, by kernel_rfl, by kernel_rfl, by kernel_rfl, by kernel_rfl, by kernel_rfl, by kernel_rfl, by kernel_rfl, by kernel_rfl, by kernel_rfl, by kernel_rfl, by kernel_rfl, by kernel_rfl, by kernel_rfl, by kernel_rfl, by kernel_rfl, by kernel_rfl, by kernel_rfl, by kernel_rfl, by kernel_rfl, by kernel_rfl, by kernel_rfl, by kernel_rfl, by kernel_rfl, by kernel_rfl, by kernel_rfl, by kernel_rfl, by kernel_rfl, by kernel_rfl, by kernel_rfl, by kernel_rfl, by kernel_rfl, by kernel_rfl, by kernel_rfl, by kernel_rfl, by kernel_rfl, by kernel_rfl, by kernel_rfl, by kernel_rfl, by kernel_rfl, by kernel_rfl, by kernel_rfl, by kernel_rfl, by kernel_rfl, by kernel_rfl, by kernel_rfl, by kernel_rfl, by kernel_rfl, by kernel_rfl, by kernel_rfl, by kernel_rfl, by kernel_rfl, by kernel_rfl, by kernel_rfl, by kernel_rfl, by kernel_rfl, by kernel_rfl, by kernel_rfl, by kernel_rfl, by kernel_rfl, by kernel_rfl, by kernel_rfl, by kernel_rfl, by kernel_rfl, by kernel_rfl, by kernel_rfl, by kernel_rfl, by kernel_rfl, by kernel_rfl, by kernel_rfl, by kernel_rfl, by kernel_rfl, by kernel_rfl, by kernel_rfl, by kernel_rfl, by kernel_rfl, by kernel_rfl, by kernel_rfl, by kernel_rfl, by kernel_rfl, by kernel_rfl, by kernel_rfl, by kernel_rfl⟩
abbrev R (n : Nat) : Value := .int .u64 (n : Int)
abbrev I (n : Nat) : Value := .int .i64 (n : Int)
theorem kR : KeyEnc P 41 R := key_int Try.underlying41
theorem mTo : MapT P 72 41 22 (.slice none 0 0) := ⟨Try.underlying72, by kernel_rfl⟩
theorem mHas : MapT P 73 41 107 (.agg #[]) := ⟨Try.underlying73, by kernel_rfl⟩
theorem mBool : MapT P 76 41 4 (.bool false) := ⟨Try.underlying76, by kernel_rfl⟩
theorem mInt : MapT P 86 41 3 (I 0) := ⟨Try.underlying86, by kernel_rfl⟩
theorem eRef : Elem P 22 41 1 8 (R 0) := ⟨Try.underlying22, by kernel_rfl, rfl⟩
theorem eInt : Elem P 70 3 1 8 (I 0) := ⟨Try.underlying70, by kernel_rfl, rfl⟩
theorem eRefs : Elem P 36 22 1 24 (.slice none 0 0) := ⟨Try.underlying36, by kernel_rfl, rfl⟩
theorem eEdge : Elem P 23 57 2 16 (.agg #[R 0, R 0]) := ⟨Try.underlying23, by kernel_rfl, rfl⟩
end Go.Proofs.G
open Go Go.Hv
set_option maxRecDepth 100000
namespace Go.Proofs.G
/-- tenon/graph.Make: parameters [a0, a1]; results [.tmp 4, .tmp 5]; slots [0:nodes, 1:edges, 2:nodes, 3:edges, 6:g, 7:_, 8:e]; draws [11] -/
def make_md : Nat → RM := fun i => if i = 11 then RM.mixed [(0, 0), (1, 0), (2, 0), (3, 3), (4, 0), (5, 3), (6, 0), (7, 0), (8, 0), (9, 3), (10, 0), (11, 3), (12, 3), (13, 0), (14, 3), (15, 4), (16, 4), (17, 2)] else RM.quiet
def make_c1 (Q : Exit → F → Heap → Prop) (f : F) (h : Heap) : Prop :=
  run P (X.callF 42 [(f 6)]) (fun v68 h =>
  Q .ret (U f [(67, (f 6)), (68, v68), (4, v68), (5, (Value.int .i64 0))]) h
  ) h

def make_L2 (Q : Exit → F → Heap → Prop) (f : F) (h : Heap) : Prop :=
  run P (X.bin .lss 3 false false (f 33) (f 32)) (fun v34 h =>
  br v34 (
    run P (X.indexAddr 23 (f 31) (f 33)) (fun v35 h =>
    run P (X.load 57 v35) (fun v36 h =>
    run P (X.alloc 57) (fun v8 h =>
    run P (X.store 57 v8 v36) (fun _ h =>
    run P (X.fieldAddr 57 v8 0) (fun v38 h =>
    run P (X.load 41 v38) (fun v39 h =>
    run P (X.callF 41 [(f 6), v39]) (fun v40 h =>
    run P (X.un .not v40) (fun v41 h =>
    when (gw v41 false) (run P (X.move (f 6))) (fun v43 h =>
    when (gw v41 false) (run P (X.fieldAddr 57 v8 1)) (fun v44 h =>
    when (gw v41 false) (run P (X.load 41 v44)) (fun v45 h =>
    when (gw v41 false) (run P (X.callF 41 [v43, v45])) (fun v46 h =>
    when (gw v41 false) (run P (X.un .not v46)) (fun v47 h =>
    run P (X.pick v41 (Value.bool true) v47) (fun v48 h =>
    br v48 (
      Q .ret (U f [(34, v34), (35, v35), (36, v36), (8, v8), (37, (f 6)), (38, v38), (39, v39), (40, v40), (41, v41), (42, v41), (43, v43), (44, v44), (45, v45), (46, v46), (47, v47), (48, v48), (4, (Value.pointer none)), (5, (Value.int .i64 140))]) h
    ) (
      ∃ St : Heap → Prop,
      tf P (X.move (f 6)) (fun v49 =>
      tf P (X.nilCheck v49) (fun v50 =>
      tf P (X.fieldAddr 75 v50 1) (fun v51 =>
      tk P St (X.load 72 v51) (fun v52 =>
      tf P (X.fieldAddr 57 v8 0) (fun v53 =>
      tk P St (X.load 41 v53) (fun v54 =>
      tf P (X.move (f 6)) (fun v55 =>
      tf P (X.nilCheck v55) (fun v56 =>
      tf P (X.fieldAddr 75 v56 1) (fun v57 =>
      tk P St (X.load 72 v57) (fun v58 =>
      tf P (X.fieldAddr 57 v8 0) (fun v59 =>
      tk P St (X.load 41 v59) (fun v60 =>
      tk P St (X.lookup 72 v58 v60 false) (fun v61 =>
      tf P (X.fieldAddr 57 v8 1) (fun v62 =>
      tk P St (X.load 41 v62) (fun v63 =>
      run P (X.buildSlice 22 1 [(0, v63)]) (fun v64 h => St h ∧ (
      run P (X.builtin .append #[22, 22] 22 [false, false] [v61, v64]) (fun v65 h => St h ∧ (
      run P (X.mapUpdate 72 v52 v54 v65) (fun _ h =>
      run P (X.bin .add 3 false true (f 33) (Value.int .i64 1)) (fun v66 h =>
      Q .normal (U f [(34, v34), (35, v35), (36, v36), (8, v8), (37, (f 6)), (38, v38), (39, v39), (40, v40), (41, v41), (42, v41), (43, v43), (44, v44), (45, v45), (46, v46), (47, v47), (48, v48), (49, v49), (50, v50), (51, v51), (52, v52), (53, v53), (54, v54), (55, v55), (56, v56), (57, v57), (58, v58), (59, v59), (60, v60), (61, v61), (62, v62), (63, v63), (64, v64), (65, v65), (66, v66), (33, v66)]) h
      ) h
      ) h
      )) h
      )) h
      ) h
      )
      ) h
      ) h
      )
      ) h
      )
      )
      )
      ) h
      )
      ) h
      )
      )
      )
    )
    ) h
    ) h
    ) h
    ) h
    ) h
    ) h
    ) h
    ) h
    ) h
    ) h
    ) h
    ) h
    ) h
    ) h
  ) (
    Q (.exit 0) (U f [(34, v34)]) h
  )
  ) h

def make_c0 (Q : Exit → F → Heap → Prop) (f : F) (h : Heap) : Prop :=
  run P (X.builtin .len #[22] 3 [false] [(f 0)]) (fun v10 h =>
  run P (X.bin .gtr 3 false true v10 (Value.int .i64 4096)) (fun v11 h =>
  when (gw v11 false) (run P (X.move (f 1))) (fun v13 h =>
  when (gw v11 false) (run P (X.builtin .len #[23] 3 [false] [v13])) (fun v14 h =>
  when (gw v11 false) (run P (X.bin .gtr 3 false true v14 (Value.int .i64 16384))) (fun v15 h =>
  run P (X.pick v11 (Value.bool true) v15) (fun v16 h =>
  br v16 (
    Q .ret (U f [(4, (Value.pointer none)), (5, (Value.int .i64 0)), (9, (f 0)), (10, v10), (11, v11), (12, v11), (13, v13), (14, v14), (15, v15), (16, v16), (4, (Value.pointer none)), (5, (Value.int .i64 2))]) h
  ) (
    run P (X.callF 40 [(f 0)]) (fun v18 h =>
    run P (X.callF 41 [v18, (Value.int .u64 0)]) (fun v20 h =>
    when (gw v20 false) (run P (X.move v18)) (fun v22 h =>
    when (gw v20 false) (run P (X.nilCheck v22)) (fun v23 h =>
    when (gw v20 false) (run P (X.fieldAddr 75 v23 2)) (fun v24 h =>
    when (gw v20 false) (run P (X.load 73 v24)) (fun v25 h =>
    when (gw v20 false) (run P (X.builtin .len #[73] 3 [false] [v25])) (fun v26 h =>
    when (gw v20 false) (run P (X.move (f 0))) (fun v27 h =>
    when (gw v20 false) (run P (X.builtin .len #[22] 3 [false] [v27])) (fun v28 h =>
    when (gw v20 false) (run P (X.bin .lss 3 false false v26 v28)) (fun v29 h =>
    run P (X.pick v20 (Value.bool true) v29) (fun v30 h =>
    br v30 (
      Q .ret (U f [(4, (Value.pointer none)), (5, (Value.int .i64 0)), (9, (f 0)), (10, v10), (11, v11), (12, v11), (13, v13), (14, v14), (15, v15), (16, v16), (17, (f 0)), (18, v18), (6, v18), (19, v18), (20, v20), (21, v20), (22, v22), (23, v23), (24, v24), (25, v25), (26, v26), (27, v27), (28, v28), (29, v29), (30, v30), (4, (Value.pointer none)), (5, (Value.int .i64 1))]) h
    ) (
      run P (X.builtin .len #[23] 3 [false] [(f 1)]) (fun v32 h =>
      lp make_L2 (inB 0 (thenQ (make_c1 Q) Q)) (U f [(4, (Value.pointer none)), (5, (Value.int .i64 0)), (9, (f 0)), (10, v10), (11, v11), (12, v11), (13, v13), (14, v14), (15, v15), (16, v16), (17, (f 0)), (18, v18), (6, v18), (19, v18), (20, v20), (21, v20), (22, v22), (23, v23), (24, v24), (25, v25), (26, v26), (27, v27), (28, v28), (29, v29), (30, v30), (31, (f 1)), (32, v32), (33, (Value.int .i64 0))]) h
      ) h
    )
    ) h
    ) h
    ) h
    ) h
    ) h
    ) h
    ) h
    ) h
    ) h
    ) h
    ) h
  )
  ) h
  ) h
  ) h
  ) h
  ) h
  ) h
theorem make_code : make_c0 = hcode P make_md (Try.f14.body.getD .skip) := by kernel_rfl
theorem make_ok {a0 a1 : Value} {h : Heap} {R : Value → Heap → Prop} (hh : make_c0 (post [.tmp 4, .tmp 5] R) (frame0 #[a0, a1]) h) : HCalls P 14 #[a0, a1] h R :=
  hcalls_gen (md := make_md) follows Try.func14 make_code (by kernel_rfl) (by kernel_rfl) (by kernel_rfl) (by kernel_rfl) (by kernel_rfl) hh

/-- (*tenon/graph.Graph).Order: parameters [a0]; results [.tmp 2, .tmp 3]; slots [0:g, 1:g, 4:names, 5:_, 6:n, 7:_, 8:t, 9:free, 10:l, 11:_, 12:n, 13:n, 14:_, 15:t, 16:i, 17:_]; draws [] -/
def order_md : Nat → RM := fun _ => RM.quiet
def order_c3 (Q : Exit → F → Heap → Prop) (f : F) (h : Heap) : Prop :=
  run P (X.builtin .len #[22] 3 [false] [(f 10)]) (fun v107 h =>
  run P (X.nilCheck (f 0)) (fun v109 h =>
  run P (X.fieldAddr 75 v109 0) (fun v110 h =>
  run P (X.load 22 v110) (fun v111 h =>
  run P (X.builtin .len #[22] 3 [false] [v111]) (fun v112 h =>
  run P (X.bin .lss 3 false false v107 v112) (fun v113 h =>
  br v113 (
    Q .ret (U f [(106, (f 10)), (107, v107), (108, (f 0)), (109, v109), (110, v110), (111, v111), (112, v112), (113, v113), (2, (Value.slice none 0 0)), (3, (Value.int .i64 141))]) h
  ) (
    Q .ret (U f [(106, (f 10)), (107, v107), (108, (f 0)), (109, v109), (110, v110), (111, v111), (112, v112), (113, v113), (114, (f 10)), (2, (f 10)), (3, (Value.int .i64 0))]) h
  )
  ) h
  ) h
  ) h
  ) h
  ) h
  ) h

def order_c6 (Q : Exit → F → Heap → Prop) (f : F) (h : Heap) : Prop :=
  run P (X.bin .add 3 false true (f 82) (Value.int .i64 1)) (fun v105 h =>
  Q .normal (U f [(105, v105), (82, v105)]) h
  ) h

def order_L5 (Q : Exit → F → Heap → Prop) (f : F) (h : Heap) : Prop :=
  run P (X.bin .lss 3 false false (f 82) (f 81)) (fun v83 h =>
  br v83 (
    run P (X.indexAddr 22 (f 80) (f 82)) (fun v84 h =>
    run P (X.load 41 v84) (fun v85 h =>
    run P (X.lookup 86 (f 4) v85 false) (fun v88 h =>
    run P (X.bin .sub 3 false true v88 (Value.int .i64 1)) (fun v89 h =>
    run P (X.mapUpdate 86 (f 4) v85 v89) (fun _ h =>
    run P (X.lookup 86 (f 4) v85 false) (fun v92 h =>
    run P (X.bin .eql 3 false true v92 (Value.int .i64 0)) (fun v93 h =>
    br v93 (
      run P (X.callF 51 [(f 9), v85]) (fun v97 h =>
      run P (X.extract v97 0) (fun v98 h =>
      run P (X.extract v97 1) (fun v99 h =>
      run P (X.buildSlice 22 1 [(0, v85)]) (fun v103 h =>
      run P (X.callF 52 [(f 9), v98, v103]) (fun v104 h =>
      order_c6 Q (U f [(83, v83), (84, v84), (85, v85), (15, v85), (86, (f 4)), (87, v85), (88, v88), (89, v89), (90, (f 4)), (91, v85), (92, v92), (93, v93), (95, (f 9)), (96, v85), (97, v97), (94, v97), (98, v98), (99, v99), (16, v98), (17, v99), (100, (f 9)), (101, v98), (102, v85), (103, v103), (104, v104), (9, v104)]) h
      ) h
      ) h
      ) h
      ) h
      ) h
    ) (
      order_c6 Q (U f [(83, v83), (84, v84), (85, v85), (15, v85), (86, (f 4)), (87, v85), (88, v88), (89, v89), (90, (f 4)), (91, v85), (92, v92), (93, v93)]) h
    )
    ) h
    ) h
    ) h
    ) h
    ) h
    ) h
    ) h
  ) (
    Q (.exit 8) (U f [(83, v83)]) h
  )
  ) h

def order_L4 (Q : Exit → F → Heap → Prop) (f : F) (h : Heap) : Prop :=
  run P (X.builtin .len #[22] 3 [false] [(f 9)]) (fun v64 h =>
  run P (X.bin .gtr 3 false true v64 (Value.int .i64 0)) (fun v65 h =>
  br v65 (
    run P (X.indexAddr 22 (f 9) (Value.int .i64 0)) (fun v67 h =>
    run P (X.load 41 v67) (fun v68 h =>
    run P (X.slice 22 (f 9) (some (Value.int .i64 1)) none none) (fun v70 h =>
    run P (X.buildSlice 22 1 [(0, v68)]) (fun v73 h =>
    run P (X.builtin .append #[22, 22] 22 [false, false] [(f 10), v73]) (fun v74 h =>
    run P (X.nilCheck (f 0)) (fun v76 h =>
    run P (X.fieldAddr 75 v76 1) (fun v77 h =>
    run P (X.load 72 v77) (fun v78 h =>
    run P (X.lookup 72 v78 v68 false) (fun v80 h =>
    run P (X.builtin .len #[22] 3 [false] [v80]) (fun v81 h =>
    lp order_L5 (inB 8 (inB 7 Q)) (U f [(63, (f 9)), (64, v64), (65, v65), (66, (f 9)), (67, v67), (68, v68), (13, v68), (69, (f 9)), (70, v70), (9, v70), (71, (f 10)), (72, v68), (73, v73), (74, v74), (10, v74), (75, (f 0)), (76, v76), (77, v77), (78, v78), (79, v68), (80, v80), (81, v81), (82, (Value.int .i64 0))]) h
    ) h
    ) h
    ) h
    ) h
    ) h
    ) h
    ) h
    ) h
    ) h
    ) h
  ) (
    Q (.exit 6) (U f [(63, (f 9)), (64, v64), (65, v65)]) h
  )
  ) h
  ) h

def order_c2 (Q : Exit → F → Heap → Prop) (f : F) (h : Heap) : Prop :=
  lp order_L4 (inB 6 (thenQ (order_c3 Q) Q)) f h

def order_c8 (Q : Exit → F → Heap → Prop) (f : F) (h : Heap) : Prop :=
  run P (X.bin .add 3 false true (f 50) (Value.int .i64 1)) (fun v62 h =>
  Q .normal (U f [(62, v62), (50, v62)]) h
  ) h

def order_L7 (Q : Exit → F → Heap → Prop) (f : F) (h : Heap) : Prop :=
  run P (X.bin .lss 3 false false (f 50) (f 49)) (fun v51 h =>
  br v51 (
    run P (X.indexAddr 22 (f 48) (f 50)) (fun v52 h =>
    run P (X.load 41 v52) (fun v53 h =>
    run P (X.lookup 86 (f 4) v53 false) (fun v56 h =>
    run P (X.bin .eql 3 false true v56 (Value.int .i64 0)) (fun v57 h =>
    br v57 (
      run P (X.buildSlice 22 1 [(0, v53)]) (fun v60 h =>
      run P (X.builtin .append #[22, 22] 22 [false, false] [(f 9), v60]) (fun v61 h =>
      order_c8 Q (U f [(51, v51), (52, v52), (53, v53), (12, v53), (54, (f 4)), (55, v53), (56, v56), (57, v57), (58, (f 9)), (59, v53), (60, v60), (61, v61), (9, v61)]) h
      ) h
      ) h
    ) (
      order_c8 Q (U f [(51, v51), (52, v52), (53, v53), (12, v53), (54, (f 4)), (55, v53), (56, v56), (57, v57)]) h
    )
    ) h
    ) h
    ) h
    ) h
  ) (
    Q (.exit 4) (U f [(51, v51)]) h
  )
  ) h

def order_c1 (Q : Exit → F → Heap → Prop) (f : F) (h : Heap) : Prop :=
  run P (X.nilCheck (f 0)) (fun v46 h =>
  run P (X.fieldAddr 75 v46 0) (fun v47 h =>
  run P (X.load 22 v47) (fun v48 h =>
  run P (X.builtin .len #[22] 3 [false] [v48]) (fun v49 h =>
  lp order_L7 (inB 4 (thenQ (order_c2 Q) Q)) (U f [(9, (Value.slice none 0 0)), (10, (Value.slice none 0 0)), (45, (f 0)), (46, v46), (47, v47), (48, v48), (49, v49), (50, (Value.int .i64 0))]) h
  ) h
  ) h
  ) h
  ) h

def order_c10 (Q : Exit → F → Heap → Prop) (f : F) (h : Heap) : Prop :=
  run P (X.bin .add 3 false true (f 24) (Value.int .i64 1)) (fun v44 h =>
  Q .normal (U f [(44, v44), (24, v44)]) h
  ) h

def order_L11 (Q : Exit → F → Heap → Prop) (f : F) (h : Heap) : Prop :=
  run P (X.bin .lss 3 false false (f 35) (f 34)) (fun v36 h =>
  br v36 (
    run P (X.indexAddr 22 (f 33) (f 35)) (fun v37 h =>
    run P (X.load 41 v37) (fun v38 h =>
    run P (X.lookup 86 (f 4) v38 false) (fun v41 h =>
    run P (X.bin .add 3 false true v41 (Value.int .i64 1)) (fun v42 h =>
    run P (X.mapUpdate 86 (f 4) v38 v42) (fun _ h =>
    run P (X.bin .add 3 false true (f 35) (Value.int .i64 1)) (fun v43 h =>
    Q .normal (U f [(36, v36), (37, v37), (38, v38), (8, v38), (39, (f 4)), (40, v38), (41, v41), (42, v42), (43, v43), (35, v43)]) h
    ) h
    ) h
    ) h
    ) h
    ) h
    ) h
  ) (
    Q (.exit 2) (U f [(36, v36)]) h
  )
  ) h

def order_L9 (Q : Exit → F → Heap → Prop) (f : F) (h : Heap) : Prop :=
  run P (X.bin .lss 3 false false (f 24) (f 23)) (fun v25 h =>
  br v25 (
    run P (X.indexAddr 22 (f 22) (f 24)) (fun v26 h =>
    run P (X.load 41 v26) (fun v27 h =>
    run P (X.nilCheck (f 0)) (fun v29 h =>
    run P (X.fieldAddr 75 v29 1) (fun v30 h =>
    run P (X.load 72 v30) (fun v31 h =>
    run P (X.lookup 72 v31 v27 false) (fun v33 h =>
    run P (X.builtin .len #[22] 3 [false] [v33]) (fun v34 h =>
    lp order_L11 (inB 2 (inB 1 (thenQ (order_c10 Q) Q))) (U f [(25, v25), (26, v26), (27, v27), (6, v27), (28, (f 0)), (29, v29), (30, v30), (31, v31), (32, v27), (33, v33), (34, v34), (35, (Value.int .i64 0))]) h
    ) h
    ) h
    ) h
    ) h
    ) h
    ) h
    ) h
  ) (
    Q (.exit 0) (U f [(25, v25)]) h
  )
  ) h

def order_c0 (Q : Exit → F → Heap → Prop) (f : F) (h : Heap) : Prop :=
  run P (X.mkMap 86 none) (fun v18 h =>
  run P (X.nilCheck (f 0)) (fun v20 h =>
  run P (X.fieldAddr 75 v20 0) (fun v21 h =>
  run P (X.load 22 v21) (fun v22 h =>
  run P (X.builtin .len #[22] 3 [false] [v22]) (fun v23 h =>
  lp order_L9 (inB 0 (thenQ (order_c1 Q) Q)) (U f [(2, (Value.slice none 0 0)), (3, (Value.int .i64 0)), (18, v18), (4, v18), (19, (f 0)), (20, v20), (21, v21), (22, v22), (23, v23), (24, (Value.int .i64 0))]) h
  ) h
  ) h
  ) h
  ) h
  ) h
theorem order_code : order_c0 = hcode P order_md (Try.f19.body.getD .skip) := by kernel_rfl
theorem order_ok {a0 : Value} {h : Heap} {R : Value → Heap → Prop} (hh : order_c0 (post [.tmp 2, .tmp 3] R) (frame0 #[a0]) h) : HCalls P 19 #[a0] h R :=
  hcalls_gen (md := order_md) follows Try.func19 order_code (by kernel_rfl) (by kernel_rfl) (by kernel_rfl) (by kernel_rfl) (by kernel_rfl) hh

/-- (*tenon/graph.Graph).Ring: parameters [a0]; results [.tmp 2, .tmp 3]; slots [0:g, 1:g, 4:best, 5:back, 6:_, 7:n, 8:far, 9:_, 10:t, 11:rest, 12:ring]; draws [] -/
def ring_md : Nat → RM := fun _ => RM.quiet
def ring_c1 (Q : Exit → F → Heap → Prop) (f : F) (h : Heap) : Prop :=
  run P (X.bin .neq 22 false true (f 4) (Value.slice none 0 0)) (fun v80 h =>
  Q .ret (U f [(78, (f 4)), (79, (f 4)), (80, v80), (2, (f 4)), (3, v80)]) h
  ) h

def ring_c3 (Q : Exit → F → Heap → Prop) (f : F) (h : Heap) : Prop :=
  run P (X.bin .add 3 false true (f 20) (Value.int .i64 1)) (fun v77 h =>
  Q .normal (U f [(77, v77), (20, v77)]) h
  ) h

def ring_c5 (Q : Exit → F → Heap → Prop) (f : F) (h : Heap) : Prop :=
  run P (X.bin .add 3 false true (f 35) (Value.int .i64 1)) (fun v76 h =>
  Q .normal (U f [(76, v76), (35, v76)]) h
  ) h

def ring_L4 (Q : Exit → F → Heap → Prop) (f : F) (h : Heap) : Prop :=
  run P (X.bin .lss 3 false false (f 35) (f 34)) (fun v36 h =>
  br v36 (
    run P (X.indexAddr 22 (f 33) (f 35)) (fun v37 h =>
    run P (X.load 41 v37) (fun v38 h =>
    run P (X.callF 54 [(f 0), v38, (f 8)]) (fun v42 h =>
    run P (X.bin .eql 22 false true v42 (Value.slice none 0 0)) (fun v44 h =>
    br v44 (
      ring_c5 Q (U f [(36, v36), (37, v37), (38, v38), (10, v38), (39, (f 0)), (40, v38), (41, (f 8)), (42, v42), (11, v42), (43, v42), (44, v44)]) h
    ) (
      run P (X.buildSlice 22 1 [(0, (f 7))]) (fun v46 h =>
      run P (X.builtin .len #[22] 3 [false] [v42]) (fun v49 h =>
      run P (X.bin .sub 3 false true v49 (Value.int .i64 1)) (fun v50 h =>
      run P (X.slice 22 v42 none (some v50) none) (fun v51 h =>
      run P (X.builtin .append #[22, 22] 22 [false, false] [v46, v51]) (fun v52 h =>
      run P (X.bin .eql 22 false true (f 4) (Value.slice none 0 0)) (fun v54 h =>
      when (gw v54 false) (run P (X.move v52)) (fun v56 h =>
      when (gw v54 false) (run P (X.builtin .len #[22] 3 [false] [v56])) (fun v57 h =>
      when (gw v54 false) (run P (X.move (f 4))) (fun v58 h =>
      when (gw v54 false) (run P (X.builtin .len #[22] 3 [false] [v58])) (fun v59 h =>
      when (gw v54 false) (run P (X.bin .lss 3 false false v57 v59)) (fun v60 h =>
      run P (X.pick v54 (Value.bool true) v60) (fun v61 h =>
      when (gw v61 false) (run P (X.move v52)) (fun v63 h =>
      when (gw v61 false) (run P (X.builtin .len #[22] 3 [false] [v63])) (fun v64 h =>
      when (gw v61 false) (run P (X.move (f 4))) (fun v65 h =>
      when (gw v61 false) (run P (X.builtin .len #[22] 3 [false] [v65])) (fun v66 h =>
      when (gw v61 false) (run P (X.bin .eql 3 false false v64 v66)) (fun v67 h =>
      when (gw v61 false) (run P (X.move v67)) (fun v68 h =>
      when (gw v68 true) (run P (X.move v52)) (fun v69 h =>
      when (gw v68 true) (run P (X.move (f 4))) (fun v70 h =>
      when (gw v68 true) (run P (X.callF 55 [v69, v70])) (fun v71 h =>
      when (gw v68 true) (run P (X.bin .lss 3 false true v71 (Value.int .i64 0))) (fun v72 h =>
      when (gw v61 false) (run P (X.pick v68 v72 (Value.bool false))) (fun v73 h =>
      run P (X.pick v61 (Value.bool true) v73) (fun v74 h =>
      br v74 (
        ring_c5 Q (U f [(36, v36), (37, v37), (38, v38), (10, v38), (39, (f 0)), (40, v38), (41, (f 8)), (42, v42), (11, v42), (43, v42), (44, v44), (45, (f 7)), (46, v46), (47, v42), (48, v42), (49, v49), (50, v50), (51, v51), (52, v52), (12, v52), (53, (f 4)), (54, v54), (55, v54), (56, v56), (57, v57), (58, v58), (59, v59), (60, v60), (61, v61), (62, v61), (63, v63), (64, v64), (65, v65), (66, v66), (67, v67), (68, v68), (69, v69), (70, v70), (71, v71), (72, v72), (73, v73), (74, v74), (75, v52), (4, v52)]) h
      ) (
        ring_c5 Q (U f [(36, v36), (37, v37), (38, v38), (10, v38), (39, (f 0)), (40, v38), (41, (f 8)), (42, v42), (11, v42), (43, v42), (44, v44), (45, (f 7)), (46, v46), (47, v42), (48, v42), (49, v49), (50, v50), (51, v51), (52, v52), (12, v52), (53, (f 4)), (54, v54), (55, v54), (56, v56), (57, v57), (58, v58), (59, v59), (60, v60), (61, v61), (62, v61), (63, v63), (64, v64), (65, v65), (66, v66), (67, v67), (68, v68), (69, v69), (70, v70), (71, v71), (72, v72), (73, v73), (74, v74)]) h
      )
      ) h
      ) h
      ) h
      ) h
      ) h
      ) h
      ) h
      ) h
      ) h
      ) h
      ) h
      ) h
      ) h
      ) h
      ) h
      ) h
      ) h
      ) h
      ) h
      ) h
      ) h
      ) h
      ) h
      ) h
    )
    ) h
    ) h
    ) h
    ) h
  ) (
    Q (.exit 2) (U f [(36, v36)]) h
  )
  ) h

def ring_L2 (Q : Exit → F → Heap → Prop) (f : F) (h : Heap) : Prop :=
  run P (X.bin .lss 3 false false (f 20) (f 19)) (fun v21 h =>
  br v21 (
    run P (X.indexAddr 22 (f 18) (f 20)) (fun v22 h =>
    run P (X.load 41 v22) (fun v23 h =>
    run P (X.buildSlice 22 1 [(0, v23)]) (fun v26 h =>
    run P (X.callF 53 [(f 5), v26, (Value.int .u64 0)]) (fun v27 h =>
    run P (X.nilCheck (f 0)) (fun v29 h =>
    run P (X.fieldAddr 75 v29 1) (fun v30 h =>
    run P (X.load 72 v30) (fun v31 h =>
    run P (X.lookup 72 v31 v23 false) (fun v33 h =>
    run P (X.builtin .len #[22] 3 [false] [v33]) (fun v34 h =>
    lp ring_L4 (inB 2 (inB 1 (thenQ (ring_c3 Q) Q))) (U f [(21, v21), (22, v22), (23, v23), (7, v23), (24, (f 5)), (25, v23), (26, v26), (27, v27), (8, v27), (28, (f 0)), (29, v29), (30, v30), (31, v31), (32, v23), (33, v33), (34, v34), (35, (Value.int .i64 0))]) h
    ) h
    ) h
    ) h
    ) h
    ) h
    ) h
    ) h
    ) h
    ) h
  ) (
    Q (.exit 0) (U f [(21, v21)]) h
  )
  ) h

def ring_c0 (Q : Exit → F → Heap → Prop) (f : F) (h : Heap) : Prop :=
  run P (X.callF 33 [(f 0)]) (fun v14 h =>
  run P (X.nilCheck (f 0)) (fun v16 h =>
  run P (X.fieldAddr 75 v16 0) (fun v17 h =>
  run P (X.load 22 v17) (fun v18 h =>
  run P (X.builtin .len #[22] 3 [false] [v18]) (fun v19 h =>
  lp ring_L2 (inB 0 (thenQ (ring_c1 Q) Q)) (U f [(2, (Value.slice none 0 0)), (3, (Value.bool false)), (4, (Value.slice none 0 0)), (13, (f 0)), (14, v14), (5, v14), (15, (f 0)), (16, v16), (17, v17), (18, v18), (19, v19), (20, (Value.int .i64 0))]) h
  ) h
  ) h
  ) h
  ) h
  ) h
theorem ring_code : ring_c0 = hcode P ring_md (Try.f20.body.getD .skip) := by kernel_rfl
theorem ring_ok {a0 : Value} {h : Heap} {R : Value → Heap → Prop} (hh : ring_c0 (post [.tmp 2, .tmp 3] R) (frame0 #[a0]) h) : HCalls P 20 #[a0] h R :=
  hcalls_gen (md := ring_md) follows Try.func20 ring_code (by kernel_rfl) (by kernel_rfl) (by kernel_rfl) (by kernel_rfl) (by kernel_rfl) hh

/-- (*tenon/graph.Graph).Keeps: parameters [a0, a1, a2]; results [.tmp 6, .tmp 7]; slots [0:g, 1:from, 2:node, 3:g, 4:from, 5:node, 8:with, 9:without, 10:_, 11:ok]; draws [] -/
def keeps_md : Nat → RM := fun _ => RM.quiet
def keeps_c0 (Q : Exit → F → Heap → Prop) (f : F) (h : Heap) : Prop :=
  run P (X.callF 56 [(f 0), (f 1)]) (fun v14 h =>
  run P (X.un .not v14) (fun v15 h =>
  when (gw v15 false) (run P (X.move (f 0))) (fun v17 h =>
  when (gw v15 false) (run P (X.move (f 2))) (fun v18 h =>
  when (gw v15 false) (run P (X.callF 41 [v17, v18])) (fun v19 h =>
  when (gw v15 false) (run P (X.un .not v19)) (fun v20 h =>
  run P (X.pick v15 (Value.bool true) v20) (fun v21 h =>
  br v21 (
    Q .ret (U f [(6, (Value.slice none 0 0)), (7, (Value.int .i64 0)), (12, (f 0)), (13, (f 1)), (14, v14), (15, v15), (16, v15), (17, v17), (18, v18), (19, v19), (20, v20), (21, v21), (6, (Value.slice none 0 0)), (7, (Value.int .i64 140))]) h
  ) (
    run P (X.callF 53 [(f 0), (f 1), (Value.int .u64 0)]) (fun v24 h =>
    run P (X.callF 53 [(f 0), (f 1), (f 2)]) (fun v28 h =>
    run P (X.alloc 86) (fun v9 h =>
    run P (X.store 86 v9 v28) (fun _ h =>
    run P (X.lookup 86 v24 (f 2) true) (fun v32 h =>
    run P (X.extract v32 0) (fun v33 h =>
    run P (X.extract v32 1) (fun v34 h =>
    run P (X.un .not v34) (fun v36 h =>
    br v36 (
      Q .ret (U f [(6, (Value.slice none 0 0)), (7, (Value.int .i64 0)), (12, (f 0)), (13, (f 1)), (14, v14), (15, v15), (16, v15), (17, v17), (18, v18), (19, v19), (20, v20), (21, v21), (22, (f 0)), (23, (f 1)), (24, v24), (25, (f 0)), (26, (f 1)), (27, (f 2)), (28, v28), (9, v9), (8, v24), (30, v24), (31, (f 2)), (32, v32), (29, v32), (33, v33), (34, v34), (10, v33), (11, v34), (35, v34), (36, v36), (6, (Value.slice none 0 0)), (7, (Value.int .i64 0))]) h
    ) (
      run P (X.callF 58 [v24]) (fun v38 h =>
      run P (X.mkFunc (.func 59) [] [v9]) (fun v39 h =>
      run P (X.callF 57 [v38, v39]) (fun v40 h =>
      Q .ret (U f [(6, (Value.slice none 0 0)), (7, (Value.int .i64 0)), (12, (f 0)), (13, (f 1)), (14, v14), (15, v15), (16, v15), (17, v17), (18, v18), (19, v19), (20, v20), (21, v21), (22, (f 0)), (23, (f 1)), (24, v24), (25, (f 0)), (26, (f 1)), (27, (f 2)), (28, v28), (9, v9), (8, v24), (30, v24), (31, (f 2)), (32, v32), (29, v32), (33, v33), (34, v34), (10, v33), (11, v34), (35, v34), (36, v36), (37, v24), (38, v38), (39, v39), (40, v40), (6, v40), (7, (Value.int .i64 0))]) h
      ) h
      ) h
      ) h
    )
    ) h
    ) h
    ) h
    ) h
    ) h
    ) h
    ) h
    ) h
  )
  ) h
  ) h
  ) h
  ) h
  ) h
  ) h
  ) h
theorem keeps_code : keeps_c0 = hcode P keeps_md (Try.f21.body.getD .skip) := by kernel_rfl
theorem keeps_ok {a0 a1 a2 : Value} {h : Heap} {R : Value → Heap → Prop} (hh : keeps_c0 (post [.tmp 6, .tmp 7] R) (frame0 #[a0, a1, a2]) h) : HCalls P 21 #[a0, a1, a2] h R :=
  hcalls_gen (md := keeps_md) follows Try.func21 keeps_code (by kernel_rfl) (by kernel_rfl) (by kernel_rfl) (by kernel_rfl) (by kernel_rfl) hh

/-- (*tenon/graph.Graph).Keeper: parameters [a0, a1, a2]; results [.tmp 6, .tmp 7, .tmp 8]; slots [0:g, 1:from, 2:node, 3:g, 4:from, 5:node, 9:with, 10:_, 11:ok, 12:best, 13:keeps, 14:n, 15:without, 16:_, 17:ok, 18:k]; draws [] -/
def keeper_md : Nat → RM := fun _ => RM.quiet
def keeper_c1 (Q : Exit → F → Heap → Prop) (f : F) (h : Heap) : Prop :=
  run P (X.bin .neq 41 false true (f 12) (Value.int .u64 0)) (fun v76 h =>
  Q .ret (U f [(74, (f 12)), (75, (f 12)), (76, v76), (6, (f 12)), (7, v76), (8, (Value.int .i64 0))]) h
  ) h

def keeper_L2 (Q : Exit → F → Heap → Prop) (f : F) (h : Heap) : Prop :=
  run P (X.next (f 41) false 0) (fun v42 h =>
  run P (X.extract v42 0) (fun v43 h =>
  br v43 (
    run P (X.entry (f 41)) (fun v44 h =>
    run P (X.extract v44 0) (fun v45 h =>
    run P (X.bin .eql 41 false false v45 (f 2)) (fun v48 h =>
    br v48 (
      Q .normal (U f [(42, v42), (43, v43), (44, v44), (45, v45), (14, v45), (46, v45), (47, (f 2)), (48, v48)]) h
    ) (
      run P (X.callF 53 [(f 0), (f 1), v45]) (fun v52 h =>
      run P (X.lookup 86 v52 (f 2) true) (fun v56 h =>
      run P (X.extract v56 0) (fun v57 h =>
      run P (X.extract v56 1) (fun v58 h =>
      br v58 (
        Q .normal (U f [(42, v42), (43, v43), (44, v44), (45, v45), (14, v45), (46, v45), (47, (f 2)), (48, v48), (49, (f 0)), (50, (f 1)), (51, v45), (52, v52), (15, v52), (54, v52), (55, (f 2)), (56, v56), (53, v56), (57, v57), (58, v58), (16, v57), (17, v58), (59, v58)]) h
      ) (
        run P (X.builtin .len #[86] 3 [false] [(f 9)]) (fun v61 h =>
        run P (X.builtin .len #[86] 3 [false] [v52]) (fun v63 h =>
        run P (X.bin .sub 3 false false v61 v63) (fun v64 h =>
        run P (X.bin .eql 41 false true (f 12) (Value.int .u64 0)) (fun v66 h =>
        when (gw v66 false) (run P (X.move v64)) (fun v68 h =>
        when (gw v66 false) (run P (X.move (f 13))) (fun v69 h =>
        when (gw v66 false) (run P (X.bin .lss 3 false false v68 v69)) (fun v70 h =>
        run P (X.pick v66 (Value.bool true) v70) (fun v71 h =>
        br v71 (
          Q .normal (U f [(42, v42), (43, v43), (44, v44), (45, v45), (14, v45), (46, v45), (47, (f 2)), (48, v48), (49, (f 0)), (50, (f 1)), (51, v45), (52, v52), (15, v52), (54, v52), (55, (f 2)), (56, v56), (53, v56), (57, v57), (58, v58), (16, v57), (17, v58), (59, v58), (60, (f 9)), (61, v61), (62, v52), (63, v63), (64, v64), (18, v64), (65, (f 12)), (66, v66), (67, v66), (68, v68), (69, v69), (70, v70), (71, v71), (72, v45), (73, v64), (12, v45), (13, v64)]) h
        ) (
          Q .normal (U f [(42, v42), (43, v43), (44, v44), (45, v45), (14, v45), (46, v45), (47, (f 2)), (48, v48), (49, (f 0)), (50, (f 1)), (51, v45), (52, v52), (15, v52), (54, v52), (55, (f 2)), (56, v56), (53, v56), (57, v57), (58, v58), (16, v57), (17, v58), (59, v58), (60, (f 9)), (61, v61), (62, v52), (63, v63), (64, v64), (18, v64), (65, (f 12)), (66, v66), (67, v66), (68, v68), (69, v69), (70, v70), (71, v71)]) h
        )
        ) h
        ) h
        ) h
        ) h
        ) h
        ) h
        ) h
        ) h
      )
      ) h
      ) h
      ) h
      ) h
    )
    ) h
    ) h
    ) h
  ) (
    Q (.exit 0) (U f [(42, v42), (43, v43)]) h
  )
  ) h
  ) h

def keeper_c0 (Q : Exit → F → Heap → Prop) (f : F) (h : Heap) : Prop :=
  run P (X.callF 56 [(f 0), (f 1)]) (fun v21 h =>
  run P (X.un .not v21) (fun v22 h =>
  when (gw v22 false) (run P (X.move (f 0))) (fun v24 h =>
  when (gw v22 false) (run P (X.move (f 2))) (fun v25 h =>
  when (gw v22 false) (run P (X.callF 41 [v24, v25])) (fun v26 h =>
  when (gw v22 false) (run P (X.un .not v26)) (fun v27 h =>
  run P (X.pick v22 (Value.bool true) v27) (fun v28 h =>
  br v28 (
    Q .ret (U f [(6, (Value.int .u64 0)), (7, (Value.bool false)), (8, (Value.int .i64 0)), (19, (f 0)), (20, (f 1)), (21, v21), (22, v22), (23, v22), (24, v24), (25, v25), (26, v26), (27, v27), (28, v28), (6, (Value.int .u64 0)), (7, (Value.bool false)), (8, (Value.int .i64 140))]) h
  ) (
    run P (X.callF 53 [(f 0), (f 1), (Value.int .u64 0)]) (fun v31 h =>
    run P (X.lookup 86 v31 (f 2) true) (fun v35 h =>
    run P (X.extract v35 0) (fun v36 h =>
    run P (X.extract v35 1) (fun v37 h =>
    run P (X.un .not v37) (fun v39 h =>
    br v39 (
      Q .ret (U f [(6, (Value.int .u64 0)), (7, (Value.bool false)), (8, (Value.int .i64 0)), (19, (f 0)), (20, (f 1)), (21, v21), (22, v22), (23, v22), (24, v24), (25, v25), (26, v26), (27, v27), (28, v28), (29, (f 0)), (30, (f 1)), (31, v31), (9, v31), (33, v31), (34, (f 2)), (35, v35), (32, v35), (36, v36), (37, v37), (10, v36), (11, v37), (38, v37), (39, v39), (6, (Value.int .u64 0)), (7, (Value.bool false)), (8, (Value.int .i64 142))]) h
    ) (
      run P (X.range 86 v31) (fun v41 h =>
      lp keeper_L2 (inB 0 (thenQ (keeper_c1 Q) Q)) (U f [(6, (Value.int .u64 0)), (7, (Value.bool false)), (8, (Value.int .i64 0)), (19, (f 0)), (20, (f 1)), (21, v21), (22, v22), (23, v22), (24, v24), (25, v25), (26, v26), (27, v27), (28, v28), (29, (f 0)), (30, (f 1)), (31, v31), (9, v31), (33, v31), (34, (f 2)), (35, v35), (32, v35), (36, v36), (37, v37), (10, v36), (11, v37), (38, v37), (39, v39), (12, (Value.int .u64 0)), (13, (Value.int .i64 0)), (40, v31), (41, v41)]) h
      ) h
    )
    ) h
    ) h
    ) h
    ) h
    ) h
  )
  ) h
  ) h
  ) h
  ) h
  ) h
  ) h
  ) h
theorem keeper_code : keeper_c0 = hcode P keeper_md (Try.f22.body.getD .skip) := by kernel_rfl
theorem keeper_ok {a0 a1 a2 : Value} {h : Heap} {R : Value → Heap → Prop} (hh : keeper_c0 (post [.tmp 6, .tmp 7, .tmp 8] R) (frame0 #[a0, a1, a2]) h) : HCalls P 22 #[a0, a1, a2] h R :=
  hcalls_gen (md := keeper_md) follows Try.func22 keeper_code (by kernel_rfl) (by kernel_rfl) (by kernel_rfl) (by kernel_rfl) (by kernel_rfl) hh

/-- (*tenon/graph.Graph).Reach: parameters [a0, a1]; results [.tmp 4, .tmp 5]; slots [0:g, 1:from, 2:g, 3:from]; draws [] -/
def reach_md : Nat → RM := fun _ => RM.quiet
def reach_c0 (Q : Exit → F → Heap → Prop) (f : F) (h : Heap) : Prop :=
  run P (X.callF 56 [(f 0), (f 1)]) (fun v8 h =>
  run P (X.un .not v8) (fun v9 h =>
  br v9 (
    Q .ret (U f [(4, (Value.slice none 0 0)), (5, (Value.int .i64 0)), (6, (f 0)), (7, (f 1)), (8, v8), (9, v9), (4, (Value.slice none 0 0)), (5, (Value.int .i64 140))]) h
  ) (
    run P (X.callF 53 [(f 0), (f 1), (Value.int .u64 0)]) (fun v12 h =>
    run P (X.callF 58 [v12]) (fun v13 h =>
    Q .ret (U f [(4, (Value.slice none 0 0)), (5, (Value.int .i64 0)), (6, (f 0)), (7, (f 1)), (8, v8), (9, v9), (10, (f 0)), (11, (f 1)), (12, v12), (13, v13), (4, v13), (5, (Value.int .i64 0))]) h
    ) h
    ) h
  )
  ) h
  ) h
theorem reach_code : reach_c0 = hcode P reach_md (Try.f24.body.getD .skip) := by kernel_rfl
theorem reach_ok {a0 a1 : Value} {h : Heap} {R : Value → Heap → Prop} (hh : reach_c0 (post [.tmp 4, .tmp 5] R) (frame0 #[a0, a1]) h) : HCalls P 24 #[a0, a1] h R :=
  hcalls_gen (md := reach_md) follows Try.func24 reach_code (by kernel_rfl) (by kernel_rfl) (by kernel_rfl) (by kernel_rfl) (by kernel_rfl) hh

/-- (*tenon/graph.Graph).Edges: parameters [a0]; results [.tmp 2]; slots [0:g, 1:g, 3:l, 4:_, 5:n, 6:_, 7:t]; draws [] -/
def edges_md : Nat → RM := fun _ => RM.quiet
def edges_c1 (Q : Exit → F → Heap → Prop) (f : F) (h : Heap) : Prop :=
  Q .ret (U f [(36, (f 3)), (2, (f 3))]) h

def edges_c3 (Q : Exit → F → Heap → Prop) (f : F) (h : Heap) : Prop :=
  run P (X.bin .add 3 false true (f 13) (Value.int .i64 1)) (fun v35 h =>
  Q .normal (U f [(35, v35), (13, v35)]) h
  ) h

def edges_L4 (Q : Exit → F → Heap → Prop) (f : F) (h : Heap) : Prop :=
  run P (X.bin .lss 3 false false (f 24) (f 23)) (fun v25 h =>
  br v25 (
    run P (X.indexAddr 22 (f 22) (f 24)) (fun v26 h =>
    run P (X.load 41 v26) (fun v27 h =>
    run P (X.build 57 [(0, (f 5)), (1, v27)]) (fun v31 h =>
    run P (X.buildSlice 23 1 [(0, v31)]) (fun v32 h =>
    run P (X.builtin .append #[23, 23] 23 [false, false] [(f 3), v32]) (fun v33 h =>
    run P (X.bin .add 3 false true (f 24) (Value.int .i64 1)) (fun v34 h =>
    Q .normal (U f [(25, v25), (26, v26), (27, v27), (7, v27), (28, (f 3)), (29, (f 5)), (30, v27), (31, v31), (32, v32), (33, v33), (3, v33), (34, v34), (24, v34)]) h
    ) h
    ) h
    ) h
    ) h
    ) h
    ) h
  ) (
    Q (.exit 2) (U f [(25, v25)]) h
  )
  ) h

def edges_L2 (Q : Exit → F → Heap → Prop) (f : F) (h : Heap) : Prop :=
  run P (X.bin .lss 3 false false (f 13) (f 12)) (fun v14 h =>
  br v14 (
    run P (X.indexAddr 22 (f 11) (f 13)) (fun v15 h =>
    run P (X.load 41 v15) (fun v16 h =>
    run P (X.nilCheck (f 0)) (fun v18 h =>
    run P (X.fieldAddr 75 v18 1) (fun v19 h =>
    run P (X.load 72 v19) (fun v20 h =>
    run P (X.lookup 72 v20 v16 false) (fun v22 h =>
    run P (X.builtin .len #[22] 3 [false] [v22]) (fun v23 h =>
    lp edges_L4 (inB 2 (inB 1 (thenQ (edges_c3 Q) Q))) (U f [(14, v14), (15, v15), (16, v16), (5, v16), (17, (f 0)), (18, v18), (19, v19), (20, v20), (21, v16), (22, v22), (23, v23), (24, (Value.int .i64 0))]) h
    ) h
    ) h
    ) h
    ) h
    ) h
    ) h
    ) h
  ) (
    Q (.exit 0) (U f [(14, v14)]) h
  )
  ) h

def edges_c0 (Q : Exit → F → Heap → Prop) (f : F) (h : Heap) : Prop :=
  run P (X.nilCheck (f 0)) (fun v9 h =>
  run P (X.fieldAddr 75 v9 0) (fun v10 h =>
  run P (X.load 22 v10) (fun v11 h =>
  run P (X.builtin .len #[22] 3 [false] [v11]) (fun v12 h =>
  lp edges_L2 (inB 0 (thenQ (edges_c1 Q) Q)) (U f [(2, (Value.slice none 0 0)), (3, (Value.slice none 0 0)), (8, (f 0)), (9, v9), (10, v10), (11, v11), (12, v12), (13, (Value.int .i64 0))]) h
  ) h
  ) h
  ) h
  ) h
theorem edges_code : edges_c0 = hcode P edges_md (Try.f25.body.getD .skip) := by kernel_rfl
theorem edges_ok {a0 : Value} {h : Heap} {R : Value → Heap → Prop} (hh : edges_c0 (post [.tmp 2] R) (frame0 #[a0]) h) : HCalls P 25 #[a0] h R :=
  hcalls_gen (md := edges_md) follows Try.func25 edges_code (by kernel_rfl) (by kernel_rfl) (by kernel_rfl) (by kernel_rfl) (by kernel_rfl) hh

/-- (*tenon/graph.Graph).Path: parameters [a0, a1, a2]; results [.tmp 6, .tmp 7]; slots [0:g, 1:from, 2:to, 3:g, 4:from, 5:to, 8:l]; draws [] -/
def path0_md : Nat → RM := fun _ => RM.quiet
def path0_c0 (Q : Exit → F → Heap → Prop) (f : F) (h : Heap) : Prop :=
  run P (X.callF 41 [(f 0), (f 1)]) (fun v11 h =>
  run P (X.un .not v11) (fun v12 h =>
  when (gw v12 false) (run P (X.move (f 0))) (fun v14 h =>
  when (gw v12 false) (run P (X.move (f 2))) (fun v15 h =>
  when (gw v12 false) (run P (X.callF 41 [v14, v15])) (fun v16 h =>
  when (gw v12 false) (run P (X.un .not v16)) (fun v17 h =>
  run P (X.pick v12 (Value.bool true) v17) (fun v18 h =>
  br v18 (
    Q .ret (U f [(6, (Value.slice none 0 0)), (7, (Value.int .i64 0)), (9, (f 0)), (10, (f 1)), (11, v11), (12, v12), (13, v12), (14, v14), (15, v15), (16, v16), (17, v17), (18, v18), (6, (Value.slice none 0 0)), (7, (Value.int .i64 140))]) h
  ) (
    run P (X.callF 33 [(f 0)]) (fun v22 h =>
    run P (X.buildSlice 22 1 [(0, (f 2))]) (fun v24 h =>
    run P (X.callF 53 [v22, v24, (Value.int .u64 0)]) (fun v25 h =>
    run P (X.callF 54 [(f 0), (f 1), v25]) (fun v26 h =>
    run P (X.bin .eql 22 false true v26 (Value.slice none 0 0)) (fun v28 h =>
    br v28 (
      Q .ret (U f [(6, (Value.slice none 0 0)), (7, (Value.int .i64 0)), (9, (f 0)), (10, (f 1)), (11, v11), (12, v12), (13, v12), (14, v14), (15, v15), (16, v16), (17, v17), (18, v18), (19, (f 0)), (20, (f 1)), (21, (f 0)), (22, v22), (23, (f 2)), (24, v24), (25, v25), (26, v26), (8, v26), (27, v26), (28, v28), (6, (Value.slice none 0 0)), (7, (Value.int .i64 142))]) h
    ) (
      Q .ret (U f [(6, (Value.slice none 0 0)), (7, (Value.int .i64 0)), (9, (f 0)), (10, (f 1)), (11, v11), (12, v12), (13, v12), (14, v14), (15, v15), (16, v16), (17, v17), (18, v18), (19, (f 0)), (20, (f 1)), (21, (f 0)), (22, v22), (23, (f 2)), (24, v24), (25, v25), (26, v26), (8, v26), (27, v26), (28, v28), (29, v26), (6, v26), (7, (Value.int .i64 0))]) h
    )
    ) h
    ) h
    ) h
    ) h
    ) h
  )
  ) h
  ) h
  ) h
  ) h
  ) h
  ) h
  ) h
theorem path0_code : path0_c0 = hcode P path0_md (Try.f26.body.getD .skip) := by kernel_rfl
theorem path0_ok {a0 a1 a2 : Value} {h : Heap} {R : Value → Heap → Prop} (hh : path0_c0 (post [.tmp 6, .tmp 7] R) (frame0 #[a0, a1, a2]) h) : HCalls P 26 #[a0, a1, a2] h R :=
  hcalls_gen (md := path0_md) follows Try.func26 path0_code (by kernel_rfl) (by kernel_rfl) (by kernel_rfl) (by kernel_rfl) (by kernel_rfl) hh

/-- (*tenon/graph.Graph).turned: parameters [a0]; results [.tmp 2]; slots [0:g, 1:g, 3:r, 4:_, 5:n, 6:_, 7:t]; draws [8] -/
def turned_md : Nat → RM := fun i => if i = 8 then RM.mixed [(0, 0), (1, 0), (2, 0), (3, 3), (4, 0), (5, 0), (6, 0), (7, 0), (8, 3), (9, 0), (10, 3), (11, 0), (12, 4), (13, 4), (14, 2)] else RM.quiet
def turned_c1 (Q : Exit → F → Heap → Prop) (f : F) (h : Heap) : Prop :=
  run P (X.callF 42 [(f 3)]) (fun v50 h =>
  Q .ret (U f [(49, (f 3)), (50, v50), (2, v50)]) h
  ) h

def turned_c3 (Q : Exit → F → Heap → Prop) (f : F) (h : Heap) : Prop :=
  run P (X.bin .add 3 false true (f 18) (Value.int .i64 1)) (fun v48 h =>
  Q .normal (U f [(48, v48), (18, v48)]) h
  ) h

def turned_L4 (Q : Exit → F → Heap → Prop) (f : F) (h : Heap) : Prop :=
  run P (X.bin .lss 3 false false (f 29) (f 28)) (fun v30 h =>
  br v30 (
    run P (X.indexAddr 22 (f 27) (f 29)) (fun v31 h =>
    run P (X.load 41 v31) (fun v32 h =>
    ∃ St : Heap → Prop,
    tf P (X.move (f 3)) (fun v33 =>
    tf P (X.nilCheck v33) (fun v34 =>
    tf P (X.fieldAddr 75 v34 1) (fun v35 =>
    tk P St (X.load 72 v35) (fun v36 =>
    tf P (X.move v32) (fun v37 =>
    tf P (X.move (f 3)) (fun v38 =>
    tf P (X.nilCheck v38) (fun v39 =>
    tf P (X.fieldAddr 75 v39 1) (fun v40 =>
    tk P St (X.load 72 v40) (fun v41 =>
    tf P (X.move v32) (fun v42 =>
    tk P St (X.lookup 72 v41 v42 false) (fun v43 =>
    tf P (X.move (f 5)) (fun v44 =>
    run P (X.buildSlice 22 1 [(0, v44)]) (fun v45 h => St h ∧ (
    run P (X.builtin .append #[22, 22] 22 [false, false] [v43, v45]) (fun v46 h => St h ∧ (
    run P (X.mapUpdate 72 v36 v37 v46) (fun _ h =>
    run P (X.bin .add 3 false true (f 29) (Value.int .i64 1)) (fun v47 h =>
    Q .normal (U f [(30, v30), (31, v31), (32, v32), (7, v32), (33, v33), (34, v34), (35, v35), (36, v36), (37, v37), (38, v38), (39, v39), (40, v40), (41, v41), (42, v42), (43, v43), (44, v44), (45, v45), (46, v46), (47, v47), (29, v47)]) h
    ) h
    ) h
    )) h
    )) h
    )
    ) h
    )
    ) h
    )
    )
    )
    )
    ) h
    )
    )
    )
    ) h
    ) h
  ) (
    Q (.exit 2) (U f [(30, v30)]) h
  )
  ) h

def turned_L2 (Q : Exit → F → Heap → Prop) (f : F) (h : Heap) : Prop :=
  run P (X.bin .lss 3 false false (f 18) (f 17)) (fun v19 h =>
  br v19 (
    run P (X.indexAddr 22 (f 16) (f 18)) (fun v20 h =>
    run P (X.load 41 v20) (fun v21 h =>
    run P (X.nilCheck (f 0)) (fun v23 h =>
    run P (X.fieldAddr 75 v23 1) (fun v24 h =>
    run P (X.load 72 v24) (fun v25 h =>
    run P (X.lookup 72 v25 v21 false) (fun v27 h =>
    run P (X.builtin .len #[22] 3 [false] [v27]) (fun v28 h =>
    lp turned_L4 (inB 2 (inB 1 (thenQ (turned_c3 Q) Q))) (U f [(19, v19), (20, v20), (21, v21), (5, v21), (22, (f 0)), (23, v23), (24, v24), (25, v25), (26, v21), (27, v27), (28, v28), (29, (Value.int .i64 0))]) h
    ) h
    ) h
    ) h
    ) h
    ) h
    ) h
    ) h
  ) (
    Q (.exit 0) (U f [(19, v19)]) h
  )
  ) h

def turned_c0 (Q : Exit → F → Heap → Prop) (f : F) (h : Heap) : Prop :=
  run P (X.nilCheck (f 0)) (fun v9 h =>
  run P (X.fieldAddr 75 v9 0) (fun v10 h =>
  run P (X.load 22 v10) (fun v11 h =>
  run P (X.callF 40 [v11]) (fun v12 h =>
  run P (X.nilCheck (f 0)) (fun v14 h =>
  run P (X.fieldAddr 75 v14 0) (fun v15 h =>
  run P (X.load 22 v15) (fun v16 h =>
  run P (X.builtin .len #[22] 3 [false] [v16]) (fun v17 h =>
  lp turned_L2 (inB 0 (thenQ (turned_c1 Q) Q)) (U f [(2, (Value.pointer none)), (8, (f 0)), (9, v9), (10, v10), (11, v11), (12, v12), (3, v12), (13, (f 0)), (14, v14), (15, v15), (16, v16), (17, v17), (18, (Value.int .i64 0))]) h
  ) h
  ) h
  ) h
  ) h
  ) h
  ) h
  ) h
  ) h
theorem turned_code : turned_c0 = hcode P turned_md (Try.f33.body.getD .skip) := by kernel_rfl
theorem turned_ok {a0 : Value} {h : Heap} {R : Value → Heap → Prop} (hh : turned_c0 (post [.tmp 2] R) (frame0 #[a0]) h) : HCalls P 33 #[a0] h R :=
  hcalls_gen (md := turned_md) follows Try.func33 turned_code (by kernel_rfl) (by kernel_rfl) (by kernel_rfl) (by kernel_rfl) (by kernel_rfl) hh

/-- (*tenon/graph.Graph).Turned: parameters [a0]; results [.tmp 2]; slots [0:g, 1:g]; draws [] -/
def turned0_md : Nat → RM := fun _ => RM.quiet
def turned0_c0 (Q : Exit → F → Heap → Prop) (f : F) (h : Heap) : Prop :=
  run P (X.callF 33 [(f 0)]) (fun v4 h =>
  Q .ret (U f [(2, (Value.pointer none)), (3, (f 0)), (4, v4), (2, v4)]) h
  ) h
theorem turned0_code : turned0_c0 = hcode P turned0_md (Try.f10.body.getD .skip) := by kernel_rfl
theorem turned0_ok {a0 : Value} {h : Heap} {R : Value → Heap → Prop} (hh : turned0_c0 (post [.tmp 2] R) (frame0 #[a0]) h) : HCalls P 10 #[a0] h R :=
  hcalls_gen (md := turned0_md) follows Try.func10 turned0_code (by kernel_rfl) (by kernel_rfl) (by kernel_rfl) (by kernel_rfl) (by kernel_rfl) hh

/-- (*tenon/graph.Graph).Nodes: parameters [a0]; results [.tmp 2]; slots [0:g, 1:g]; draws [] -/
def nodes_md : Nat → RM := fun _ => RM.quiet
def nodes_c0 (Q : Exit → F → Heap → Prop) (f : F) (h : Heap) : Prop :=
  run P (X.nilCheck (f 0)) (fun v4 h =>
  run P (X.fieldAddr 75 v4 0) (fun v5 h =>
  run P (X.load 22 v5) (fun v6 h =>
  run P (X.callF 69 [v6]) (fun v7 h =>
  Q .ret (U f [(2, (Value.slice none 0 0)), (3, (f 0)), (4, v4), (5, v5), (6, v6), (7, v7), (2, v7)]) h
  ) h
  ) h
  ) h
  ) h
theorem nodes_code : nodes_c0 = hcode P nodes_md (Try.f37.body.getD .skip) := by kernel_rfl
theorem nodes_ok {a0 : Value} {h : Heap} {R : Value → Heap → Prop} (hh : nodes_c0 (post [.tmp 2] R) (frame0 #[a0]) h) : HCalls P 37 #[a0] h R :=
  hcalls_gen (md := nodes_md) follows Try.func37 nodes_code (by kernel_rfl) (by kernel_rfl) (by kernel_rfl) (by kernel_rfl) (by kernel_rfl) hh

/-- tenon/graph.empty: parameters [a0]; results [.tmp 2]; slots [0:nodes, 1:nodes, 3:g, 4:_, 5:n]; draws [] -/
def empty_md : Nat → RM := fun _ => RM.quiet
def empty_c1 (Q : Exit → F → Heap → Prop) (f : F) (h : Heap) : Prop :=
  Q .ret (U f [(26, (f 3)), (2, (f 3))]) h

def empty_L2 (Q : Exit → F → Heap → Prop) (f : F) (h : Heap) : Prop :=
  run P (X.bin .lss 3 false false (f 15) (f 14)) (fun v16 h =>
  br v16 (
    run P (X.indexAddr 22 (f 13) (f 15)) (fun v17 h =>
    run P (X.load 41 v17) (fun v18 h =>
    run P (X.nilCheck (f 3)) (fun v20 h =>
    run P (X.fieldAddr 75 v20 2) (fun v21 h =>
    run P (X.load 73 v21) (fun v22 h =>
    run P (X.build 107 []) (fun v24 h =>
    run P (X.mapUpdate 73 v22 v18 v24) (fun _ h =>
    run P (X.bin .add 3 false true (f 15) (Value.int .i64 1)) (fun v25 h =>
    Q .normal (U f [(16, v16), (17, v17), (18, v18), (5, v18), (19, (f 3)), (20, v20), (21, v21), (22, v22), (23, v18), (24, v24), (25, v25), (15, v25)]) h
    ) h
    ) h
    ) h
    ) h
    ) h
    ) h
    ) h
    ) h
  ) (
    Q (.exit 0) (U f [(16, v16)]) h
  )
  ) h

def empty_c0 (Q : Exit → F → Heap → Prop) (f : F) (h : Heap) : Prop :=
  run P (X.callF 71 [(f 0)]) (fun v7 h =>
  run P (X.callF 70 [v7]) (fun v8 h =>
  run P (X.mkMap 72 none) (fun v9 h =>
  run P (X.mkMap 73 none) (fun v10 h =>
  run P (X.build 75 [(0, v8), (1, v9), (2, v10)]) (fun v11 h =>
  run P (X.box 75 v11) (fun v12 h =>
  run P (X.builtin .len #[22] 3 [false] [(f 0)]) (fun v14 h =>
  lp empty_L2 (inB 0 (thenQ (empty_c1 Q) Q)) (U f [(2, (Value.pointer none)), (6, (f 0)), (7, v7), (8, v8), (9, v9), (10, v10), (11, v11), (12, v12), (3, v12), (13, (f 0)), (14, v14), (15, (Value.int .i64 0))]) h
  ) h
  ) h
  ) h
  ) h
  ) h
  ) h
  ) h
theorem empty_code : empty_c0 = hcode P empty_md (Try.f40.body.getD .skip) := by kernel_rfl
theorem empty_ok {a0 : Value} {h : Heap} {R : Value → Heap → Prop} (hh : empty_c0 (post [.tmp 2] R) (frame0 #[a0]) h) : HCalls P 40 #[a0] h R :=
  hcalls_gen (md := empty_md) follows Try.func40 empty_code (by kernel_rfl) (by kernel_rfl) (by kernel_rfl) (by kernel_rfl) (by kernel_rfl) hh

/-- (*tenon/graph.Graph).there: parameters [a0, a1]; results [.tmp 4]; slots [0:g, 1:n, 2:g, 3:n, 5:_, 6:ok]; draws [] -/
def there_md : Nat → RM := fun _ => RM.quiet
def there_c0 (Q : Exit → F → Heap → Prop) (f : F) (h : Heap) : Prop :=
  run P (X.nilCheck (f 0)) (fun v9 h =>
  run P (X.fieldAddr 75 v9 2) (fun v10 h =>
  run P (X.load 73 v10) (fun v11 h =>
  run P (X.lookup 73 v11 (f 1) true) (fun v13 h =>
  run P (X.extract v13 0) (fun v14 h =>
  run P (X.extract v13 1) (fun v15 h =>
  run P (X.alloc 107) (fun v5 h =>
  run P (X.store 107 v5 v14) (fun _ h =>
  Q .ret (U f [(4, (Value.bool false)), (8, (f 0)), (9, v9), (10, v10), (11, v11), (12, (f 1)), (13, v13), (7, v13), (14, v14), (15, v15), (5, v5), (6, v15), (16, v15), (4, v15)]) h
  ) h
  ) h
  ) h
  ) h
  ) h
  ) h
  ) h
  ) h
theorem there_code : there_c0 = hcode P there_md (Try.f41.body.getD .skip) := by kernel_rfl
theorem there_ok {a0 a1 : Value} {h : Heap} {R : Value → Heap → Prop} (hh : there_c0 (post [.tmp 4] R) (frame0 #[a0, a1]) h) : HCalls P 41 #[a0, a1] h R :=
  hcalls_gen (md := there_md) follows Try.func41 there_code (by kernel_rfl) (by kernel_rfl) (by kernel_rfl) (by kernel_rfl) (by kernel_rfl) hh

/-- (*tenon/graph.Graph).rises: parameters [a0]; results [.tmp 2]; slots [0:g, 1:g, 3:n, 4:l]; draws [5] -/
def rises_md : Nat → RM := fun i => if i = 5 then RM.mixed [(0, 0), (1, 0), (2, 0), (3, 3), (4, 0), (5, 1), (6, 4), (7, 2)] else RM.quiet
def rises_c1 (Q : Exit → F → Heap → Prop) (f : F) (h : Heap) : Prop :=
  Q .ret (U f [(24, (f 0)), (2, (f 0))]) h

def rises_L2 (Q : Exit → F → Heap → Prop) (f : F) (h : Heap) : Prop :=
  run P (X.next (f 9) false 0) (fun v10 h =>
  run P (X.extract v10 0) (fun v11 h =>
  br v11 (
    run P (X.entry (f 9)) (fun v12 h =>
    run P (X.extract v12 0) (fun v13 h =>
    run P (X.extract v12 1) (fun v14 h =>
    run P (X.callF 47 [v14]) (fun v16 h =>
    ∃ St : Heap → Prop,
    tf P (X.move (f 0)) (fun v17 =>
    tf P (X.nilCheck v17) (fun v18 =>
    tf P (X.fieldAddr 75 v18 1) (fun v19 =>
    tk P St (X.load 72 v19) (fun v20 =>
    tf P (X.move v13) (fun v21 =>
    headq P (X.move v14) (fun v22 =>
    run P (X.callF 72 [v22]) (fun v23 h => St h ∧ (
    run P (X.mapUpdate 72 v20 v21 v23) (fun _ h =>
    Q .normal (U f [(10, v10), (11, v11), (12, v12), (13, v13), (14, v14), (3, v13), (4, v14), (15, v14), (16, v16), (17, v17), (18, v18), (19, v19), (20, v20), (21, v21), (22, v22), (23, v23)]) h
    ) h
    )) h
    ) h
    )
    ) h
    )
    )
    )
    ) h
    ) h
    ) h
    ) h
  ) (
    Q (.exit 0) (U f [(10, v10), (11, v11)]) h
  )
  ) h
  ) h

def rises_c0 (Q : Exit → F → Heap → Prop) (f : F) (h : Heap) : Prop :=
  run P (X.nilCheck (f 0)) (fun v6 h =>
  run P (X.fieldAddr 75 v6 1) (fun v7 h =>
  run P (X.load 72 v7) (fun v8 h =>
  run P (X.range 72 v8) (fun v9 h =>
  lp rises_L2 (inB 0 (thenQ (rises_c1 Q) Q)) (U f [(2, (Value.pointer none)), (5, (f 0)), (6, v6), (7, v7), (8, v8), (9, v9)]) h
  ) h
  ) h
  ) h
  ) h
theorem rises_code : rises_c0 = hcode P rises_md (Try.f42.body.getD .skip) := by kernel_rfl
theorem rises_ok {a0 : Value} {h : Heap} {R : Value → Heap → Prop} (hh : rises_c0 (post [.tmp 2] R) (frame0 #[a0]) h) : HCalls P 42 #[a0] h R :=
  hcalls_gen (md := rises_md) follows Try.func42 rises_code (by kernel_rfl) (by kernel_rfl) (by kernel_rfl) (by kernel_rfl) (by kernel_rfl) hh

/-- (*tenon/graph.Graph).deep: parameters [a0, a1, a2, a3]; results []; slots [0:g, 1:from, 2:entered, 3:leave, 4:g, 5:from, 6:entered, 7:leave, 8:_, 9:n]; draws [] -/
def deep_md : Nat → RM := fun _ => RM.quiet
def deep_c2 (Q : Exit → F → Heap → Prop) (f : F) (h : Heap) : Prop :=
  run P (X.bin .add 3 false true (f 12) (Value.int .i64 1)) (fun v35 h =>
  Q .normal (U f [(35, v35), (12, v35)]) h
  ) h

def deep_L1 (Q : Exit → F → Heap → Prop) (f : F) (h : Heap) : Prop :=
  run P (X.bin .lss 3 false false (f 12) (f 11)) (fun v13 h =>
  br v13 (
    run P (X.indexAddr 22 (f 10) (f 12)) (fun v14 h =>
    run P (X.load 41 v14) (fun v15 h =>
    run P (X.lookup 76 (f 2) v15 false) (fun v18 h =>
    run P (X.un .not v18) (fun v19 h =>
    br v19 (
      run P (X.mapUpdate 76 (f 2) v15 (Value.bool true)) (fun _ h =>
      run P (X.nilCheck (f 0)) (fun v24 h =>
      run P (X.fieldAddr 75 v24 1) (fun v25 h =>
      run P (X.load 72 v25) (fun v26 h =>
      run P (X.lookup 72 v26 v15 false) (fun v28 h =>
      run P (X.callF 43 [(f 0), v28, (f 2), (f 3)]) (fun v31 h =>
      run P (X.dyn (f 3) [v15]) (fun v34 h =>
      deep_c2 Q (U f [(13, v13), (14, v14), (15, v15), (9, v15), (16, (f 2)), (17, v15), (18, v18), (19, v19), (20, (f 2)), (21, v15), (22, (f 0)), (23, (f 0)), (24, v24), (25, v25), (26, v26), (27, v15), (28, v28), (29, (f 2)), (30, (f 3)), (31, v31), (32, (f 3)), (33, v15), (34, v34)]) h
      ) h
      ) h
      ) h
      ) h
      ) h
      ) h
      ) h
    ) (
      deep_c2 Q (U f [(13, v13), (14, v14), (15, v15), (9, v15), (16, (f 2)), (17, v15), (18, v18), (19, v19)]) h
    )
    ) h
    ) h
    ) h
    ) h
  ) (
    Q (.exit 0) (U f [(13, v13)]) h
  )
  ) h

def deep_c0 (Q : Exit → F → Heap → Prop) (f : F) (h : Heap) : Prop :=
  run P (X.builtin .len #[22] 3 [false] [(f 1)]) (fun v11 h =>
  lp deep_L1 (inB 0 Q) (U f [(10, (f 1)), (11, v11), (12, (Value.int .i64 0))]) h
  ) h
theorem deep_code : deep_c0 = hcode P deep_md (Try.f43.body.getD .skip) := by kernel_rfl
theorem deep_ok {a0 a1 a2 a3 : Value} {h : Heap} {R : Value → Heap → Prop} (hh : deep_c0 (post [] R) (frame0 #[a0, a1, a2, a3]) h) : HCalls P 43 #[a0, a1, a2, a3] h R :=
  hcalls_gen (md := deep_md) follows Try.func43 deep_code (by kernel_rfl) (by kernel_rfl) (by kernel_rfl) (by kernel_rfl) (by kernel_rfl) hh

/-- (*tenon/graph.Graph).far: parameters [a0, a1, a2]; results [.tmp 6]; slots [0:g, 1:from, 2:without, 3:g, 4:from, 5:without, 7:d, 8:l, 9:_, 10:n, 11:_, 12:ok, 13:i, 14:_, 15:t, 16:_, 17:ok]; draws [14] -/
def far_md : Nat → RM := fun _ => RM.quiet
def far_c2 (Q : Exit → F → Heap → Prop) (f : F) (h : Heap) : Prop :=
  Q .ret (U f [(92, (f 7)), (6, (f 7))]) h

def far_c4 (Q : Exit → F → Heap → Prop) (f : F) (h : Heap) : Prop :=
  run P (X.bin .add 3 false true (f 13) (Value.int .i64 1)) (fun v50 h =>
  Q .normal (U f [(49, (f 13)), (50, v50), (13, v50)]) h
  ) h

def far_c6 (Q : Exit → F → Heap → Prop) (f : F) (h : Heap) : Prop :=
  run P (X.bin .add 3 false true (f 61) (Value.int .i64 1)) (fun v91 h =>
  Q .normal (U f [(91, v91), (61, v91)]) h
  ) h

def far_L5 (Q : Exit → F → Heap → Prop) (f : F) (h : Heap) : Prop :=
  run P (X.bin .lss 3 false false (f 61) (f 60)) (fun v62 h =>
  br v62 (
    run P (X.indexAddr 22 (f 59) (f 61)) (fun v63 h =>
    run P (X.load 41 v63) (fun v64 h =>
    run P (X.lookup 86 (f 7) v64 true) (fun v68 h =>
    run P (X.extract v68 0) (fun v69 h =>
    run P (X.extract v68 1) (fun v70 h =>
    run P (X.un .not v70) (fun v72 h =>
    when (gw v72 true) (run P (X.move v64)) (fun v74 h =>
    when (gw v72 true) (run P (X.move (f 2))) (fun v75 h =>
    when (gw v72 true) (run P (X.bin .neq 41 false false v74 v75)) (fun v76 h =>
    run P (X.pick v72 v76 (Value.bool false)) (fun v77 h =>
    br v77 (
      run P (X.indexAddr 22 (f 8) (f 13)) (fun v83 h =>
      run P (X.load 41 v83) (fun v84 h =>
      run P (X.lookup 86 (f 7) v84 false) (fun v85 h =>
      run P (X.bin .add 3 false true v85 (Value.int .i64 1)) (fun v86 h =>
      run P (X.mapUpdate 86 (f 7) v64 v86) (fun _ h =>
      run P (X.buildSlice 22 1 [(0, v64)]) (fun v89 h =>
      run P (X.builtin .append #[22, 22] 22 [false, false] [(f 8), v89]) (fun v90 h =>
      far_c6 Q (U f [(62, v62), (63, v63), (64, v64), (15, v64), (66, (f 7)), (67, v64), (68, v68), (65, v68), (69, v69), (70, v70), (16, v69), (17, v70), (71, v70), (72, v72), (73, v72), (74, v74), (75, v75), (76, v76), (77, v77), (78, (f 7)), (79, v64), (80, (f 7)), (81, (f 8)), (82, (f 13)), (83, v83), (84, v84), (85, v85), (86, v86), (87, (f 8)), (88, v64), (89, v89), (90, v90), (8, v90)]) h
      ) h
      ) h
      ) h
      ) h
      ) h
      ) h
      ) h
    ) (
      far_c6 Q (U f [(62, v62), (63, v63), (64, v64), (15, v64), (66, (f 7)), (67, v64), (68, v68), (65, v68), (69, v69), (70, v70), (16, v69), (17, v70), (71, v70), (72, v72), (73, v72), (74, v74), (75, v75), (76, v76), (77, v77)]) h
    )
    ) h
    ) h
    ) h
    ) h
    ) h
    ) h
    ) h
    ) h
    ) h
    ) h
  ) (
    Q (.exit 4) (U f [(62, v62)]) h
  )
  ) h

def far_L3 (Q : Exit → F → Heap → Prop) (f : F) (h : Heap) : Prop :=
  run P (X.builtin .len #[22] 3 [false] [(f 8)]) (fun v47 h =>
  run P (X.bin .lss 3 false false (f 13) v47) (fun v48 h =>
  br v48 (
    still P (X.move (f 0)) (fun v51 =>
    still P (X.nilCheck v51) (fun v52 =>
    still P (X.fieldAddr 75 v52 1) (fun v53 =>
    still P (X.load 72 v53) (fun v54 =>
    still P (X.move (f 8)) (fun v55 =>
    still P (X.move (f 13)) (fun v56 =>
    still P (X.indexAddr 22 v55 v56) (fun v57 =>
    still P (X.load 41 v57) (fun v58 =>
    still P (X.lookup 72 v54 v58 false) (fun v59 =>
    still P (X.builtin .len #[22] 3 [false] [v59]) (fun v60 =>
    still P (X.move (Value.int .i64 0)) (fun v61 =>
    lp far_L5 (inB 4 (inB 3 (thenQ (far_c4 Q) Q))) (U f [(45, (f 13)), (46, (f 8)), (47, v47), (48, v48), (51, v51), (52, v52), (53, v53), (54, v54), (55, v55), (56, v56), (57, v57), (58, v58), (59, v59), (60, v60), (61, v61)]) h
    ) h
    ) h
    ) h
    ) h
    ) h
    ) h
    ) h
    ) h
    ) h
    ) h
    ) h
  ) (
    Q (.exit 2) (U f [(45, (f 13)), (46, (f 8)), (47, v47), (48, v48)]) h
  )
  ) h
  ) h

def far_c1 (Q : Exit → F → Heap → Prop) (f : F) (h : Heap) : Prop :=
  lp far_L3 (inB 2 (thenQ (far_c2 Q) Q)) (U f [(13, (Value.int .i64 0))]) h

def far_c8 (Q : Exit → F → Heap → Prop) (f : F) (h : Heap) : Prop :=
  run P (X.bin .add 3 false true (f 21) (Value.int .i64 1)) (fun v44 h =>
  Q .normal (U f [(44, v44), (21, v44)]) h
  ) h

def far_L7 (Q : Exit → F → Heap → Prop) (f : F) (h : Heap) : Prop :=
  run P (X.bin .lss 3 false false (f 21) (f 20)) (fun v22 h =>
  br v22 (
    run P (X.indexAddr 22 (f 19) (f 21)) (fun v23 h =>
    run P (X.load 41 v23) (fun v24 h =>
    run P (X.lookup 86 (f 7) v24 true) (fun v28 h =>
    run P (X.extract v28 0) (fun v29 h =>
    run P (X.extract v28 1) (fun v30 h =>
    run P (X.un .not v30) (fun v32 h =>
    when (gw v32 true) (run P (X.move v24)) (fun v34 h =>
    when (gw v32 true) (run P (X.move (f 2))) (fun v35 h =>
    when (gw v32 true) (run P (X.bin .neq 41 false false v34 v35)) (fun v36 h =>
    run P (X.pick v32 v36 (Value.bool false)) (fun v37 h =>
    br v37 (
      run P (X.mapUpdate 86 (f 7) v24 (Value.int .i64 0)) (fun _ h =>
      run P (X.buildSlice 22 1 [(0, v24)]) (fun v42 h =>
      run P (X.builtin .append #[22, 22] 22 [false, false] [(f 8), v42]) (fun v43 h =>
      far_c8 Q (U f [(22, v22), (23, v23), (24, v24), (10, v24), (26, (f 7)), (27, v24), (28, v28), (25, v28), (29, v29), (30, v30), (11, v29), (12, v30), (31, v30), (32, v32), (33, v32), (34, v34), (35, v35), (36, v36), (37, v37), (38, (f 7)), (39, v24), (40, (f 8)), (41, v24), (42, v42), (43, v43), (8, v43)]) h
      ) h
      ) h
      ) h
    ) (
      far_c8 Q (U f [(22, v22), (23, v23), (24, v24), (10, v24), (26, (f 7)), (27, v24), (28, v28), (25, v28), (29, v29), (30, v30), (11, v29), (12, v30), (31, v30), (32, v32), (33, v32), (34, v34), (35, v35), (36, v36), (37, v37)]) h
    )
    ) h
    ) h
    ) h
    ) h
    ) h
    ) h
    ) h
    ) h
    ) h
    ) h
  ) (
    Q (.exit 0) (U f [(22, v22)]) h
  )
  ) h

def far_c0 (Q : Exit → F → Heap → Prop) (f : F) (h : Heap) : Prop :=
  run P (X.mkMap 86 none) (fun v18 h =>
  run P (X.builtin .len #[22] 3 [false] [(f 1)]) (fun v20 h =>
  lp far_L7 (inB 0 (thenQ (far_c1 Q) Q)) (U f [(6, (Value.map none)), (18, v18), (7, v18), (8, (Value.slice none 0 0)), (19, (f 1)), (20, v20), (21, (Value.int .i64 0))]) h
  ) h
  ) h
theorem far_code : far_c0 = hcode P far_md (Try.f53.body.getD .skip) := by kernel_rfl
theorem far_ok {a0 a1 a2 : Value} {h : Heap} {R : Value → Heap → Prop} (hh : far_c0 (post [.tmp 6] R) (frame0 #[a0, a1, a2]) h) : HCalls P 53 #[a0, a1, a2] h R :=
  hcalls_gen (md := far_md) follows Try.func53 far_code (by kernel_rfl) (by kernel_rfl) (by kernel_rfl) (by kernel_rfl) (by kernel_rfl) hh

/-- (*tenon/graph.Graph).path: parameters [a0, a1, a2]; results [.tmp 6]; slots [0:g, 1:from, 2:far, 3:g, 4:from, 5:far, 7:left, 8:ok, 9:l, 10:at, 11:_, 12:t, 13:d, 14:ok]; draws [] -/
def path_md : Nat → RM := fun _ => RM.quiet
def path_c1 (Q : Exit → F → Heap → Prop) (f : F) (h : Heap) : Prop :=
  Q .ret (U f [(64, (f 9)), (6, (f 9))]) h

def path_c3 (Q : Exit → F → Heap → Prop) (f : F) (h : Heap) : Prop :=
  run P (X.bin .sub 3 false true (f 7) (Value.int .i64 1)) (fun v28 h =>
  Q .normal (U f [(27, (f 7)), (28, v28), (7, v28)]) h
  ) h

def path_L4 (Q : Exit → F → Heap → Prop) (f : F) (h : Heap) : Prop :=
  run P (X.bin .lss 3 false false (f 42) (f 41)) (fun v43 h =>
  br v43 (
    run P (X.indexAddr 22 (f 40) (f 42)) (fun v44 h =>
    run P (X.load 41 v44) (fun v45 h =>
    run P (X.lookup 86 (f 2) v45 true) (fun v49 h =>
    run P (X.extract v49 0) (fun v50 h =>
    run P (X.extract v49 1) (fun v51 h =>
    when (gw v51 true) (run P (X.move v50)) (fun v54 h =>
    when (gw v51 true) (run P (X.move (f 7))) (fun v55 h =>
    when (gw v51 true) (run P (X.bin .sub 3 false true v55 (Value.int .i64 1))) (fun v56 h =>
    when (gw v51 true) (run P (X.bin .eql 3 false false v54 v56)) (fun v57 h =>
    run P (X.pick v51 v57 (Value.bool false)) (fun v58 h =>
    br v58 (
      run P (X.buildSlice 22 1 [(0, v45)]) (fun v61 h =>
      run P (X.builtin .append #[22, 22] 22 [false, false] [(f 9), v61]) (fun v62 h =>
      Q (.exit 2) (U f [(43, v43), (44, v44), (45, v45), (12, v45), (47, (f 2)), (48, v45), (49, v49), (46, v49), (50, v50), (51, v51), (13, v50), (14, v51), (52, v51), (53, v51), (54, v54), (55, v55), (56, v56), (57, v57), (58, v58), (59, (f 9)), (60, v45), (61, v61), (62, v62), (9, v62)]) h
      ) h
      ) h
    ) (
      run P (X.bin .add 3 false true (f 42) (Value.int .i64 1)) (fun v63 h =>
      Q .normal (U f [(43, v43), (44, v44), (45, v45), (12, v45), (47, (f 2)), (48, v45), (49, v49), (46, v49), (50, v50), (51, v51), (13, v50), (14, v51), (52, v51), (53, v51), (54, v54), (55, v55), (56, v56), (57, v57), (58, v58), (63, v63), (42, v63)]) h
      ) h
    )
    ) h
    ) h
    ) h
    ) h
    ) h
    ) h
    ) h
    ) h
    ) h
    ) h
  ) (
    Q (.exit 2) (U f [(43, v43)]) h
  )
  ) h

def path_L2 (Q : Exit → F → Heap → Prop) (f : F) (h : Heap) : Prop :=
  run P (X.bin .gtr 3 false true (f 7) (Value.int .i64 0)) (fun v26 h =>
  br v26 (
    run P (X.builtin .len #[22] 3 [false] [(f 9)]) (fun v31 h =>
    run P (X.bin .sub 3 false true v31 (Value.int .i64 1)) (fun v32 h =>
    run P (X.indexAddr 22 (f 9) v32) (fun v33 h =>
    run P (X.load 41 v33) (fun v34 h =>
    run P (X.nilCheck (f 0)) (fun v36 h =>
    run P (X.fieldAddr 75 v36 1) (fun v37 h =>
    run P (X.load 72 v37) (fun v38 h =>
    run P (X.lookup 72 v38 v34 false) (fun v40 h =>
    run P (X.builtin .len #[22] 3 [false] [v40]) (fun v41 h =>
    lp path_L4 (inB 2 (inB 1 (thenQ (path_c3 Q) Q))) (U f [(25, (f 7)), (26, v26), (29, (f 9)), (30, (f 9)), (31, v31), (32, v32), (33, v33), (34, v34), (10, v34), (35, (f 0)), (36, v36), (37, v37), (38, v38), (39, v34), (40, v40), (41, v41), (42, (Value.int .i64 0))]) h
    ) h
    ) h
    ) h
    ) h
    ) h
    ) h
    ) h
    ) h
    ) h
  ) (
    Q (.exit 0) (U f [(25, (f 7)), (26, v26)]) h
  )
  ) h

def path_c0 (Q : Exit → F → Heap → Prop) (f : F) (h : Heap) : Prop :=
  run P (X.lookup 86 (f 2) (f 1) true) (fun v18 h =>
  run P (X.extract v18 0) (fun v19 h =>
  run P (X.extract v18 1) (fun v20 h =>
  run P (X.un .not v20) (fun v22 h =>
  br v22 (
    Q .ret (U f [(6, (Value.slice none 0 0)), (16, (f 2)), (17, (f 1)), (18, v18), (15, v18), (19, v19), (20, v20), (7, v19), (8, v20), (21, v20), (22, v22), (6, (Value.slice none 0 0))]) h
  ) (
    run P (X.buildSlice 22 1 [(0, (f 1))]) (fun v24 h =>
    lp path_L2 (inB 0 (thenQ (path_c1 Q) Q)) (U f [(6, (Value.slice none 0 0)), (16, (f 2)), (17, (f 1)), (18, v18), (15, v18), (19, v19), (20, v20), (7, v19), (8, v20), (21, v20), (22, v22), (23, (f 1)), (24, v24), (9, v24)]) h
    ) h
  )
  ) h
  ) h
  ) h
  ) h
theorem path_code : path_c0 = hcode P path_md (Try.f54.body.getD .skip) := by kernel_rfl
theorem path_ok {a0 a1 a2 : Value} {h : Heap} {R : Value → Heap → Prop} (hh : path_c0 (post [.tmp 6] R) (frame0 #[a0, a1, a2]) h) : HCalls P 54 #[a0, a1, a2] h R :=
  hcalls_gen (md := path_md) follows Try.func54 path_code (by kernel_rfl) (by kernel_rfl) (by kernel_rfl) (by kernel_rfl) (by kernel_rfl) hh

/-- (*tenon/graph.Graph).all: parameters [a0, a1]; results [.tmp 4]; slots [0:g, 1:l, 2:g, 3:l]; draws [] -/
def all_md : Nat → RM := fun _ => RM.quiet
def all_c0 (Q : Exit → F → Heap → Prop) (f : F) (h : Heap) : Prop :=
  run P (X.box 24 (f 0)) (fun v2 h =>
  run P (X.mkFunc (.func 83) [] [v2]) (fun v6 h =>
  run P (X.callF 82 [(f 1), v6]) (fun v7 h =>
  run P (X.un .not v7) (fun v8 h =>
  Q .ret (U f [(2, v2), (4, (Value.bool false)), (5, (f 1)), (6, v6), (7, v7), (8, v8), (4, v8)]) h
  ) h
  ) h
  ) h
  ) h
theorem all_code : all_c0 = hcode P all_md (Try.f56.body.getD .skip) := by kernel_rfl
theorem all_ok {a0 a1 : Value} {h : Heap} {R : Value → Heap → Prop} (hh : all_c0 (post [.tmp 4] R) (frame0 #[a0, a1]) h) : HCalls P 56 #[a0, a1] h R :=
  hcalls_gen (md := all_md) follows Try.func56 all_code (by kernel_rfl) (by kernel_rfl) (by kernel_rfl) (by kernel_rfl) (by kernel_rfl) hh

/-- tenon/graph.keys[int]: parameters [a0]; results [.tmp 2]; slots [0:m, 1:m, 3:l, 4:n]; draws [] -/
def keys_md : Nat → RM := fun _ => RM.quiet
def keys_c1 (Q : Exit → F → Heap → Prop) (f : F) (h : Heap) : Prop :=
  run P (X.callF 47 [(f 3)]) (fun v16 h =>
  Q .ret (U f [(15, (f 3)), (16, v16), (17, (f 3)), (2, (f 3))]) h
  ) h

def keys_L2 (Q : Exit → F → Heap → Prop) (f : F) (h : Heap) : Prop :=
  run P (X.next (f 6) false 0) (fun v7 h =>
  run P (X.extract v7 0) (fun v8 h =>
  br v8 (
    run P (X.entry (f 6)) (fun v9 h =>
    run P (X.extract v9 0) (fun v10 h =>
    run P (X.buildSlice 22 1 [(0, v10)]) (fun v13 h =>
    run P (X.builtin .append #[22, 22] 22 [false, false] [(f 3), v13]) (fun v14 h =>
    Q .normal (U f [(7, v7), (8, v8), (9, v9), (10, v10), (4, v10), (11, (f 3)), (12, v10), (13, v13), (14, v14), (3, v14)]) h
    ) h
    ) h
    ) h
    ) h
  ) (
    Q (.exit 0) (U f [(7, v7), (8, v8)]) h
  )
  ) h
  ) h

def keys_c0 (Q : Exit → F → Heap → Prop) (f : F) (h : Heap) : Prop :=
  run P (X.range 86 (f 0)) (fun v6 h =>
  lp keys_L2 (inB 0 (thenQ (keys_c1 Q) Q)) (U f [(2, (Value.slice none 0 0)), (3, (Value.slice none 0 0)), (5, (f 0)), (6, v6)]) h
  ) h
theorem keys_code : keys_c0 = hcode P keys_md (Try.f58.body.getD .skip) := by kernel_rfl
theorem keys_ok {a0 : Value} {h : Heap} {R : Value → Heap → Prop} (hh : keys_c0 (post [.tmp 2] R) (frame0 #[a0]) h) : HCalls P 58 #[a0] h R :=
  hcalls_gen (md := keys_md) follows Try.func58 keys_code (by kernel_rfl) (by kernel_rfl) (by kernel_rfl) (by kernel_rfl) (by kernel_rfl) hh

/-- (*tenon/graph.Graph).Keeps$1: parameters [a0, c0]; results [.tmp 3]; slots [0:n, 2:n, 4:_, 5:ok]; draws [] -/
def keepsf_md : Nat → RM := fun _ => RM.quiet
def keepsf_c0 (Q : Exit → F → Heap → Prop) (f : F) (h : Heap) : Prop :=
  run P (X.load 86 (f 1)) (fun v7 h =>
  run P (X.lookup 86 v7 (f 0) true) (fun v9 h =>
  run P (X.extract v9 0) (fun v10 h =>
  run P (X.extract v9 1) (fun v11 h =>
  Q .ret (U f [(3, (Value.bool false)), (7, v7), (8, (f 0)), (9, v9), (6, v9), (10, v10), (11, v11), (4, v10), (5, v11), (12, v11), (3, v11)]) h
  ) h
  ) h
  ) h
  ) h
theorem keepsf_code : keepsf_c0 = hcode P keepsf_md (Try.f59.body.getD .skip) := by kernel_rfl
theorem keepsf_ok {a0 c0 : Value} {h : Heap} {R : Value → Heap → Prop} (hh : keepsf_c0 (post [.tmp 3] R) (frame0 #[a0, c0]) h) : HCalls P 59 #[a0, c0] h R :=
  hcalls_gen (md := keepsf_md) follows Try.func59 keepsf_code (by kernel_rfl) (by kernel_rfl) (by kernel_rfl) (by kernel_rfl) (by kernel_rfl) hh

/-- (*tenon/graph.Graph).all$1: parameters [a0, c0]; results [.tmp 3]; slots [0:n, 2:n]; draws [] -/
def allf_md : Nat → RM := fun _ => RM.quiet
def allf_c0 (Q : Exit → F → Heap → Prop) (f : F) (h : Heap) : Prop :=
  run P (X.load 24 (f 1)) (fun v4 h =>
  run P (X.callF 41 [v4, (f 0)]) (fun v6 h =>
  run P (X.un .not v6) (fun v7 h =>
  Q .ret (U f [(3, (Value.bool false)), (4, v4), (5, (f 0)), (6, v6), (7, v7), (3, v7)]) h
  ) h
  ) h
  ) h
theorem allf_code : allf_c0 = hcode P allf_md (Try.f83.body.getD .skip) := by kernel_rfl
theorem allf_ok {a0 c0 : Value} {h : Heap} {R : Value → Heap → Prop} (hh : allf_c0 (post [.tmp 3] R) (frame0 #[a0, c0]) h) : HCalls P 83 #[a0, c0] h R :=
  hcalls_gen (md := allf_md) follows Try.func83 allf_code (by kernel_rfl) (by kernel_rfl) (by kernel_rfl) (by kernel_rfl) (by kernel_rfl) hh

/-- (*tenon/graph.Graph).Parts$1: parameters [a0, c0]; results []; slots [0:n, 2:n]; draws [] -/
def partsf1_md : Nat → RM := fun _ => RM.quiet
def partsf1_c0 (Q : Exit → F → Heap → Prop) (f : F) (h : Heap) : Prop :=
  run P (X.load 22 (f 1)) (fun v3 h =>
  run P (X.buildSlice 22 1 [(0, (f 0))]) (fun v5 h =>
  run P (X.builtin .append #[22, 22] 22 [false, false] [v3, v5]) (fun v6 h =>
  run P (X.store 22 (f 1) v6) (fun _ h =>
  Q .normal (U f [(3, v3), (4, (f 0)), (5, v5), (6, v6)]) h
  ) h
  ) h
  ) h
  ) h
theorem partsf1_code : partsf1_c0 = hcode P partsf1_md (Try.f44.body.getD .skip) := by kernel_rfl
theorem partsf1_ok {a0 c0 : Value} {h : Heap} {R : Value → Heap → Prop} (hh : partsf1_c0 (post [] R) (frame0 #[a0, c0]) h) : HCalls P 44 #[a0, c0] h R :=
  hcalls_gen (md := partsf1_md) follows Try.func44 partsf1_code (by kernel_rfl) (by kernel_rfl) (by kernel_rfl) (by kernel_rfl) (by kernel_rfl) hh

/-- (*tenon/graph.Graph).Parts$2: parameters [a0, c0]; results []; slots [0:x, 2:x]; draws [] -/
def partsf2_md : Nat → RM := fun _ => RM.quiet
def partsf2_c0 (Q : Exit → F → Heap → Prop) (f : F) (h : Heap) : Prop :=
  run P (X.load 22 (f 1)) (fun v3 h =>
  run P (X.buildSlice 22 1 [(0, (f 0))]) (fun v5 h =>
  run P (X.builtin .append #[22, 22] 22 [false, false] [v3, v5]) (fun v6 h =>
  run P (X.store 22 (f 1) v6) (fun _ h =>
  Q .normal (U f [(3, v3), (4, (f 0)), (5, v5), (6, v6)]) h
  ) h
  ) h
  ) h
  ) h
theorem partsf2_code : partsf2_c0 = hcode P partsf2_md (Try.f46.body.getD .skip) := by kernel_rfl
theorem partsf2_ok {a0 c0 : Value} {h : Heap} {R : Value → Heap → Prop} (hh : partsf2_c0 (post [] R) (frame0 #[a0, c0]) h) : HCalls P 46 #[a0, c0] h R :=
  hcalls_gen (md := partsf2_md) follows Try.func46 partsf2_code (by kernel_rfl) (by kernel_rfl) (by kernel_rfl) (by kernel_rfl) (by kernel_rfl) hh

/-- (*tenon/graph.Graph).Parts$3: parameters [a0, a1]; results [.tmp 4]; slots [0:a, 1:b, 2:a, 3:b]; draws [1] -/
def partsf3_md : Nat → RM := fun _ => RM.quiet
def partsf3_c0 (Q : Exit → F → Heap → Prop) (f : F) (h : Heap) : Prop :=
  still P (X.move (f 0)) (fun v5 =>
  still P (X.indexAddr 22 v5 (Value.int .i64 0)) (fun v6 =>
  still P (X.load 41 v6) (fun v7 =>
  still P (X.move (f 1)) (fun v8 =>
  still P (X.indexAddr 22 v8 (Value.int .i64 0)) (fun v9 =>
  still P (X.load 41 v9) (fun v10 =>
  still P (X.callF 50 [v7, v10]) (fun v11 =>
  still P (X.move v11) (fun v4 =>
  Q .ret (U f [(4, (Value.int .i64 0)), (5, v5), (6, v6), (7, v7), (8, v8), (9, v9), (10, v10), (11, v11), (4, v4)]) h
  ) h
  ) h
  ) h
  ) h
  ) h
  ) h
  ) h
  ) h
theorem partsf3_code : partsf3_c0 = hcode P partsf3_md (Try.f49.body.getD .skip) := by kernel_rfl
theorem partsf3_ok {a0 a1 : Value} {h : Heap} {R : Value → Heap → Prop} (hh : partsf3_c0 (post [.tmp 4] R) (frame0 #[a0, a1]) h) : HCalls P 49 #[a0, a1] h R :=
  hcalls_gen (md := partsf3_md) follows Try.func49 partsf3_code (by kernel_rfl) (by kernel_rfl) (by kernel_rfl) (by kernel_rfl) (by kernel_rfl) hh

end Go.Proofs.G
