import Derived.Test.YtadfdknlogceoaaKd
set_option linter.all false
open Go Go.Hv
set_option maxRecDepth 100000
namespace Go.Proofs.G
/-- slices.Backward[[]tenon/api.Ref,tenon/api.Ref]: parameters [a0]; results [.tmp 2]; slots [0:s, 1:s]; draws [] -/
def backward_md : Nat → RM := fun _ => RM.quiet
def backward_c0 (Q : Exit → F → Heap → Prop) (f : F) (h : Heap) : Prop :=
  run P (X.box 22 (f 0)) (fun v1 h =>
  run P (X.mkFunc (.func 73) [] [v1]) (fun v3 h =>
  Q .ret (U f [(1, v1), (2, Value.nilFunc), (3, v3), (2, v3)]) h
  ) h
  ) h
theorem backward_code : backward_c0 = hcode P backward_md (Try.f45.body.getD .skip) := by kernel_rfl
theorem backward_ok {a0 : Value} {h : Heap} {R : Value → Heap → Prop} (hh : backward_c0 (post [.tmp 2] R) (frame0 #[a0]) h) : HCalls P 45 #[a0] h R :=
  hcalls_gen (md := backward_md) follows Try.func45 backward_code (by kernel_rfl) (by kernel_rfl) (by kernel_rfl) (by kernel_rfl) (by kernel_rfl) hh

/-- slices.Sort[[]tenon/api.Ref,tenon/api.Ref]: parameters [a0]; results []; slots [0:x, 1:x, 2:n]; draws [] -/
def sort_md : Nat → RM := fun _ => RM.quiet
def sort_c0 (Q : Exit → F → Heap → Prop) (f : F) (h : Heap) : Prop :=
  run P (X.builtin .len #[22] 3 [false] [(f 0)]) (fun v4 h =>
  run P (X.conv 3 112 v4) (fun v8 h =>
  run P (X.callF 75 [v8]) (fun v9 h =>
  run P (X.callF 74 [(f 0), (Value.int .i64 0), v4, v9]) (fun v10 h =>
  Q .normal (U f [(3, (f 0)), (4, v4), (2, v4), (5, (f 0)), (6, v4), (7, v4), (8, v8), (9, v9), (10, v10)]) h
  ) h
  ) h
  ) h
  ) h
theorem sort_code : sort_c0 = hcode P sort_md (Try.f47.body.getD .skip) := by kernel_rfl
theorem sort_ok {a0 : Value} {h : Heap} {R : Value → Heap → Prop} (hh : sort_c0 (post [] R) (frame0 #[a0]) h) : HCalls P 47 #[a0] h R :=
  hcalls_gen (md := sort_md) follows Try.func47 sort_code (by kernel_rfl) (by kernel_rfl) (by kernel_rfl) (by kernel_rfl) (by kernel_rfl) hh

/-- slices.SortFunc[[][]tenon/api.Ref,[]tenon/api.Ref]: parameters [a0, a1]; results []; slots [0:x, 1:cmp, 2:x, 3:cmp, 4:n]; draws [] -/
def sortFunc_md : Nat → RM := fun _ => RM.quiet
def sortFunc_c0 (Q : Exit → F → Heap → Prop) (f : F) (h : Heap) : Prop :=
  run P (X.builtin .len #[36] 3 [false] [(f 0)]) (fun v6 h =>
  run P (X.conv 3 112 v6) (fun v10 h =>
  run P (X.callF 75 [v10]) (fun v11 h =>
  run P (X.callF 76 [(f 0), (Value.int .i64 0), v6, v11, (f 1)]) (fun v13 h =>
  Q .normal (U f [(5, (f 0)), (6, v6), (4, v6), (7, (f 0)), (8, v6), (9, v6), (10, v10), (11, v11), (12, (f 1)), (13, v13)]) h
  ) h
  ) h
  ) h
  ) h
theorem sortFunc_code : sortFunc_c0 = hcode P sortFunc_md (Try.f48.body.getD .skip) := by kernel_rfl
theorem sortFunc_ok {a0 a1 : Value} {h : Heap} {R : Value → Heap → Prop} (hh : sortFunc_c0 (post [] R) (frame0 #[a0, a1]) h) : HCalls P 48 #[a0, a1] h R :=
  hcalls_gen (md := sortFunc_md) follows Try.func48 sortFunc_code (by kernel_rfl) (by kernel_rfl) (by kernel_rfl) (by kernel_rfl) (by kernel_rfl) hh

/-- cmp.Compare[tenon/api.Ref]: parameters [a0, a1]; results [.tmp 4]; slots [0:x, 1:y, 2:x, 3:y, 5:xNaN, 6:yNaN]; draws [] -/
def cmpCompare_md : Nat → RM := fun _ => RM.quiet
def cmpCompare_c0 (Q : Exit → F → Heap → Prop) (f : F) (h : Heap) : Prop :=
  run P (X.callF 77 [(f 0)]) (fun v8 h =>
  run P (X.callF 77 [(f 1)]) (fun v10 h =>
  br v8 (
    br v10 (
      Q .ret (U f [(4, (Value.int .i64 0)), (7, (f 0)), (8, v8), (5, v8), (9, (f 1)), (10, v10), (6, v10), (11, v8), (12, v10), (4, (Value.int .i64 0))]) h
    ) (
      Q .ret (U f [(4, (Value.int .i64 0)), (7, (f 0)), (8, v8), (5, v8), (9, (f 1)), (10, v10), (6, v10), (11, v8), (12, v10), (4, (Value.int .i64 (-1)))]) h
    )
  ) (
    br v10 (
      Q .ret (U f [(4, (Value.int .i64 0)), (7, (f 0)), (8, v8), (5, v8), (9, (f 1)), (10, v10), (6, v10), (11, v8), (13, v10), (4, (Value.int .i64 1))]) h
    ) (
      run P (X.bin .lss 41 false false (f 0) (f 1)) (fun v16 h =>
      br v16 (
        Q .ret (U f [(4, (Value.int .i64 0)), (7, (f 0)), (8, v8), (5, v8), (9, (f 1)), (10, v10), (6, v10), (11, v8), (13, v10), (14, (f 0)), (15, (f 1)), (16, v16), (4, (Value.int .i64 (-1)))]) h
      ) (
        run P (X.bin .gtr 41 false false (f 0) (f 1)) (fun v19 h =>
        br v19 (
          Q .ret (U f [(4, (Value.int .i64 0)), (7, (f 0)), (8, v8), (5, v8), (9, (f 1)), (10, v10), (6, v10), (11, v8), (13, v10), (14, (f 0)), (15, (f 1)), (16, v16), (17, (f 0)), (18, (f 1)), (19, v19), (4, (Value.int .i64 1))]) h
        ) (
          Q .ret (U f [(4, (Value.int .i64 0)), (7, (f 0)), (8, v8), (5, v8), (9, (f 1)), (10, v10), (6, v10), (11, v8), (13, v10), (14, (f 0)), (15, (f 1)), (16, v16), (17, (f 0)), (18, (f 1)), (19, v19), (4, (Value.int .i64 0))]) h
        )
        ) h
      )
      ) h
    )
  )
  ) h
  ) h
theorem cmpCompare_code : cmpCompare_c0 = hcode P cmpCompare_md (Try.f50.body.getD .skip) := by kernel_rfl
theorem cmpCompare_ok {a0 a1 : Value} {h : Heap} {R : Value → Heap → Prop} (hh : cmpCompare_c0 (post [.tmp 4] R) (frame0 #[a0, a1]) h) : HCalls P 50 #[a0, a1] h R :=
  hcalls_gen (md := cmpCompare_md) follows Try.func50 cmpCompare_code (by kernel_rfl) (by kernel_rfl) (by kernel_rfl) (by kernel_rfl) (by kernel_rfl) hh

/-- slices.BinarySearch[[]tenon/api.Ref,tenon/api.Ref]: parameters [a0, a1]; results [.tmp 4, .tmp 5]; slots [0:x, 1:target, 2:x, 3:target, 6:n, 7:i, 8:j, 9:h]; draws [] -/
def bsearch_md : Nat → RM := fun _ => RM.quiet
def bsearch_c1 (Q : Exit → F → Heap → Prop) (f : F) (h : Heap) : Prop :=
  run P (X.bin .lss 3 false false (f 7) (f 6)) (fun v34 h =>
  when (gw v34 true) (run P (X.move (f 0))) (fun v36 h =>
  when (gw v34 true) (run P (X.move (f 7))) (fun v37 h =>
  when (gw v34 true) (run P (X.indexAddr 22 v36 v37)) (fun v38 h =>
  when (gw v34 true) (run P (X.load 41 v38)) (fun v39 h =>
  when (gw v34 true) (run P (X.move (f 1))) (fun v40 h =>
  when (gw v34 true) (run P (X.bin .eql 41 false false v39 v40)) (fun v41 h =>
  when (gw v34 true) (run P (X.move v41)) (fun v42 h =>
  when (gw v42 false) (run P (X.move (f 0))) (fun v43 h =>
  when (gw v42 false) (run P (X.move (f 7))) (fun v44 h =>
  when (gw v42 false) (run P (X.indexAddr 22 v43 v44)) (fun v45 h =>
  when (gw v42 false) (run P (X.load 41 v45)) (fun v46 h =>
  when (gw v42 false) (run P (X.callF 79 [v46])) (fun v47 h =>
  when (gw v42 false) (run P (X.move v47)) (fun v48 h =>
  when (gw v48 true) (run P (X.move (f 1))) (fun v49 h =>
  when (gw v48 true) (run P (X.callF 79 [v49])) (fun v50 h =>
  when (gw v42 false) (run P (X.pick v48 v50 (Value.bool false))) (fun v51 h =>
  when (gw v34 true) (run P (X.pick v42 (Value.bool true) v51)) (fun v52 h =>
  run P (X.pick v34 v52 (Value.bool false)) (fun v53 h =>
  Q .ret (U f [(31, (f 7)), (32, (f 7)), (33, (f 6)), (34, v34), (35, v34), (36, v36), (37, v37), (38, v38), (39, v39), (40, v40), (41, v41), (42, v42), (43, v43), (44, v44), (45, v45), (46, v46), (47, v47), (48, v48), (49, v49), (50, v50), (51, v51), (52, v52), (53, v53), (4, (f 7)), (5, v53)]) h
  ) h
  ) h
  ) h
  ) h
  ) h
  ) h
  ) h
  ) h
  ) h
  ) h
  ) h
  ) h
  ) h
  ) h
  ) h
  ) h
  ) h
  ) h
  ) h

def bsearch_L2 (Q : Exit → F → Heap → Prop) (f : F) (h : Heap) : Prop :=
  run P (X.bin .lss 3 false false (f 7) (f 8)) (fun v15 h =>
  br v15 (
    run P (X.bin .add 3 false false (f 7) (f 8)) (fun v18 h =>
    run P (X.conv 3 112 v18) (fun v19 h =>
    run P (X.bin .shr 112 false true v19 (Value.int .u64 1)) (fun v20 h =>
    run P (X.conv 112 3 v20) (fun v21 h =>
    run P (X.indexAddr 22 (f 0) v21) (fun v24 h =>
    run P (X.load 41 v24) (fun v25 h =>
    run P (X.callF 78 [v25, (f 1)]) (fun v27 h =>
    br v27 (
      run P (X.bin .add 3 false true v21 (Value.int .i64 1)) (fun v29 h =>
      Q .normal (U f [(13, (f 7)), (14, (f 8)), (15, v15), (16, (f 7)), (17, (f 8)), (18, v18), (19, v19), (20, v20), (21, v21), (9, v21), (22, (f 0)), (23, v21), (24, v24), (25, v25), (26, (f 1)), (27, v27), (28, v21), (29, v29), (7, v29)]) h
      ) h
    ) (
      Q .normal (U f [(13, (f 7)), (14, (f 8)), (15, v15), (16, (f 7)), (17, (f 8)), (18, v18), (19, v19), (20, v20), (21, v21), (9, v21), (22, (f 0)), (23, v21), (24, v24), (25, v25), (26, (f 1)), (27, v27), (30, v21), (8, v21)]) h
    )
    ) h
    ) h
    ) h
    ) h
    ) h
    ) h
    ) h
  ) (
    Q (.exit 0) (U f [(13, (f 7)), (14, (f 8)), (15, v15)]) h
  )
  ) h

def bsearch_c0 (Q : Exit → F → Heap → Prop) (f : F) (h : Heap) : Prop :=
  run P (X.builtin .len #[22] 3 [false] [(f 0)]) (fun v11 h =>
  lp bsearch_L2 (inB 0 (thenQ (bsearch_c1 Q) Q)) (U f [(4, (Value.int .i64 0)), (5, (Value.bool false)), (10, (f 0)), (11, v11), (6, v11), (12, v11), (7, (Value.int .i64 0)), (8, v11)]) h
  ) h
theorem bsearch_code : bsearch_c0 = hcode P bsearch_md (Try.f51.body.getD .skip) := by kernel_rfl
theorem bsearch_ok {a0 a1 : Value} {h : Heap} {R : Value → Heap → Prop} (hh : bsearch_c0 (post [.tmp 4, .tmp 5] R) (frame0 #[a0, a1]) h) : HCalls P 51 #[a0, a1] h R :=
  hcalls_gen (md := bsearch_md) follows Try.func51 bsearch_code (by kernel_rfl) (by kernel_rfl) (by kernel_rfl) (by kernel_rfl) (by kernel_rfl) hh

/-- slices.Insert[[]tenon/api.Ref,tenon/api.Ref]: parameters [a0, a1, a2]; results [.tmp 6]; slots [0:s, 1:i, 2:v, 3:s, 4:i, 5:v, 7:m, 8:n, 9:s2]; draws [11, 15] -/
def insert_md : Nat → RM := fun i => if i = 11 then RM.tail 8 else if i = 15 then RM.tail 8 else RM.quiet
def insert_c0 (Q : Exit → F → Heap → Prop) (f : F) (h : Heap) : Prop :=
  run P (X.slice 22 (f 0) (some (f 1)) none none) (fun v12 h =>
  run P (X.builtin .len #[22] 3 [false] [(f 2)]) (fun v14 h =>
  run P (X.bin .eql 3 false true v14 (Value.int .i64 0)) (fun v16 h =>
  br v16 (
    Q .ret (U f [(6, (Value.slice none 0 0)), (10, (f 0)), (11, (f 1)), (12, v12), (13, (f 2)), (14, v14), (7, v14), (15, v14), (16, v16), (17, (f 0)), (6, (f 0))]) h
  ) (
    run P (X.builtin .len #[22] 3 [false] [(f 0)]) (fun v19 h =>
    run P (X.bin .eql 3 false false (f 1) v19) (fun v22 h =>
    br v22 (
      run P (X.builtin .append #[22, 22] 22 [false, false] [(f 0), (f 2)]) (fun v25 h =>
      Q .ret (U f [(6, (Value.slice none 0 0)), (10, (f 0)), (11, (f 1)), (12, v12), (13, (f 2)), (14, v14), (7, v14), (15, v14), (16, v16), (18, (f 0)), (19, v19), (8, v19), (20, (f 1)), (21, v19), (22, v22), (23, (f 0)), (24, (f 2)), (25, v25), (6, v25)]) h
      ) h
    ) (
      run P (X.bin .add 3 false false v19 v14) (fun v28 h =>
      run P (X.builtin .cap #[22] 3 [false] [(f 0)]) (fun v30 h =>
      run P (X.bin .gtr 3 false false v28 v30) (fun v31 h =>
      br v31 (
        run P (X.slice 22 (f 0) none (some (f 1)) none) (fun v34 h =>
        run P (X.bin .add 3 false false v19 v14) (fun v37 h =>
        run P (X.bin .sub 3 false false v37 (f 1)) (fun v39 h =>
        run P (X.builtin .append #[22, 3] 22 [false, false] [v34, v39]) (fun v40 h =>
        run P (X.slice 22 v40 (some (f 1)) none none) (fun v43 h =>
        run P (X.builtin .copy #[22, 22] 3 [false, false] [v43, (f 2)]) (fun v45 h =>
        headq P (X.move v40) (fun v46 =>
        headq P (X.move (f 1)) (fun v47 =>
        headq P (X.move v14) (fun v48 =>
        headq P (X.bin .add 3 false false v47 v48) (fun v49 =>
        headq P (X.slice 22 v46 (some v49) none none) (fun v50 =>
        headq P (X.move (f 0)) (fun v51 =>
        headq P (X.move (f 1)) (fun v52 =>
        headq P (X.slice 22 v51 (some v52) none none) (fun v53 =>
        run P (X.builtin .copy #[22, 22] 3 [false, false] [v50, v53]) (fun v54 h =>
        Q .ret (U f [(6, (Value.slice none 0 0)), (10, (f 0)), (11, (f 1)), (12, v12), (13, (f 2)), (14, v14), (7, v14), (15, v14), (16, v16), (18, (f 0)), (19, v19), (8, v19), (20, (f 1)), (21, v19), (22, v22), (26, v19), (27, v14), (28, v28), (29, (f 0)), (30, v30), (31, v31), (32, (f 0)), (33, (f 1)), (34, v34), (35, v19), (36, v14), (37, v37), (38, (f 1)), (39, v39), (40, v40), (9, v40), (41, v40), (42, (f 1)), (43, v43), (44, (f 2)), (45, v45), (46, v46), (47, v47), (48, v48), (49, v49), (50, v50), (51, v51), (52, v52), (53, v53), (54, v54), (55, v40), (6, v40)]) h
        ) h
        ) h
        ) h
        ) h
        ) h
        ) h
        ) h
        ) h
        ) h
        ) h
        ) h
        ) h
        ) h
        ) h
        ) h
      ) (
        run P (X.bin .add 3 false false v19 v14) (fun v59 h =>
        run P (X.slice 22 (f 0) none (some v59) none) (fun v60 h =>
        run P (X.bin .add 3 false false (f 1) v14) (fun v65 h =>
        run P (X.slice 22 v60 (some v65) none none) (fun v66 h =>
        run P (X.callF 80 [(f 2), v66]) (fun v67 h =>
        run P (X.un .not v67) (fun v68 h =>
        br v68 (
          headq P (X.move v60) (fun v69 =>
          headq P (X.move (f 1)) (fun v70 =>
          headq P (X.move v14) (fun v71 =>
          headq P (X.bin .add 3 false false v70 v71) (fun v72 =>
          headq P (X.slice 22 v69 (some v72) none none) (fun v73 =>
          headq P (X.move v60) (fun v74 =>
          headq P (X.move (f 1)) (fun v75 =>
          headq P (X.slice 22 v74 (some v75) none none) (fun v76 =>
          run P (X.builtin .copy #[22, 22] 3 [false, false] [v73, v76]) (fun v77 h =>
          run P (X.slice 22 v60 (some (f 1)) none none) (fun v80 h =>
          run P (X.builtin .copy #[22, 22] 3 [false, false] [v80, (f 2)]) (fun v82 h =>
          Q .ret (U f [(6, (Value.slice none 0 0)), (10, (f 0)), (11, (f 1)), (12, v12), (13, (f 2)), (14, v14), (7, v14), (15, v14), (16, v16), (18, (f 0)), (19, v19), (8, v19), (20, (f 1)), (21, v19), (22, v22), (26, v19), (27, v14), (28, v28), (29, (f 0)), (30, v30), (31, v31), (56, (f 0)), (57, v19), (58, v14), (59, v59), (60, v60), (0, v60), (61, (f 2)), (62, v60), (63, (f 1)), (64, v14), (65, v65), (66, v66), (67, v67), (68, v68), (69, v69), (70, v70), (71, v71), (72, v72), (73, v73), (74, v74), (75, v75), (76, v76), (77, v77), (78, v60), (79, (f 1)), (80, v80), (81, (f 2)), (82, v82), (83, v60), (6, v60)]) h
          ) h
          ) h
          ) h
          ) h
          ) h
          ) h
          ) h
          ) h
          ) h
          ) h
          ) h
        ) (
          run P (X.slice 22 v60 (some v19) none none) (fun v86 h =>
          run P (X.builtin .copy #[22, 22] 3 [false, false] [v86, (f 2)]) (fun v88 h =>
          run P (X.slice 22 v60 (some (f 1)) none none) (fun v91 h =>
          run P (X.callF 81 [v91, v14]) (fun v93 h =>
          Q .ret (U f [(6, (Value.slice none 0 0)), (10, (f 0)), (11, (f 1)), (12, v12), (13, (f 2)), (14, v14), (7, v14), (15, v14), (16, v16), (18, (f 0)), (19, v19), (8, v19), (20, (f 1)), (21, v19), (22, v22), (26, v19), (27, v14), (28, v28), (29, (f 0)), (30, v30), (31, v31), (56, (f 0)), (57, v19), (58, v14), (59, v59), (60, v60), (0, v60), (61, (f 2)), (62, v60), (63, (f 1)), (64, v14), (65, v65), (66, v66), (67, v67), (68, v68), (84, v60), (85, v19), (86, v86), (87, (f 2)), (88, v88), (89, v60), (90, (f 1)), (91, v91), (92, v14), (93, v93), (94, v60), (6, v60)]) h
          ) h
          ) h
          ) h
          ) h
        )
        ) h
        ) h
        ) h
        ) h
        ) h
        ) h
      )
      ) h
      ) h
      ) h
    )
    ) h
    ) h
  )
  ) h
  ) h
  ) h
theorem insert_code : insert_c0 = hcode P insert_md (Try.f52.body.getD .skip) := by kernel_rfl
theorem insert_ok {a0 a1 a2 : Value} {h : Heap} {R : Value → Heap → Prop} (hh : insert_c0 (post [.tmp 6] R) (frame0 #[a0, a1, a2]) h) : HCalls P 52 #[a0, a1, a2] h R :=
  hcalls_gen (md := insert_md) follows Try.func52 insert_code (by kernel_rfl) (by kernel_rfl) (by kernel_rfl) (by kernel_rfl) (by kernel_rfl) hh

/-- slices.Compare[[]tenon/api.Ref,tenon/api.Ref]: parameters [a0, a1]; results [.tmp 4]; slots [0:s1, 1:s2, 2:s1, 3:s2, 5:i, 6:v1, 7:v2, 8:c]; draws [] -/
def compare_md : Nat → RM := fun _ => RM.quiet
def compare_c1 (Q : Exit → F → Heap → Prop) (f : F) (h : Heap) : Prop :=
  run P (X.builtin .len #[22] 3 [false] [(f 0)]) (fun v32 h =>
  run P (X.builtin .len #[22] 3 [false] [(f 1)]) (fun v34 h =>
  run P (X.bin .lss 3 false false v32 v34) (fun v35 h =>
  br v35 (
    Q .ret (U f [(31, (f 0)), (32, v32), (33, (f 1)), (34, v34), (35, v35), (4, (Value.int .i64 (-1)))]) h
  ) (
    Q .ret (U f [(31, (f 0)), (32, v32), (33, (f 1)), (34, v34), (35, v35), (4, (Value.int .i64 0))]) h
  )
  ) h
  ) h
  ) h

def compare_L2 (Q : Exit → F → Heap → Prop) (f : F) (h : Heap) : Prop :=
  run P (X.bin .lss 3 false false (f 11) (f 10)) (fun v12 h =>
  br v12 (
    run P (X.indexAddr 22 (f 9) (f 11)) (fun v14 h =>
    run P (X.load 41 v14) (fun v15 h =>
    run P (X.builtin .len #[22] 3 [false] [(f 1)]) (fun v18 h =>
    run P (X.bin .geq 3 false false (f 11) v18) (fun v19 h =>
    br v19 (
      Q .ret (U f [(12, v12), (13, (f 11)), (14, v14), (15, v15), (5, (f 11)), (6, v15), (16, (f 11)), (17, (f 1)), (18, v18), (19, v19), (4, (Value.int .i64 1))]) h
    ) (
      run P (X.indexAddr 22 (f 1) (f 11)) (fun v22 h =>
      run P (X.load 41 v22) (fun v23 h =>
      run P (X.callF 50 [v15, v23]) (fun v26 h =>
      run P (X.bin .neq 3 false true v26 (Value.int .i64 0)) (fun v28 h =>
      br v28 (
        Q .ret (U f [(12, v12), (13, (f 11)), (14, v14), (15, v15), (5, (f 11)), (6, v15), (16, (f 11)), (17, (f 1)), (18, v18), (19, v19), (20, (f 1)), (21, (f 11)), (22, v22), (23, v23), (7, v23), (24, v15), (25, v23), (26, v26), (8, v26), (27, v26), (28, v28), (29, v26), (4, v26)]) h
      ) (
        run P (X.bin .add 3 false true (f 11) (Value.int .i64 1)) (fun v30 h =>
        Q .normal (U f [(12, v12), (13, (f 11)), (14, v14), (15, v15), (5, (f 11)), (6, v15), (16, (f 11)), (17, (f 1)), (18, v18), (19, v19), (20, (f 1)), (21, (f 11)), (22, v22), (23, v23), (7, v23), (24, v15), (25, v23), (26, v26), (8, v26), (27, v26), (28, v28), (30, v30), (11, v30)]) h
        ) h
      )
      ) h
      ) h
      ) h
      ) h
    )
    ) h
    ) h
    ) h
    ) h
  ) (
    Q (.exit 0) (U f [(12, v12)]) h
  )
  ) h

def compare_c0 (Q : Exit → F → Heap → Prop) (f : F) (h : Heap) : Prop :=
  run P (X.builtin .len #[22] 3 [false] [(f 0)]) (fun v10 h =>
  lp compare_L2 (inB 0 (thenQ (compare_c1 Q) Q)) (U f [(4, (Value.int .i64 0)), (9, (f 0)), (10, v10), (11, (Value.int .i64 0))]) h
  ) h
theorem compare_code : compare_c0 = hcode P compare_md (Try.f55.body.getD .skip) := by kernel_rfl
theorem compare_ok {a0 a1 : Value} {h : Heap} {R : Value → Heap → Prop} (hh : compare_c0 (post [.tmp 4] R) (frame0 #[a0, a1]) h) : HCalls P 55 #[a0, a1] h R :=
  hcalls_gen (md := compare_md) follows Try.func55 compare_code (by kernel_rfl) (by kernel_rfl) (by kernel_rfl) (by kernel_rfl) (by kernel_rfl) hh

/-- slices.DeleteFunc[[]tenon/api.Ref,tenon/api.Ref]: parameters [a0, a1]; results [.tmp 4]; slots [0:s, 1:del, 2:s, 3:del, 5:i, 6:j, 7:v]; draws [] -/
def deleteFunc_md : Nat → RM := fun _ => RM.quiet
def deleteFunc_c1 (Q : Exit → F → Heap → Prop) (f : F) (h : Heap) : Prop :=
  run P (X.slice 22 (f 0) (some (f 5)) none none) (fun v38 h =>
  run P (X.builtin .clear #[22] 0 [false] [v38]) (fun _ h =>
  run P (X.slice 22 (f 0) none (some (f 5)) none) (fun v41 h =>
  Q .ret (U f [(36, (f 0)), (37, (f 5)), (38, v38), (39, (f 0)), (40, (f 5)), (41, v41), (4, v41)]) h
  ) h
  ) h
  ) h

def deleteFunc_c3 (Q : Exit → F → Heap → Prop) (f : F) (h : Heap) : Prop :=
  run P (X.bin .add 3 false true (f 6) (Value.int .i64 1)) (fun v21 h =>
  Q .normal (U f [(20, (f 6)), (21, v21), (6, v21)]) h
  ) h

def deleteFunc_L2 (Q : Exit → F → Heap → Prop) (f : F) (h : Heap) : Prop :=
  run P (X.builtin .len #[22] 3 [false] [(f 0)]) (fun v18 h =>
  run P (X.bin .lss 3 false false (f 6) v18) (fun v19 h =>
  br v19 (
    run P (X.indexAddr 22 (f 0) (f 6)) (fun v24 h =>
    run P (X.load 41 v24) (fun v25 h =>
    run P (X.dyn (f 1) [v25]) (fun v28 h =>
    run P (X.un .not v28) (fun v29 h =>
    br v29 (
      run P (X.indexAddr 22 (f 0) (f 5)) (fun v33 h =>
      run P (X.store 41 v33 v25) (fun _ h =>
      run P (X.bin .add 3 false true (f 5) (Value.int .i64 1)) (fun v35 h =>
      deleteFunc_c3 Q (U f [(16, (f 6)), (17, (f 0)), (18, v18), (19, v19), (22, (f 0)), (23, (f 6)), (24, v24), (25, v25), (7, v25), (26, (f 1)), (27, v25), (28, v28), (29, v29), (30, (f 0)), (31, (f 5)), (32, v25), (33, v33), (34, (f 5)), (35, v35), (5, v35)]) h
      ) h
      ) h
      ) h
    ) (
      deleteFunc_c3 Q (U f [(16, (f 6)), (17, (f 0)), (18, v18), (19, v19), (22, (f 0)), (23, (f 6)), (24, v24), (25, v25), (7, v25), (26, (f 1)), (27, v25), (28, v28), (29, v29)]) h
    )
    ) h
    ) h
    ) h
    ) h
  ) (
    Q (.exit 0) (U f [(16, (f 6)), (17, (f 0)), (18, v18), (19, v19)]) h
  )
  ) h
  ) h

def deleteFunc_c0 (Q : Exit → F → Heap → Prop) (f : F) (h : Heap) : Prop :=
  run P (X.callF 84 [(f 0), (f 1)]) (fun v10 h =>
  run P (X.bin .eql 3 false true v10 (Value.int .i64 (-1))) (fun v12 h =>
  br v12 (
    Q .ret (U f [(4, (Value.slice none 0 0)), (8, (f 0)), (9, (f 1)), (10, v10), (5, v10), (11, v10), (12, v12), (13, (f 0)), (4, (f 0))]) h
  ) (
    run P (X.bin .add 3 false true v10 (Value.int .i64 1)) (fun v15 h =>
    lp deleteFunc_L2 (inB 0 (thenQ (deleteFunc_c1 Q) Q)) (U f [(4, (Value.slice none 0 0)), (8, (f 0)), (9, (f 1)), (10, v10), (5, v10), (11, v10), (12, v12), (14, v10), (15, v15), (6, v15)]) h
    ) h
  )
  ) h
  ) h
theorem deleteFunc_code : deleteFunc_c0 = hcode P deleteFunc_md (Try.f57.body.getD .skip) := by kernel_rfl
theorem deleteFunc_ok {a0 a1 : Value} {h : Heap} {R : Value → Heap → Prop} (hh : deleteFunc_c0 (post [.tmp 4] R) (frame0 #[a0, a1]) h) : HCalls P 57 #[a0, a1] h R :=
  hcalls_gen (md := deleteFunc_md) follows Try.func57 deleteFunc_code (by kernel_rfl) (by kernel_rfl) (by kernel_rfl) (by kernel_rfl) (by kernel_rfl) hh

/-- slices.Clone[[]tenon/api.Ref,tenon/api.Ref]: parameters [a0]; results [.tmp 2]; slots [0:s, 1:s]; draws [] -/
def clone_md : Nat → RM := fun _ => RM.quiet
def clone_c0 (Q : Exit → F → Heap → Prop) (f : F) (h : Heap) : Prop :=
  run P (X.bin .eql 22 false true (f 0) (Value.slice none 0 0)) (fun v4 h =>
  br v4 (
    Q .ret (U f [(2, (Value.slice none 0 0)), (3, (f 0)), (4, v4), (2, (Value.slice none 0 0))]) h
  ) (
    run P (X.buildSlice 22 0 []) (fun v5 h =>
    run P (X.builtin .append #[22, 22] 22 [false, false] [v5, (f 0)]) (fun v7 h =>
    Q .ret (U f [(2, (Value.slice none 0 0)), (3, (f 0)), (4, v4), (5, v5), (6, (f 0)), (7, v7), (2, v7)]) h
    ) h
    ) h
  )
  ) h
theorem clone_code : clone_c0 = hcode P clone_md (Try.f69.body.getD .skip) := by kernel_rfl
theorem clone_ok {a0 : Value} {h : Heap} {R : Value → Heap → Prop} (hh : clone_c0 (post [.tmp 2] R) (frame0 #[a0]) h) : HCalls P 69 #[a0] h R :=
  hcalls_gen (md := clone_md) follows Try.func69 clone_code (by kernel_rfl) (by kernel_rfl) (by kernel_rfl) (by kernel_rfl) (by kernel_rfl) hh

/-- slices.Sorted[tenon/api.Ref]: parameters [a0]; results [.tmp 2]; slots [0:seq, 1:seq, 3:s]; draws [] -/
def sorted_md : Nat → RM := fun _ => RM.quiet
def sorted_c0 (Q : Exit → F → Heap → Prop) (f : F) (h : Heap) : Prop :=
  run P (X.callF 85 [(f 0)]) (fun v5 h =>
  run P (X.callF 47 [v5]) (fun v7 h =>
  Q .ret (U f [(2, (Value.slice none 0 0)), (4, (f 0)), (5, v5), (3, v5), (6, v5), (7, v7), (8, v5), (2, v5)]) h
  ) h
  ) h
theorem sorted_code : sorted_c0 = hcode P sorted_md (Try.f70.body.getD .skip) := by kernel_rfl
theorem sorted_ok {a0 : Value} {h : Heap} {R : Value → Heap → Prop} (hh : sorted_c0 (post [.tmp 2] R) (frame0 #[a0]) h) : HCalls P 70 #[a0] h R :=
  hcalls_gen (md := sorted_md) follows Try.func70 sorted_code (by kernel_rfl) (by kernel_rfl) (by kernel_rfl) (by kernel_rfl) (by kernel_rfl) hh

/-- slices.Values[[]tenon/api.Ref,tenon/api.Ref]: parameters [a0]; results [.tmp 2]; slots [0:s, 1:s]; draws [] -/
def values_md : Nat → RM := fun _ => RM.quiet
def values_c0 (Q : Exit → F → Heap → Prop) (f : F) (h : Heap) : Prop :=
  run P (X.box 22 (f 0)) (fun v1 h =>
  run P (X.mkFunc (.func 86) [] [v1]) (fun v3 h =>
  Q .ret (U f [(1, v1), (2, Value.nilFunc), (3, v3), (2, v3)]) h
  ) h
  ) h
theorem values_code : values_c0 = hcode P values_md (Try.f71.body.getD .skip) := by kernel_rfl
theorem values_ok {a0 : Value} {h : Heap} {R : Value → Heap → Prop} (hh : values_c0 (post [.tmp 2] R) (frame0 #[a0]) h) : HCalls P 71 #[a0] h R :=
  hcalls_gen (md := values_md) follows Try.func71 values_code (by kernel_rfl) (by kernel_rfl) (by kernel_rfl) (by kernel_rfl) (by kernel_rfl) hh

/-- slices.Compact[[]tenon/api.Ref,tenon/api.Ref]: parameters [a0]; results [.tmp 2]; slots [0:s, 1:s, 3:k, 4:s2, 5:k2]; draws [6, 11] -/
def compact_md : Nat → RM := fun _ => RM.quiet
def compact_c1 (Q : Exit → F → Heap → Prop) (f : F) (h : Heap) : Prop :=
  Q .ret (U f [(60, (f 0)), (2, (f 0))]) h

def compact_c3 (Q : Exit → F → Heap → Prop) (f : F) (h : Heap) : Prop :=
  run P (X.bin .add 3 false true (f 3) (Value.int .i64 1)) (fun v15 h =>
  Q .normal (U f [(14, (f 3)), (15, v15), (3, v15)]) h
  ) h

def compact_c4 (Q : Exit → F → Heap → Prop) (f : F) (h : Heap) : Prop :=
  run P (X.slice 22 (f 0) (some (f 3)) none none) (fun v56 h =>
  run P (X.builtin .clear #[22] 0 [false] [v56]) (fun _ h =>
  run P (X.slice 22 (f 0) none (some (f 3)) none) (fun v59 h =>
  Q .ret (U f [(54, (f 0)), (55, (f 3)), (56, v56), (57, (f 0)), (58, (f 3)), (59, v59), (2, v59)]) h
  ) h
  ) h
  ) h

def compact_c6 (Q : Exit → F → Heap → Prop) (f : F) (h : Heap) : Prop :=
  run P (X.bin .add 3 false true (f 5) (Value.int .i64 1)) (fun v34 h =>
  Q .normal (U f [(33, (f 5)), (34, v34), (5, v34)]) h
  ) h

def compact_L5 (Q : Exit → F → Heap → Prop) (f : F) (h : Heap) : Prop :=
  run P (X.builtin .len #[22] 3 [false] [(f 4)]) (fun v31 h =>
  run P (X.bin .lss 3 false false (f 5) v31) (fun v32 h =>
  br v32 (
    still P (X.move (f 4)) (fun v35 =>
    still P (X.move (f 5)) (fun v36 =>
    still P (X.indexAddr 22 v35 v36) (fun v37 =>
    still P (X.load 41 v37) (fun v38 =>
    still P (X.move (f 4)) (fun v39 =>
    still P (X.move (f 5)) (fun v40 =>
    still P (X.bin .sub 3 false true v40 (Value.int .i64 1)) (fun v41 =>
    still P (X.indexAddr 22 v39 v41) (fun v42 =>
    still P (X.load 41 v42) (fun v43 =>
    still P (X.bin .neq 41 false false v38 v43) (fun v44 =>
    br v44 (
      run P (X.indexAddr 22 (f 4) (f 5)) (fun v49 h =>
      run P (X.load 41 v49) (fun v50 h =>
      run P (X.indexAddr 22 (f 0) (f 3)) (fun v51 h =>
      run P (X.store 41 v51 v50) (fun _ h =>
      run P (X.bin .add 3 false true (f 3) (Value.int .i64 1)) (fun v53 h =>
      compact_c6 Q (U f [(29, (f 5)), (30, (f 4)), (31, v31), (32, v32), (35, v35), (36, v36), (37, v37), (38, v38), (39, v39), (40, v40), (41, v41), (42, v42), (43, v43), (44, v44), (45, (f 0)), (46, (f 3)), (47, (f 4)), (48, (f 5)), (49, v49), (50, v50), (51, v51), (52, (f 3)), (53, v53), (3, v53)]) h
      ) h
      ) h
      ) h
      ) h
      ) h
    ) (
      compact_c6 Q (U f [(29, (f 5)), (30, (f 4)), (31, v31), (32, v32), (35, v35), (36, v36), (37, v37), (38, v38), (39, v39), (40, v40), (41, v41), (42, v42), (43, v43), (44, v44)]) h
    )
    ) h
    ) h
    ) h
    ) h
    ) h
    ) h
    ) h
    ) h
    ) h
    ) h
  ) (
    Q (.exit 2) (U f [(29, (f 5)), (30, (f 4)), (31, v31), (32, v32)]) h
  )
  ) h
  ) h

def compact_L2 (Q : Exit → F → Heap → Prop) (f : F) (h : Heap) : Prop :=
  run P (X.builtin .len #[22] 3 [false] [(f 0)]) (fun v12 h =>
  run P (X.bin .lss 3 false false (f 3) v12) (fun v13 h =>
  br v13 (
    still P (X.move (f 0)) (fun v16 =>
    still P (X.move (f 3)) (fun v17 =>
    still P (X.indexAddr 22 v16 v17) (fun v18 =>
    still P (X.load 41 v18) (fun v19 =>
    still P (X.move (f 0)) (fun v20 =>
    still P (X.move (f 3)) (fun v21 =>
    still P (X.bin .sub 3 false true v21 (Value.int .i64 1)) (fun v22 =>
    still P (X.indexAddr 22 v20 v22) (fun v23 =>
    still P (X.load 41 v23) (fun v24 =>
    still P (X.bin .eql 41 false false v19 v24) (fun v25 =>
    br v25 (
      run P (X.slice 22 (f 0) (some (f 3)) none none) (fun v28 h =>
      lp compact_L5 (inB 2 (thenQ (compact_c4 Q) (inB 1 (thenQ (compact_c3 Q) Q)))) (U f [(10, (f 3)), (11, (f 0)), (12, v12), (13, v13), (16, v16), (17, v17), (18, v18), (19, v19), (20, v20), (21, v21), (22, v22), (23, v23), (24, v24), (25, v25), (26, (f 0)), (27, (f 3)), (28, v28), (4, v28), (5, (Value.int .i64 1))]) h
      ) h
    ) (
      compact_c3 Q (U f [(10, (f 3)), (11, (f 0)), (12, v12), (13, v13), (16, v16), (17, v17), (18, v18), (19, v19), (20, v20), (21, v21), (22, v22), (23, v23), (24, v24), (25, v25)]) h
    )
    ) h
    ) h
    ) h
    ) h
    ) h
    ) h
    ) h
    ) h
    ) h
    ) h
  ) (
    Q (.exit 0) (U f [(10, (f 3)), (11, (f 0)), (12, v12), (13, v13)]) h
  )
  ) h
  ) h

def compact_c0 (Q : Exit → F → Heap → Prop) (f : F) (h : Heap) : Prop :=
  run P (X.builtin .len #[22] 3 [false] [(f 0)]) (fun v7 h =>
  run P (X.bin .lss 3 false true v7 (Value.int .i64 2)) (fun v8 h =>
  br v8 (
    Q .ret (U f [(2, (Value.slice none 0 0)), (6, (f 0)), (7, v7), (8, v8), (9, (f 0)), (2, (f 0))]) h
  ) (
    lp compact_L2 (inB 0 (thenQ (compact_c1 Q) Q)) (U f [(2, (Value.slice none 0 0)), (6, (f 0)), (7, v7), (8, v8), (3, (Value.int .i64 1))]) h
  )
  ) h
  ) h
theorem compact_code : compact_c0 = hcode P compact_md (Try.f72.body.getD .skip) := by kernel_rfl
theorem compact_ok {a0 : Value} {h : Heap} {R : Value → Heap → Prop} (hh : compact_c0 (post [.tmp 2] R) (frame0 #[a0]) h) : HCalls P 72 #[a0] h R :=
  hcalls_gen (md := compact_md) follows Try.func72 compact_code (by kernel_rfl) (by kernel_rfl) (by kernel_rfl) (by kernel_rfl) (by kernel_rfl) hh

/-- cmp.isNaN[tenon/api.Ref]: parameters [a0]; results [.tmp 2]; slots [0:x, 1:x]; draws [] -/
def cisNaN_md : Nat → RM := fun _ => RM.quiet
def cisNaN_c0 (Q : Exit → F → Heap → Prop) (f : F) (h : Heap) : Prop :=
  run P (X.bin .neq 41 false false (f 0) (f 0)) (fun v5 h =>
  Q .ret (U f [(2, (Value.bool false)), (3, (f 0)), (4, (f 0)), (5, v5), (2, v5)]) h
  ) h
theorem cisNaN_code : cisNaN_c0 = hcode P cisNaN_md (Try.f77.body.getD .skip) := by kernel_rfl
theorem cisNaN_ok {a0 : Value} {h : Heap} {R : Value → Heap → Prop} (hh : cisNaN_c0 (post [.tmp 2] R) (frame0 #[a0]) h) : HCalls P 77 #[a0] h R :=
  hcalls_gen (md := cisNaN_md) follows Try.func77 cisNaN_code (by kernel_rfl) (by kernel_rfl) (by kernel_rfl) (by kernel_rfl) (by kernel_rfl) hh

/-- cmp.Less[tenon/api.Ref]: parameters [a0, a1]; results [.tmp 4]; slots [0:x, 1:y, 2:x, 3:y]; draws [] -/
def less_md : Nat → RM := fun _ => RM.quiet
def less_c0 (Q : Exit → F → Heap → Prop) (f : F) (h : Heap) : Prop :=
  run P (X.callF 77 [(f 0)]) (fun v6 h =>
  when (gw v6 true) (run P (X.move (f 1))) (fun v8 h =>
  when (gw v6 true) (run P (X.callF 77 [v8])) (fun v9 h =>
  when (gw v6 true) (run P (X.un .not v9)) (fun v10 h =>
  run P (X.pick v6 v10 (Value.bool false)) (fun v11 h =>
  when (gw v11 false) (run P (X.move (f 0))) (fun v13 h =>
  when (gw v11 false) (run P (X.move (f 1))) (fun v14 h =>
  when (gw v11 false) (run P (X.bin .lss 41 false false v13 v14)) (fun v15 h =>
  run P (X.pick v11 (Value.bool true) v15) (fun v16 h =>
  Q .ret (U f [(4, (Value.bool false)), (5, (f 0)), (6, v6), (7, v6), (8, v8), (9, v9), (10, v10), (11, v11), (12, v11), (13, v13), (14, v14), (15, v15), (16, v16), (4, v16)]) h
  ) h
  ) h
  ) h
  ) h
  ) h
  ) h
  ) h
  ) h
  ) h
theorem less_code : less_c0 = hcode P less_md (Try.f78.body.getD .skip) := by kernel_rfl
theorem less_ok {a0 a1 : Value} {h : Heap} {R : Value → Heap → Prop} (hh : less_c0 (post [.tmp 4] R) (frame0 #[a0, a1]) h) : HCalls P 78 #[a0, a1] h R :=
  hcalls_gen (md := less_md) follows Try.func78 less_code (by kernel_rfl) (by kernel_rfl) (by kernel_rfl) (by kernel_rfl) (by kernel_rfl) hh

/-- slices.isNaN[tenon/api.Ref]: parameters [a0]; results [.tmp 2]; slots [0:x, 1:x]; draws [] -/
def isNaN_md : Nat → RM := fun _ => RM.quiet
def isNaN_c0 (Q : Exit → F → Heap → Prop) (f : F) (h : Heap) : Prop :=
  run P (X.bin .neq 41 false false (f 0) (f 0)) (fun v5 h =>
  Q .ret (U f [(2, (Value.bool false)), (3, (f 0)), (4, (f 0)), (5, v5), (2, v5)]) h
  ) h
theorem isNaN_code : isNaN_c0 = hcode P isNaN_md (Try.f79.body.getD .skip) := by kernel_rfl
theorem isNaN_ok {a0 : Value} {h : Heap} {R : Value → Heap → Prop} (hh : isNaN_c0 (post [.tmp 2] R) (frame0 #[a0]) h) : HCalls P 79 #[a0] h R :=
  hcalls_gen (md := isNaN_md) follows Try.func79 isNaN_code (by kernel_rfl) (by kernel_rfl) (by kernel_rfl) (by kernel_rfl) (by kernel_rfl) hh

/-- slices.rotateRight[tenon/api.Ref]: parameters [a0, a1]; results []; slots [0:s, 1:r, 2:s, 3:r]; draws [] -/
def rotR_md : Nat → RM := fun _ => RM.quiet
def rotR_c0 (Q : Exit → F → Heap → Prop) (f : F) (h : Heap) : Prop :=
  run P (X.builtin .len #[22] 3 [false] [(f 0)]) (fun v6 h =>
  run P (X.bin .sub 3 false false v6 (f 1)) (fun v8 h =>
  run P (X.callF 105 [(f 0), v8]) (fun v9 h =>
  Q .normal (U f [(4, (f 0)), (5, (f 0)), (6, v6), (7, (f 1)), (8, v8), (9, v9)]) h
  ) h
  ) h
  ) h
theorem rotR_code : rotR_c0 = hcode P rotR_md (Try.f81.body.getD .skip) := by kernel_rfl
theorem rotR_ok {a0 a1 : Value} {h : Heap} {R : Value → Heap → Prop} (hh : rotR_c0 (post [] R) (frame0 #[a0, a1]) h) : HCalls P 81 #[a0, a1] h R :=
  hcalls_gen (md := rotR_md) follows Try.func81 rotR_code (by kernel_rfl) (by kernel_rfl) (by kernel_rfl) (by kernel_rfl) (by kernel_rfl) hh

/-- slices.ContainsFunc[[]tenon/api.Ref,tenon/api.Ref]: parameters [a0, a1]; results [.tmp 4]; slots [0:s, 1:f, 2:s, 3:f]; draws [] -/
def containsFunc_md : Nat → RM := fun _ => RM.quiet
def containsFunc_c0 (Q : Exit → F → Heap → Prop) (f : F) (h : Heap) : Prop :=
  run P (X.callF 84 [(f 0), (f 1)]) (fun v7 h =>
  run P (X.bin .geq 3 false true v7 (Value.int .i64 0)) (fun v8 h =>
  Q .ret (U f [(4, (Value.bool false)), (5, (f 0)), (6, (f 1)), (7, v7), (8, v8), (4, v8)]) h
  ) h
  ) h
theorem containsFunc_code : containsFunc_c0 = hcode P containsFunc_md (Try.f82.body.getD .skip) := by kernel_rfl
theorem containsFunc_ok {a0 a1 : Value} {h : Heap} {R : Value → Heap → Prop} (hh : containsFunc_c0 (post [.tmp 4] R) (frame0 #[a0, a1]) h) : HCalls P 82 #[a0, a1] h R :=
  hcalls_gen (md := containsFunc_md) follows Try.func82 containsFunc_code (by kernel_rfl) (by kernel_rfl) (by kernel_rfl) (by kernel_rfl) (by kernel_rfl) hh

/-- slices.IndexFunc[[]tenon/api.Ref,tenon/api.Ref]: parameters [a0, a1]; results [.tmp 4]; slots [0:s, 1:f, 2:s, 3:f, 5:i]; draws [] -/
def indexFunc_md : Nat → RM := fun _ => RM.quiet
def indexFunc_c1 (Q : Exit → F → Heap → Prop) (f : F) (h : Heap) : Prop :=
  Q .ret (U f [(4, (Value.int .i64 (-1)))]) h

def indexFunc_L2 (Q : Exit → F → Heap → Prop) (f : F) (h : Heap) : Prop :=
  run P (X.bin .lss 3 false false (f 8) (f 7)) (fun v9 h =>
  br v9 (
    run P (X.indexAddr 22 (f 0) (f 8)) (fun v14 h =>
    run P (X.load 41 v14) (fun v15 h =>
    run P (X.dyn (f 1) [v15]) (fun v16 h =>
    br v16 (
      Q .ret (U f [(9, v9), (10, (f 8)), (5, (f 8)), (11, (f 1)), (12, (f 0)), (13, (f 8)), (14, v14), (15, v15), (16, v16), (17, (f 8)), (4, (f 8))]) h
    ) (
      run P (X.bin .add 3 false true (f 8) (Value.int .i64 1)) (fun v18 h =>
      Q .normal (U f [(9, v9), (10, (f 8)), (5, (f 8)), (11, (f 1)), (12, (f 0)), (13, (f 8)), (14, v14), (15, v15), (16, v16), (18, v18), (8, v18)]) h
      ) h
    )
    ) h
    ) h
    ) h
  ) (
    Q (.exit 0) (U f [(9, v9)]) h
  )
  ) h

def indexFunc_c0 (Q : Exit → F → Heap → Prop) (f : F) (h : Heap) : Prop :=
  run P (X.builtin .len #[22] 3 [false] [(f 0)]) (fun v7 h =>
  lp indexFunc_L2 (inB 0 (thenQ (indexFunc_c1 Q) Q)) (U f [(4, (Value.int .i64 0)), (6, (f 0)), (7, v7), (8, (Value.int .i64 0))]) h
  ) h
theorem indexFunc_code : indexFunc_c0 = hcode P indexFunc_md (Try.f84.body.getD .skip) := by kernel_rfl
theorem indexFunc_ok {a0 a1 : Value} {h : Heap} {R : Value → Heap → Prop} (hh : indexFunc_c0 (post [.tmp 4] R) (frame0 #[a0, a1]) h) : HCalls P 84 #[a0, a1] h R :=
  hcalls_gen (md := indexFunc_md) follows Try.func84 indexFunc_code (by kernel_rfl) (by kernel_rfl) (by kernel_rfl) (by kernel_rfl) (by kernel_rfl) hh

/-- slices.rotateLeft[tenon/api.Ref]: parameters [a0, a1]; results []; slots [0:s, 1:r, 2:s, 3:r]; draws [] -/
def rotL_md : Nat → RM := fun _ => RM.quiet
def rotL_c0 (Q : Exit → F → Heap → Prop) (f : F) (h : Heap) : Prop :=
  run P (X.slice 22 (f 0) none (some (f 1)) none) (fun v6 h =>
  run P (X.callF 115 [v6]) (fun v7 h =>
  run P (X.slice 22 (f 0) (some (f 1)) none none) (fun v10 h =>
  run P (X.callF 115 [v10]) (fun v11 h =>
  run P (X.callF 115 [(f 0)]) (fun v13 h =>
  Q .normal (U f [(4, (f 0)), (5, (f 1)), (6, v6), (7, v7), (8, (f 0)), (9, (f 1)), (10, v10), (11, v11), (12, (f 0)), (13, v13)]) h
  ) h
  ) h
  ) h
  ) h
  ) h
theorem rotL_code : rotL_c0 = hcode P rotL_md (Try.f105.body.getD .skip) := by kernel_rfl
theorem rotL_ok {a0 a1 : Value} {h : Heap} {R : Value → Heap → Prop} (hh : rotL_c0 (post [] R) (frame0 #[a0, a1]) h) : HCalls P 105 #[a0, a1] h R :=
  hcalls_gen (md := rotL_md) follows Try.func105 rotL_code (by kernel_rfl) (by kernel_rfl) (by kernel_rfl) (by kernel_rfl) (by kernel_rfl) hh

/-- slices.Reverse[[]tenon/api.Ref,tenon/api.Ref]: parameters [a0]; results []; slots [0:s, 1:s, 2:i, 3:j]; draws [3] -/
def reverse_md : Nat → RM := fun i => if i = 3 then RM.sync [(0, 1), (1, 1), (2, 0), (3, 0), (4, 1), (5, 1), (6, 1), (7, 1), (8, 0), (9, 0), (10, 0), (11, 1), (12, 1), (13, 2), (14, 1), (15, 2)] else RM.quiet
def reverse_L1 (Q : Exit → F → Heap → Prop) (f : F) (h : Heap) : Prop :=
  run P (X.bin .lss 3 false false (f 2) (f 3)) (fun v9 h =>
  br v9 (
    headq P (X.move (f 0)) (fun v14 =>
    headq P (X.move (f 2)) (fun v15 =>
    tf P (X.move (f 0)) (fun v16 =>
    tf P (X.move (f 3)) (fun v17 =>
    headq P (X.move (f 0)) (fun v18 =>
    headq P (X.move (f 3)) (fun v19 =>
    headq P (X.indexAddr 22 v18 v19) (fun v20 =>
    headq P (X.load 41 v20) (fun v21 =>
    tf P (X.move (f 0)) (fun v22 =>
    tf P (X.move (f 2)) (fun v23 =>
    tf P (X.indexAddr 22 v22 v23) (fun v24 =>
    headq P (X.load 41 v24) (fun v25 =>
    headq P (X.indexAddr 22 v14 v15) (fun v26 =>
    run P (X.store 41 v26 v21) (fun _ h =>
    headq P (X.indexAddr 22 v16 v17) (fun v27 =>
    run P (X.store 41 v27 v25) (fun _ h =>
    run P (X.bin .add 3 false true (f 2) (Value.int .i64 1)) (fun v11 h =>
    run P (X.bin .sub 3 false true (f 3) (Value.int .i64 1)) (fun v13 h =>
    Q .normal (U f [(7, (f 2)), (8, (f 3)), (9, v9), (14, v14), (15, v15), (16, v16), (17, v17), (18, v18), (19, v19), (20, v20), (21, v21), (22, v22), (23, v23), (24, v24), (25, v25), (26, v26), (27, v27), (10, (f 2)), (11, v11), (12, (f 3)), (13, v13), (2, v11), (3, v13)]) h
    ) h
    ) h
    ) h
    ) h
    ) h
    ) h
    ) h
    )
    )
    )
    ) h
    ) h
    ) h
    ) h
    )
    )
    ) h
    ) h
  ) (
    Q (.exit 0) (U f [(7, (f 2)), (8, (f 3)), (9, v9)]) h
  )
  ) h

def reverse_c0 (Q : Exit → F → Heap → Prop) (f : F) (h : Heap) : Prop :=
  run P (X.builtin .len #[22] 3 [false] [(f 0)]) (fun v5 h =>
  run P (X.bin .sub 3 false true v5 (Value.int .i64 1)) (fun v6 h =>
  lp reverse_L1 (inB 0 Q) (U f [(4, (f 0)), (5, v5), (6, v6), (2, (Value.int .i64 0)), (3, v6)]) h
  ) h
  ) h
theorem reverse_code : reverse_c0 = hcode P reverse_md (Try.f115.body.getD .skip) := by kernel_rfl
theorem reverse_ok {a0 : Value} {h : Heap} {R : Value → Heap → Prop} (hh : reverse_c0 (post [] R) (frame0 #[a0]) h) : HCalls P 115 #[a0] h R :=
  hcalls_gen (md := reverse_md) follows Try.func115 reverse_code (by kernel_rfl) (by kernel_rfl) (by kernel_rfl) (by kernel_rfl) (by kernel_rfl) hh

/-- slices.Collect[tenon/api.Ref]: parameters [a0]; results [.tmp 2]; slots [0:seq, 1:seq]; draws [] -/
def collect_md : Nat → RM := fun _ => RM.quiet
def collect_c0 (Q : Exit → F → Heap → Prop) (f : F) (h : Heap) : Prop :=
  run P (X.callF 106 [(Value.slice none 0 0), (f 0)]) (fun v4 h =>
  Q .ret (U f [(2, (Value.slice none 0 0)), (3, (f 0)), (4, v4), (2, v4)]) h
  ) h
theorem collect_code : collect_c0 = hcode P collect_md (Try.f85.body.getD .skip) := by kernel_rfl
theorem collect_ok {a0 : Value} {h : Heap} {R : Value → Heap → Prop} (hh : collect_c0 (post [.tmp 2] R) (frame0 #[a0]) h) : HCalls P 85 #[a0] h R :=
  hcalls_gen (md := collect_md) follows Try.func85 collect_code (by kernel_rfl) (by kernel_rfl) (by kernel_rfl) (by kernel_rfl) (by kernel_rfl) hh

end Go.Proofs.G
