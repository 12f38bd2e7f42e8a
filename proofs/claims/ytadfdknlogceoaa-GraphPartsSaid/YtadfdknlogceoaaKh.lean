import Derived.Test.YtadfdknlogceoaaKd
set_option linter.all false
open Go Go.Hv
set_option maxRecDepth 100000
namespace Go.Proofs.G
/-- slices.pdqsortCmpFunc[[]tenon/api.Ref]: parameters [a0, a1, a2, a3, a4]; results []; slots [0:data, 1:a, 2:b, 3:limit, 4:cmp, 5:data, 6:a, 7:b, 8:limit, 9:cmp, 10:wasBalanced, 11:wasPartitioned, 12:length, 13:pivot, 14:hint, 15:mid, 16:mid, 17:alreadyPartitioned, 18:leftLen, 19:rightLen, 20:balanceThreshold]; draws [17] -/
def pdqF_md : Nat → RM := fun i => if i = 17 then RM.tail 13 else RM.quiet
def pdqF_c4 (Q : Exit → F → Heap → Prop) (f : F) (h : Heap) : Prop :=
  headq P (X.move (f 1)) (fun v81 =>
  headq P (X.bin .gtr 3 false true v81 (Value.int .i64 0)) (fun v82 =>
  headq P (X.move v82) (fun v83 =>
  whenq (gw v83 true) (headq P (X.move (f 4))) (fun v84 =>
  whenq (gw v83 true) (headq P (X.move (f 0))) (fun v85 =>
  whenq (gw v83 true) (headq P (X.move (f 1))) (fun v86 =>
  whenq (gw v83 true) (headq P (X.bin .sub 3 false true v86 (Value.int .i64 1))) (fun v87 =>
  whenq (gw v83 true) (headq P (X.indexAddr 36 v85 v87)) (fun v88 =>
  whenq (gw v83 true) (headq P (X.load 22 v88)) (fun v89 =>
  whenq (gw v83 true) (headq P (X.move (f 0))) (fun v90 =>
  whenq (gw v83 true) (headq P (X.move (f 13))) (fun v91 =>
  whenq (gw v83 true) (headq P (X.indexAddr 36 v90 v91)) (fun v92 =>
  whenq (gw v83 true) (headq P (X.load 22 v92)) (fun v93 =>
  when (gw v83 true) (run P (X.dyn v84 [v89, v93])) (fun v94 h =>
  when (gw v83 true) (run P (X.bin .lss 3 false true v94 (Value.int .i64 0))) (fun v95 h =>
  when (gw v83 true) (run P (X.un .not v95)) (fun v96 h =>
  run P (X.pick v83 v96 (Value.bool false)) (fun v97 h =>
  br v97 (
    run P (X.callF 103 [(f 0), (f 1), (f 2), (f 13), (f 4)]) (fun v103 h =>
    Q .normal (U f [(81, v81), (82, v82), (83, v83), (84, v84), (85, v85), (86, v86), (87, v87), (88, v88), (89, v89), (90, v90), (91, v91), (92, v92), (93, v93), (94, v94), (95, v95), (96, v96), (97, v97), (98, (f 0)), (99, (f 1)), (100, (f 2)), (101, (f 13)), (102, (f 4)), (103, v103), (15, v103), (104, v103), (1, v103)]) h
    ) h
  ) (
    run P (X.callF 104 [(f 0), (f 1), (f 2), (f 13), (f 4)]) (fun v111 h =>
    run P (X.extract v111 0) (fun v112 h =>
    run P (X.extract v111 1) (fun v113 h =>
    run P (X.bin .sub 3 false false v112 (f 1)) (fun v117 h =>
    run P (X.bin .sub 3 false false (f 2) v112) (fun v120 h =>
    run P (X.bin .quo 3 false true (f 12) (Value.int .i64 8)) (fun v122 h =>
    run P (X.bin .lss 3 false false v117 v120) (fun v125 h =>
    br v125 (
      run P (X.bin .geq 3 false false v117 v122) (fun v128 h =>
      run P (X.callF 76 [(f 0), (f 1), v112, (f 3), (f 4)]) (fun v134 h =>
      run P (X.bin .add 3 false true v112 (Value.int .i64 1)) (fun v136 h =>
      Q .normal (U f [(81, v81), (82, v82), (83, v83), (84, v84), (85, v85), (86, v86), (87, v87), (88, v88), (89, v89), (90, v90), (91, v91), (92, v92), (93, v93), (94, v94), (95, v95), (96, v96), (97, v97), (106, (f 0)), (107, (f 1)), (108, (f 2)), (109, (f 13)), (110, (f 4)), (111, v111), (105, v111), (112, v112), (113, v113), (16, v112), (17, v113), (114, v113), (11, v113), (115, v112), (116, (f 1)), (117, v117), (118, (f 2)), (119, v112), (120, v120), (18, v117), (19, v120), (121, (f 12)), (122, v122), (20, v122), (123, v117), (124, v120), (125, v125), (126, v117), (127, v122), (128, v128), (10, v128), (129, (f 0)), (130, (f 1)), (131, v112), (132, (f 3)), (133, (f 4)), (134, v134), (135, v112), (136, v136), (1, v136)]) h
      ) h
      ) h
      ) h
    ) (
      run P (X.bin .geq 3 false false v120 v122) (fun v139 h =>
      run P (X.bin .add 3 false true v112 (Value.int .i64 1)) (fun v142 h =>
      run P (X.callF 76 [(f 0), v142, (f 2), (f 3), (f 4)]) (fun v146 h =>
      Q .normal (U f [(81, v81), (82, v82), (83, v83), (84, v84), (85, v85), (86, v86), (87, v87), (88, v88), (89, v89), (90, v90), (91, v91), (92, v92), (93, v93), (94, v94), (95, v95), (96, v96), (97, v97), (106, (f 0)), (107, (f 1)), (108, (f 2)), (109, (f 13)), (110, (f 4)), (111, v111), (105, v111), (112, v112), (113, v113), (16, v112), (17, v113), (114, v113), (11, v113), (115, v112), (116, (f 1)), (117, v117), (118, (f 2)), (119, v112), (120, v120), (18, v117), (19, v120), (121, (f 12)), (122, v122), (20, v122), (123, v117), (124, v120), (125, v125), (137, v120), (138, v122), (139, v139), (10, v139), (140, (f 0)), (141, v112), (142, v142), (143, (f 2)), (144, (f 3)), (145, (f 4)), (146, v146), (147, v112), (2, v112)]) h
      ) h
      ) h
      ) h
    )
    ) h
    ) h
    ) h
    ) h
    ) h
    ) h
    ) h
  )
  ) h
  ) h
  ) h
  ) h
  ) h
  ) h
  ) h
  ) h
  ) h
  ) h
  ) h
  ) h
  ) h
  ) h
  ) h
  ) h
  ) h

def pdqF_c3 (Q : Exit → F → Heap → Prop) (f : F) (h : Heap) : Prop :=
  when (gw (f 10) true) (run P (X.move (f 11))) (fun v70 h =>
  run P (X.pick (f 10) v70 (Value.bool false)) (fun v71 h =>
  when (gw v71 true) (run P (X.move (f 14))) (fun v73 h =>
  when (gw v71 true) (run P (X.bin .eql 119 false true v73 (Value.int .i64 1))) (fun v74 h =>
  run P (X.pick v71 v74 (Value.bool false)) (fun v75 h =>
  br v75 (
    run P (X.callF 102 [(f 0), (f 1), (f 2), (f 4)]) (fun v80 h =>
    br v80 (
      Q .ret (U f [(68, (f 10)), (69, (f 10)), (70, v70), (71, v71), (72, v71), (73, v73), (74, v74), (75, v75), (76, (f 0)), (77, (f 1)), (78, (f 2)), (79, (f 4)), (80, v80)]) h
    ) (
      pdqF_c4 Q (U f [(68, (f 10)), (69, (f 10)), (70, v70), (71, v71), (72, v71), (73, v73), (74, v74), (75, v75), (76, (f 0)), (77, (f 1)), (78, (f 2)), (79, (f 4)), (80, v80)]) h
    )
    ) h
  ) (
    pdqF_c4 Q (U f [(68, (f 10)), (69, (f 10)), (70, v70), (71, v71), (72, v71), (73, v73), (74, v74), (75, v75)]) h
  )
  ) h
  ) h
  ) h
  ) h
  ) h

def pdqF_c2 (Q : Exit → F → Heap → Prop) (f : F) (h : Heap) : Prop :=
  run P (X.callF 100 [(f 0), (f 1), (f 2), (f 4)]) (fun v52 h =>
  run P (X.extract v52 0) (fun v53 h =>
  run P (X.extract v52 1) (fun v54 h =>
  run P (X.bin .eql 119 false true v54 (Value.int .i64 2)) (fun v56 h =>
  br v56 (
    run P (X.callF 101 [(f 0), (f 1), (f 2), (f 4)]) (fun v61 h =>
    run P (X.bin .sub 3 false true (f 2) (Value.int .i64 1)) (fun v63 h =>
    run P (X.bin .sub 3 false false v53 (f 1)) (fun v66 h =>
    run P (X.bin .sub 3 false false v63 v66) (fun v67 h =>
    pdqF_c3 Q (U f [(48, (f 0)), (49, (f 1)), (50, (f 2)), (51, (f 4)), (52, v52), (47, v52), (53, v53), (54, v54), (13, v53), (14, v54), (55, v54), (56, v56), (57, (f 0)), (58, (f 1)), (59, (f 2)), (60, (f 4)), (61, v61), (62, (f 2)), (63, v63), (64, v53), (65, (f 1)), (66, v66), (67, v67), (13, v67), (14, (Value.int .i64 1))]) h
    ) h
    ) h
    ) h
    ) h
  ) (
    pdqF_c3 Q (U f [(48, (f 0)), (49, (f 1)), (50, (f 2)), (51, (f 4)), (52, v52), (47, v52), (53, v53), (54, v54), (13, v53), (14, v54), (55, v54), (56, v56)]) h
  )
  ) h
  ) h
  ) h
  ) h

def pdqF_L1 (Q : Exit → F → Heap → Prop) (f : F) (h : Heap) : Prop :=
  run P (X.bin .sub 3 false false (f 2) (f 1)) (fun v23 h =>
  run P (X.bin .leq 3 false true v23 (Value.int .i64 12)) (fun v25 h =>
  br v25 (
    run P (X.callF 97 [(f 0), (f 1), (f 2), (f 4)]) (fun v30 h =>
    Q .ret (U f [(21, (f 2)), (22, (f 1)), (23, v23), (12, v23), (24, v23), (25, v25), (26, (f 0)), (27, (f 1)), (28, (f 2)), (29, (f 4)), (30, v30)]) h
    ) h
  ) (
    run P (X.bin .eql 3 false true (f 3) (Value.int .i64 0)) (fun v32 h =>
    br v32 (
      run P (X.callF 98 [(f 0), (f 1), (f 2), (f 4)]) (fun v37 h =>
      Q .ret (U f [(21, (f 2)), (22, (f 1)), (23, v23), (12, v23), (24, v23), (25, v25), (31, (f 3)), (32, v32), (33, (f 0)), (34, (f 1)), (35, (f 2)), (36, (f 4)), (37, v37)]) h
      ) h
    ) (
      run P (X.un .not (f 10)) (fun v39 h =>
      br v39 (
        run P (X.callF 99 [(f 0), (f 1), (f 2), (f 4)]) (fun v44 h =>
        run P (X.bin .sub 3 false true (f 3) (Value.int .i64 1)) (fun v46 h =>
        pdqF_c2 Q (U f [(21, (f 2)), (22, (f 1)), (23, v23), (12, v23), (24, v23), (25, v25), (31, (f 3)), (32, v32), (38, (f 10)), (39, v39), (40, (f 0)), (41, (f 1)), (42, (f 2)), (43, (f 4)), (44, v44), (45, (f 3)), (46, v46), (3, v46)]) h
        ) h
        ) h
      ) (
        pdqF_c2 Q (U f [(21, (f 2)), (22, (f 1)), (23, v23), (12, v23), (24, v23), (25, v25), (31, (f 3)), (32, v32), (38, (f 10)), (39, v39)]) h
      )
      ) h
    )
    ) h
  )
  ) h
  ) h

def pdqF_c0 (Q : Exit → F → Heap → Prop) (f : F) (h : Heap) : Prop :=
  lp pdqF_L1 (inB 0 Q) (U f [(10, (Value.bool true)), (11, (Value.bool true))]) h
theorem pdqF_code : pdqF_c0 = hcode P pdqF_md (Try.f76.body.getD .skip) := by kernel_rfl
theorem pdqF_ok {a0 a1 a2 a3 a4 : Value} {h : Heap} {R : Value → Heap → Prop} (hh : pdqF_c0 (post [] R) (frame0 #[a0, a1, a2, a3, a4]) h) : HCalls P 76 #[a0, a1, a2, a3, a4] h R :=
  hcalls_gen (md := pdqF_md) follows Try.func76 pdqF_code (by kernel_rfl) (by kernel_rfl) (by kernel_rfl) (by kernel_rfl) (by kernel_rfl) hh

/-- slices.insertionSortCmpFunc[[]tenon/api.Ref]: parameters [a0, a1, a2, a3]; results []; slots [0:data, 1:a, 2:b, 3:cmp, 4:data, 5:a, 6:b, 7:cmp, 8:i, 9:j]; draws [4, 6] -/
def insSortF_md : Nat → RM := fun i => if i = 4 then RM.tail 14 else if i = 6 then RM.sync [(0, 1), (1, 1), (2, 0), (3, 0), (4, 0), (5, 1), (6, 1), (7, 1), (8, 1), (9, 1), (10, 0), (11, 0), (12, 0), (13, 1), (14, 1), (15, 2), (16, 1), (17, 2)] else RM.quiet
def insSortF_c2 (Q : Exit → F → Heap → Prop) (f : F) (h : Heap) : Prop :=
  run P (X.bin .add 3 false true (f 8) (Value.int .i64 1)) (fun v16 h =>
  Q .normal (U f [(15, (f 8)), (16, v16), (8, v16)]) h
  ) h

def insSortF_L3 (Q : Exit → F → Heap → Prop) (f : F) (h : Heap) : Prop :=
  headq P (X.move (f 9)) (fun v18 =>
  headq P (X.move (f 1)) (fun v19 =>
  headq P (X.bin .gtr 3 false false v18 v19) (fun v20 =>
  headq P (X.move v20) (fun v21 =>
  whenq (gw v21 true) (headq P (X.move (f 3))) (fun v22 =>
  whenq (gw v21 true) (headq P (X.move (f 0))) (fun v23 =>
  whenq (gw v21 true) (headq P (X.move (f 9))) (fun v24 =>
  whenq (gw v21 true) (headq P (X.indexAddr 36 v23 v24)) (fun v25 =>
  whenq (gw v21 true) (headq P (X.load 22 v25)) (fun v26 =>
  whenq (gw v21 true) (headq P (X.move (f 0))) (fun v27 =>
  whenq (gw v21 true) (headq P (X.move (f 9))) (fun v28 =>
  whenq (gw v21 true) (headq P (X.bin .sub 3 false true v28 (Value.int .i64 1))) (fun v29 =>
  whenq (gw v21 true) (headq P (X.indexAddr 36 v27 v29)) (fun v30 =>
  whenq (gw v21 true) (headq P (X.load 22 v30)) (fun v31 =>
  when (gw v21 true) (run P (X.dyn v22 [v26, v31])) (fun v32 h =>
  when (gw v21 true) (run P (X.bin .lss 3 false true v32 (Value.int .i64 0))) (fun v33 h =>
  run P (X.pick v21 v33 (Value.bool false)) (fun v34 h =>
  br v34 (
    headq P (X.move (f 0)) (fun v37 =>
    headq P (X.move (f 9)) (fun v38 =>
    tf P (X.move (f 0)) (fun v39 =>
    tf P (X.move (f 9)) (fun v40 =>
    tf P (X.bin .sub 3 false true v40 (Value.int .i64 1)) (fun v41 =>
    headq P (X.move (f 0)) (fun v42 =>
    headq P (X.move (f 9)) (fun v43 =>
    headq P (X.bin .sub 3 false true v43 (Value.int .i64 1)) (fun v44 =>
    headq P (X.indexAddr 36 v42 v44) (fun v45 =>
    headq P (X.load 22 v45) (fun v46 =>
    tf P (X.move (f 0)) (fun v47 =>
    tf P (X.move (f 9)) (fun v48 =>
    tf P (X.indexAddr 36 v47 v48) (fun v49 =>
    headq P (X.load 22 v49) (fun v50 =>
    headq P (X.indexAddr 36 v37 v38) (fun v51 =>
    run P (X.store 22 v51 v46) (fun _ h =>
    headq P (X.indexAddr 36 v39 v41) (fun v52 =>
    run P (X.store 22 v52 v50) (fun _ h =>
    run P (X.bin .sub 3 false true (f 9) (Value.int .i64 1)) (fun v36 h =>
    Q .normal (U f [(18, v18), (19, v19), (20, v20), (21, v21), (22, v22), (23, v23), (24, v24), (25, v25), (26, v26), (27, v27), (28, v28), (29, v29), (30, v30), (31, v31), (32, v32), (33, v33), (34, v34), (37, v37), (38, v38), (39, v39), (40, v40), (41, v41), (42, v42), (43, v43), (44, v44), (45, v45), (46, v46), (47, v47), (48, v48), (49, v49), (50, v50), (51, v51), (52, v52), (35, (f 9)), (36, v36), (9, v36)]) h
    ) h
    ) h
    ) h
    ) h
    ) h
    ) h
    )
    )
    )
    ) h
    ) h
    ) h
    ) h
    ) h
    )
    )
    )
    ) h
    ) h
  ) (
    Q (.exit 2) (U f [(18, v18), (19, v19), (20, v20), (21, v21), (22, v22), (23, v23), (24, v24), (25, v25), (26, v26), (27, v27), (28, v28), (29, v29), (30, v30), (31, v31), (32, v32), (33, v33), (34, v34)]) h
  )
  ) h
  ) h
  ) h
  ) h
  ) h
  ) h
  ) h
  ) h
  ) h
  ) h
  ) h
  ) h
  ) h
  ) h
  ) h
  ) h
  ) h

def insSortF_L1 (Q : Exit → F → Heap → Prop) (f : F) (h : Heap) : Prop :=
  run P (X.bin .lss 3 false false (f 8) (f 2)) (fun v14 h =>
  br v14 (
    lp insSortF_L3 (inB 2 (inB 1 (thenQ (insSortF_c2 Q) Q))) (U f [(12, (f 8)), (13, (f 2)), (14, v14), (17, (f 8)), (9, (f 8))]) h
  ) (
    Q (.exit 0) (U f [(12, (f 8)), (13, (f 2)), (14, v14)]) h
  )
  ) h

def insSortF_c0 (Q : Exit → F → Heap → Prop) (f : F) (h : Heap) : Prop :=
  run P (X.bin .add 3 false true (f 1) (Value.int .i64 1)) (fun v11 h =>
  lp insSortF_L1 (inB 0 Q) (U f [(10, (f 1)), (11, v11), (8, v11)]) h
  ) h
theorem insSortF_code : insSortF_c0 = hcode P insSortF_md (Try.f97.body.getD .skip) := by kernel_rfl
theorem insSortF_ok {a0 a1 a2 a3 : Value} {h : Heap} {R : Value → Heap → Prop} (hh : insSortF_c0 (post [] R) (frame0 #[a0, a1, a2, a3]) h) : HCalls P 97 #[a0, a1, a2, a3] h R :=
  hcalls_gen (md := insSortF_md) follows Try.func97 insSortF_code (by kernel_rfl) (by kernel_rfl) (by kernel_rfl) (by kernel_rfl) (by kernel_rfl) hh

/-- slices.heapSortCmpFunc[[]tenon/api.Ref]: parameters [a0, a1, a2, a3]; results []; slots [0:data, 1:a, 2:b, 3:cmp, 4:data, 5:a, 6:b, 7:cmp, 8:first, 9:lo, 10:hi, 11:i, 12:i]; draws [10] -/
def heapSortF_md : Nat → RM := fun i => if i = 10 then RM.sync [(0, 1), (1, 1), (2, 0), (3, 0), (4, 0), (5, 0), (6, 1), (7, 1), (8, 1), (9, 1), (10, 1), (11, 1), (12, 0), (13, 0), (14, 0), (15, 1), (16, 1), (17, 2), (18, 1), (19, 2)] else RM.quiet
def heapSortF_L2 (Q : Exit → F → Heap → Prop) (f : F) (h : Heap) : Prop :=
  run P (X.bin .geq 3 false true (f 12) (Value.int .i64 0)) (fun v33 h =>
  br v33 (
    headq P (X.move (f 0)) (fun v36 =>
    headq P (X.move (f 8)) (fun v37 =>
    tf P (X.move (f 0)) (fun v38 =>
    tf P (X.move (f 8)) (fun v39 =>
    tf P (X.move (f 12)) (fun v40 =>
    tf P (X.bin .add 3 false false v39 v40) (fun v41 =>
    headq P (X.move (f 0)) (fun v42 =>
    headq P (X.move (f 8)) (fun v43 =>
    headq P (X.move (f 12)) (fun v44 =>
    headq P (X.bin .add 3 false false v43 v44) (fun v45 =>
    headq P (X.indexAddr 36 v42 v45) (fun v46 =>
    headq P (X.load 22 v46) (fun v47 =>
    tf P (X.move (f 0)) (fun v48 =>
    tf P (X.move (f 8)) (fun v49 =>
    tf P (X.indexAddr 36 v48 v49) (fun v50 =>
    headq P (X.load 22 v50) (fun v51 =>
    headq P (X.indexAddr 36 v36 v37) (fun v52 =>
    run P (X.store 22 v52 v47) (fun _ h =>
    headq P (X.indexAddr 36 v38 v41) (fun v53 =>
    run P (X.store 22 v53 v51) (fun _ h =>
    run P (X.callF 112 [(f 0), (f 9), (f 12), (f 8), (f 3)]) (fun v59 h =>
    run P (X.bin .sub 3 false true (f 12) (Value.int .i64 1)) (fun v35 h =>
    Q .normal (U f [(32, (f 12)), (33, v33), (36, v36), (37, v37), (38, v38), (39, v39), (40, v40), (41, v41), (42, v42), (43, v43), (44, v44), (45, v45), (46, v46), (47, v47), (48, v48), (49, v49), (50, v50), (51, v51), (52, v52), (53, v53), (54, (f 0)), (55, (f 9)), (56, (f 12)), (57, (f 8)), (58, (f 3)), (59, v59), (34, (f 12)), (35, v35), (12, v35)]) h
    ) h
    ) h
    ) h
    ) h
    ) h
    ) h
    ) h
    )
    )
    )
    ) h
    ) h
    ) h
    ) h
    ) h
    ) h
    )
    )
    )
    )
    ) h
    ) h
  ) (
    Q (.exit 2) (U f [(32, (f 12)), (33, v33)]) h
  )
  ) h

def heapSortF_c1 (Q : Exit → F → Heap → Prop) (f : F) (h : Heap) : Prop :=
  run P (X.bin .sub 3 false true (f 10) (Value.int .i64 1)) (fun v31 h =>
  lp heapSortF_L2 (inB 2 Q) (U f [(30, (f 10)), (31, v31), (12, v31)]) h
  ) h

def heapSortF_L3 (Q : Exit → F → Heap → Prop) (f : F) (h : Heap) : Prop :=
  run P (X.bin .geq 3 false true (f 11) (Value.int .i64 0)) (fun v21 h =>
  br v21 (
    run P (X.callF 112 [(f 0), (f 11), (f 10), (f 8), (f 3)]) (fun v29 h =>
    run P (X.bin .sub 3 false true (f 11) (Value.int .i64 1)) (fun v23 h =>
    Q .normal (U f [(20, (f 11)), (21, v21), (24, (f 0)), (25, (f 11)), (26, (f 10)), (27, (f 8)), (28, (f 3)), (29, v29), (22, (f 11)), (23, v23), (11, v23)]) h
    ) h
    ) h
  ) (
    Q (.exit 0) (U f [(20, (f 11)), (21, v21)]) h
  )
  ) h

def heapSortF_c0 (Q : Exit → F → Heap → Prop) (f : F) (h : Heap) : Prop :=
  run P (X.bin .sub 3 false false (f 2) (f 1)) (fun v16 h =>
  run P (X.bin .sub 3 false true v16 (Value.int .i64 1)) (fun v18 h =>
  run P (X.bin .quo 3 false true v18 (Value.int .i64 2)) (fun v19 h =>
  lp heapSortF_L3 (inB 0 (thenQ (heapSortF_c1 Q) Q)) (U f [(13, (f 1)), (8, (f 1)), (9, (Value.int .i64 0)), (14, (f 2)), (15, (f 1)), (16, v16), (10, v16), (17, v16), (18, v18), (19, v19), (11, v19)]) h
  ) h
  ) h
  ) h
theorem heapSortF_code : heapSortF_c0 = hcode P heapSortF_md (Try.f98.body.getD .skip) := by kernel_rfl
theorem heapSortF_ok {a0 a1 a2 a3 : Value} {h : Heap} {R : Value → Heap → Prop} (hh : heapSortF_c0 (post [] R) (frame0 #[a0, a1, a2, a3]) h) : HCalls P 98 #[a0, a1, a2, a3] h R :=
  hcalls_gen (md := heapSortF_md) follows Try.func98 heapSortF_code (by kernel_rfl) (by kernel_rfl) (by kernel_rfl) (by kernel_rfl) (by kernel_rfl) hh

/-- slices.breakPatternsCmpFunc[[]tenon/api.Ref]: parameters [a0, a1, a2, a3]; results []; slots [0:data, 1:a, 2:b, 3:cmp, 4:data, 5:a, 6:b, 7:cmp, 8:length, 9:random, 10:modulus, 11:idx, 12:other]; draws [10] -/
def breakPF_md : Nat → RM := fun i => if i = 10 then RM.sync [(0, 1), (1, 1), (2, 0), (3, 0), (4, 0), (5, 0), (6, 1), (7, 1), (8, 1), (9, 1), (10, 1), (11, 1), (12, 0), (13, 0), (14, 0), (15, 1), (16, 1), (17, 2), (18, 1), (19, 2)] else RM.quiet
def breakPF_c2 (Q : Exit → F → Heap → Prop) (f : F) (h : Heap) : Prop :=
  run P (X.bin .add 3 false true (f 11) (Value.int .i64 1)) (fun v37 h =>
  Q .normal (U f [(36, (f 11)), (37, v37), (11, v37)]) h
  ) h

def breakPF_c3 (Q : Exit → F → Heap → Prop) (f : F) (h : Heap) : Prop :=
  headq P (X.move (f 0)) (fun v49 =>
  headq P (X.move (f 11)) (fun v50 =>
  tf P (X.move (f 0)) (fun v51 =>
  tf P (X.move (f 1)) (fun v52 =>
  tf P (X.move (f 12)) (fun v53 =>
  tf P (X.bin .add 3 false false v52 v53) (fun v54 =>
  headq P (X.move (f 0)) (fun v55 =>
  headq P (X.move (f 1)) (fun v56 =>
  headq P (X.move (f 12)) (fun v57 =>
  headq P (X.bin .add 3 false false v56 v57) (fun v58 =>
  headq P (X.indexAddr 36 v55 v58) (fun v59 =>
  headq P (X.load 22 v59) (fun v60 =>
  tf P (X.move (f 0)) (fun v61 =>
  tf P (X.move (f 11)) (fun v62 =>
  tf P (X.indexAddr 36 v61 v62) (fun v63 =>
  headq P (X.load 22 v63) (fun v64 =>
  headq P (X.indexAddr 36 v49 v50) (fun v65 =>
  run P (X.store 22 v65 v60) (fun _ h =>
  headq P (X.indexAddr 36 v51 v54) (fun v66 =>
  run P (X.store 22 v66 v64) (fun _ h =>
  breakPF_c2 Q (U f [(49, v49), (50, v50), (51, v51), (52, v52), (53, v53), (54, v54), (55, v55), (56, v56), (57, v57), (58, v58), (59, v59), (60, v60), (61, v61), (62, v62), (63, v63), (64, v64), (65, v65), (66, v66)]) h
  ) h
  ) h
  ) h
  ) h
  ) h
  )
  )
  )
  ) h
  ) h
  ) h
  ) h
  ) h
  ) h
  )
  )
  )
  )
  ) h
  ) h

def breakPF_L1 (Q : Exit → F → Heap → Prop) (f : F) (h : Heap) : Prop :=
  run P (X.bin .quo 3 false true (f 8) (Value.int .i64 4)) (fun v31 h =>
  run P (X.bin .mul 3 false true v31 (Value.int .i64 2)) (fun v32 h =>
  run P (X.bin .add 3 false false (f 1) v32) (fun v33 h =>
  run P (X.bin .add 3 false true v33 (Value.int .i64 1)) (fun v34 h =>
  run P (X.bin .leq 3 false false (f 11) v34) (fun v35 h =>
  br v35 (
    run P (X.callF 109 [(f 9)]) (fun v38 h =>
    run P (X.bin .sub 112 false true (f 10) (Value.int .u64 1)) (fun v40 h =>
    run P (X.bin .and 112 false false v38 v40) (fun v41 h =>
    run P (X.conv 112 3 v41) (fun v42 h =>
    run P (X.bin .geq 3 false false v42 (f 8)) (fun v45 h =>
    br v45 (
      run P (X.bin .sub 3 false false v42 (f 8)) (fun v48 h =>
      breakPF_c3 Q (U f [(28, (f 11)), (29, (f 1)), (30, (f 8)), (31, v31), (32, v32), (33, v33), (34, v34), (35, v35), (38, v38), (39, (f 10)), (40, v40), (41, v41), (42, v42), (12, v42), (43, v42), (44, (f 8)), (45, v45), (46, v42), (47, (f 8)), (48, v48), (12, v48)]) h
      ) h
    ) (
      breakPF_c3 Q (U f [(28, (f 11)), (29, (f 1)), (30, (f 8)), (31, v31), (32, v32), (33, v33), (34, v34), (35, v35), (38, v38), (39, (f 10)), (40, v40), (41, v41), (42, v42), (12, v42), (43, v42), (44, (f 8)), (45, v45)]) h
    )
    ) h
    ) h
    ) h
    ) h
    ) h
  ) (
    Q (.exit 0) (U f [(28, (f 11)), (29, (f 1)), (30, (f 8)), (31, v31), (32, v32), (33, v33), (34, v34), (35, v35)]) h
  )
  ) h
  ) h
  ) h
  ) h
  ) h

def breakPF_c0 (Q : Exit → F → Heap → Prop) (f : F) (h : Heap) : Prop :=
  run P (X.bin .sub 3 false false (f 2) (f 1)) (fun v15 h =>
  run P (X.bin .geq 3 false true v15 (Value.int .i64 8)) (fun v17 h =>
  br v17 (
    run P (X.conv 3 134 v15) (fun v19 h =>
    run P (X.alloc 134) (fun v9 h =>
    run P (X.store 134 v9 v19) (fun _ h =>
    run P (X.callF 108 [v15]) (fun v21 h =>
    run P (X.bin .quo 3 false true v15 (Value.int .i64 4)) (fun v24 h =>
    run P (X.bin .mul 3 false true v24 (Value.int .i64 2)) (fun v25 h =>
    run P (X.bin .add 3 false false (f 1) v25) (fun v26 h =>
    run P (X.bin .sub 3 false true v26 (Value.int .i64 1)) (fun v27 h =>
    lp breakPF_L1 (inB 0 Q) (U f [(13, (f 2)), (14, (f 1)), (15, v15), (8, v15), (16, v15), (17, v17), (18, v15), (19, v19), (9, v9), (20, v15), (21, v21), (10, v21), (22, (f 1)), (23, v15), (24, v24), (25, v25), (26, v26), (27, v27), (11, v27)]) h
    ) h
    ) h
    ) h
    ) h
    ) h
    ) h
    ) h
    ) h
  ) (
    Q .normal (U f [(13, (f 2)), (14, (f 1)), (15, v15), (8, v15), (16, v15), (17, v17)]) h
  )
  ) h
  ) h
theorem breakPF_code : breakPF_c0 = hcode P breakPF_md (Try.f99.body.getD .skip) := by kernel_rfl
theorem breakPF_ok {a0 a1 a2 a3 : Value} {h : Heap} {R : Value → Heap → Prop} (hh : breakPF_c0 (post [] R) (frame0 #[a0, a1, a2, a3]) h) : HCalls P 99 #[a0, a1, a2, a3] h R :=
  hcalls_gen (md := breakPF_md) follows Try.func99 breakPF_code (by kernel_rfl) (by kernel_rfl) (by kernel_rfl) (by kernel_rfl) (by kernel_rfl) hh

/-- slices.choosePivotCmpFunc[[]tenon/api.Ref]: parameters [a0, a1, a2, a3]; results [.tmp 8, .tmp 9]; slots [0:data, 1:a, 2:b, 3:cmp, 4:data, 5:a, 6:b, 7:cmp, 8:pivot, 9:hint, 10:l, 11:swaps, 12:i, 13:j, 14:k]; draws [] -/
def choosePivF_md : Nat → RM := fun _ => RM.quiet
def choosePivF_c1 (Q : Exit → F → Heap → Prop) (f : F) (h : Heap) : Prop :=
  run P (X.load 3 (f 11)) (fun v55 h =>
  run P (X.bin .eql 3 false true v55 (Value.int .i64 0)) (fun v58 h =>
  br v58 (
    Q .ret (U f [(55, v55), (58, v58), (57, v58), (59, (f 13)), (8, (f 13)), (9, (Value.int .i64 1))]) h
  ) (
    run P (X.bin .eql 3 false true v55 (Value.int .i64 12)) (fun v61 h =>
    br v61 (
      Q .ret (U f [(55, v55), (58, v58), (57, v58), (61, v61), (60, v61), (62, (f 13)), (8, (f 13)), (9, (Value.int .i64 2))]) h
    ) (
      Q .ret (U f [(55, v55), (58, v58), (57, v58), (61, v61), (60, v61), (56, (f 13)), (8, (f 13)), (9, (Value.int .i64 0))]) h
    )
    ) h
  )
  ) h
  ) h

def choosePivF_c2 (Q : Exit → F → Heap → Prop) (f : F) (h : Heap) : Prop :=
  run P (X.callF 114 [(f 0), (f 12), (f 13), (f 14), (f 11), (f 3)]) (fun v54 h =>
  choosePivF_c1 Q (U f [(49, (f 0)), (50, (f 12)), (51, (f 13)), (52, (f 14)), (53, (f 3)), (54, v54), (13, v54)]) h
  ) h

def choosePivF_c0 (Q : Exit → F → Heap → Prop) (f : F) (h : Heap) : Prop :=
  run P (X.bin .sub 3 false false (f 2) (f 1)) (fun v17 h =>
  run P (X.alloc 3) (fun v11 h =>
  run P (X.bin .quo 3 false true v17 (Value.int .i64 4)) (fun v20 h =>
  run P (X.bin .mul 3 false true v20 (Value.int .i64 1)) (fun v21 h =>
  run P (X.bin .add 3 false false (f 1) v21) (fun v22 h =>
  run P (X.bin .quo 3 false true v17 (Value.int .i64 4)) (fun v25 h =>
  run P (X.bin .mul 3 false true v25 (Value.int .i64 2)) (fun v26 h =>
  run P (X.bin .add 3 false false (f 1) v26) (fun v27 h =>
  run P (X.bin .quo 3 false true v17 (Value.int .i64 4)) (fun v30 h =>
  run P (X.bin .mul 3 false true v30 (Value.int .i64 3)) (fun v31 h =>
  run P (X.bin .add 3 false false (f 1) v31) (fun v32 h =>
  run P (X.bin .geq 3 false true v17 (Value.int .i64 8)) (fun v34 h =>
  br v34 (
    run P (X.bin .geq 3 false true v17 (Value.int .i64 50)) (fun v36 h =>
    br v36 (
      run P (X.callF 113 [(f 0), v22, v11, (f 3)]) (fun v40 h =>
      run P (X.callF 113 [(f 0), v27, v11, (f 3)]) (fun v44 h =>
      run P (X.callF 113 [(f 0), v32, v11, (f 3)]) (fun v48 h =>
      choosePivF_c2 Q (U f [(8, (Value.int .i64 0)), (9, (Value.int .i64 0)), (15, (f 2)), (16, (f 1)), (17, v17), (10, v17), (11, v11), (18, (f 1)), (19, v17), (20, v20), (21, v21), (22, v22), (12, v22), (23, (f 1)), (24, v17), (25, v25), (26, v26), (27, v27), (13, v27), (28, (f 1)), (29, v17), (30, v30), (31, v31), (32, v32), (14, v32), (33, v17), (34, v34), (35, v17), (36, v36), (37, (f 0)), (38, v22), (39, (f 3)), (40, v40), (12, v40), (41, (f 0)), (42, v27), (43, (f 3)), (44, v44), (13, v44), (45, (f 0)), (46, v32), (47, (f 3)), (48, v48), (14, v48)]) h
      ) h
      ) h
      ) h
    ) (
      choosePivF_c2 Q (U f [(8, (Value.int .i64 0)), (9, (Value.int .i64 0)), (15, (f 2)), (16, (f 1)), (17, v17), (10, v17), (11, v11), (18, (f 1)), (19, v17), (20, v20), (21, v21), (22, v22), (12, v22), (23, (f 1)), (24, v17), (25, v25), (26, v26), (27, v27), (13, v27), (28, (f 1)), (29, v17), (30, v30), (31, v31), (32, v32), (14, v32), (33, v17), (34, v34), (35, v17), (36, v36)]) h
    )
    ) h
  ) (
    choosePivF_c1 Q (U f [(8, (Value.int .i64 0)), (9, (Value.int .i64 0)), (15, (f 2)), (16, (f 1)), (17, v17), (10, v17), (11, v11), (18, (f 1)), (19, v17), (20, v20), (21, v21), (22, v22), (12, v22), (23, (f 1)), (24, v17), (25, v25), (26, v26), (27, v27), (13, v27), (28, (f 1)), (29, v17), (30, v30), (31, v31), (32, v32), (14, v32), (33, v17), (34, v34)]) h
  )
  ) h
  ) h
  ) h
  ) h
  ) h
  ) h
  ) h
  ) h
  ) h
  ) h
  ) h
  ) h
theorem choosePivF_code : choosePivF_c0 = hcode P choosePivF_md (Try.f100.body.getD .skip) := by kernel_rfl
theorem choosePivF_ok {a0 a1 a2 a3 : Value} {h : Heap} {R : Value → Heap → Prop} (hh : choosePivF_c0 (post [.tmp 8, .tmp 9] R) (frame0 #[a0, a1, a2, a3]) h) : HCalls P 100 #[a0, a1, a2, a3] h R :=
  hcalls_gen (md := choosePivF_md) follows Try.func100 choosePivF_code (by kernel_rfl) (by kernel_rfl) (by kernel_rfl) (by kernel_rfl) (by kernel_rfl) hh

/-- slices.reverseRangeCmpFunc[[]tenon/api.Ref]: parameters [a0, a1, a2, a3]; results []; slots [0:data, 1:a, 2:b, 3:cmp, 4:data, 5:a, 6:b, 7:cmp, 8:i, 9:j]; draws [3] -/
def revRangeF_md : Nat → RM := fun i => if i = 3 then RM.sync [(0, 1), (1, 1), (2, 0), (3, 0), (4, 1), (5, 1), (6, 1), (7, 1), (8, 0), (9, 0), (10, 0), (11, 1), (12, 1), (13, 2), (14, 1), (15, 2)] else RM.quiet
def revRangeF_L1 (Q : Exit → F → Heap → Prop) (f : F) (h : Heap) : Prop :=
  run P (X.bin .lss 3 false false (f 8) (f 9)) (fun v15 h =>
  br v15 (
    headq P (X.move (f 0)) (fun v16 =>
    headq P (X.move (f 8)) (fun v17 =>
    tf P (X.move (f 0)) (fun v18 =>
    tf P (X.move (f 9)) (fun v19 =>
    headq P (X.move (f 0)) (fun v20 =>
    headq P (X.move (f 9)) (fun v21 =>
    headq P (X.indexAddr 36 v20 v21) (fun v22 =>
    headq P (X.load 22 v22) (fun v23 =>
    tf P (X.move (f 0)) (fun v24 =>
    tf P (X.move (f 8)) (fun v25 =>
    tf P (X.indexAddr 36 v24 v25) (fun v26 =>
    headq P (X.load 22 v26) (fun v27 =>
    headq P (X.indexAddr 36 v16 v17) (fun v28 =>
    run P (X.store 22 v28 v23) (fun _ h =>
    headq P (X.indexAddr 36 v18 v19) (fun v29 =>
    run P (X.store 22 v29 v27) (fun _ h =>
    run P (X.bin .add 3 false true (f 8) (Value.int .i64 1)) (fun v31 h =>
    run P (X.bin .sub 3 false true (f 9) (Value.int .i64 1)) (fun v33 h =>
    Q .normal (U f [(13, (f 8)), (14, (f 9)), (15, v15), (16, v16), (17, v17), (18, v18), (19, v19), (20, v20), (21, v21), (22, v22), (23, v23), (24, v24), (25, v25), (26, v26), (27, v27), (28, v28), (29, v29), (30, (f 8)), (31, v31), (8, v31), (32, (f 9)), (33, v33), (9, v33)]) h
    ) h
    ) h
    ) h
    ) h
    ) h
    ) h
    ) h
    )
    )
    )
    ) h
    ) h
    ) h
    ) h
    )
    )
    ) h
    ) h
  ) (
    Q (.exit 0) (U f [(13, (f 8)), (14, (f 9)), (15, v15)]) h
  )
  ) h

def revRangeF_c0 (Q : Exit → F → Heap → Prop) (f : F) (h : Heap) : Prop :=
  run P (X.bin .sub 3 false true (f 2) (Value.int .i64 1)) (fun v12 h =>
  lp revRangeF_L1 (inB 0 Q) (U f [(10, (f 1)), (8, (f 1)), (11, (f 2)), (12, v12), (9, v12)]) h
  ) h
theorem revRangeF_code : revRangeF_c0 = hcode P revRangeF_md (Try.f101.body.getD .skip) := by kernel_rfl
theorem revRangeF_ok {a0 a1 a2 a3 : Value} {h : Heap} {R : Value → Heap → Prop} (hh : revRangeF_c0 (post [] R) (frame0 #[a0, a1, a2, a3]) h) : HCalls P 101 #[a0, a1, a2, a3] h R :=
  hcalls_gen (md := revRangeF_md) follows Try.func101 revRangeF_code (by kernel_rfl) (by kernel_rfl) (by kernel_rfl) (by kernel_rfl) (by kernel_rfl) hh

/-- slices.partialInsertionSortCmpFunc[[]tenon/api.Ref]: parameters [a0, a1, a2, a3]; results [.tmp 8]; slots [0:data, 1:a, 2:b, 3:cmp, 4:data, 5:a, 6:b, 7:cmp, 9:i, 10:j, 11:j, 12:j]; draws [5, 11, 16, 17, 22, 23] -/
def partInsF_md : Nat → RM := fun i => if i = 5 then RM.tail 14 else if i = 11 then RM.sync [(0, 1), (1, 1), (2, 0), (3, 0), (4, 0), (5, 1), (6, 1), (7, 1), (8, 1), (9, 1), (10, 0), (11, 0), (12, 0), (13, 1), (14, 1), (15, 2), (16, 1), (17, 2)] else if i = 16 then RM.tail 10 else if i = 17 then RM.sync [(0, 1), (1, 1), (2, 0), (3, 0), (4, 0), (5, 1), (6, 1), (7, 1), (8, 1), (9, 1), (10, 0), (11, 0), (12, 0), (13, 1), (14, 1), (15, 2), (16, 1), (17, 2)] else if i = 22 then RM.tail 10 else if i = 23 then RM.sync [(0, 1), (1, 1), (2, 0), (3, 0), (4, 0), (5, 1), (6, 1), (7, 1), (8, 1), (9, 1), (10, 0), (11, 0), (12, 0), (13, 1), (14, 1), (15, 2), (16, 1), (17, 2)] else RM.quiet
def partInsF_c1 (Q : Exit → F → Heap → Prop) (f : F) (h : Heap) : Prop :=
  Q .ret (U f [(8, (Value.bool false))]) h

def partInsF_c3 (Q : Exit → F → Heap → Prop) (f : F) (h : Heap) : Prop :=
  run P (X.bin .add 3 false true (f 10) (Value.int .i64 1)) (fun v18 h =>
  Q .normal (U f [(17, (f 10)), (18, v18), (10, v18)]) h
  ) h

def partInsF_L6 (Q : Exit → F → Heap → Prop) (f : F) (h : Heap) : Prop :=
  run P (X.bin .lss 3 false false (f 12) (f 2)) (fun v109 h =>
  br v109 (
    headq P (X.move (f 3)) (fun v112 =>
    headq P (X.move (f 0)) (fun v113 =>
    headq P (X.move (f 12)) (fun v114 =>
    headq P (X.indexAddr 36 v113 v114) (fun v115 =>
    headq P (X.load 22 v115) (fun v116 =>
    headq P (X.move (f 0)) (fun v117 =>
    headq P (X.move (f 12)) (fun v118 =>
    headq P (X.bin .sub 3 false true v118 (Value.int .i64 1)) (fun v119 =>
    headq P (X.indexAddr 36 v117 v119) (fun v120 =>
    headq P (X.load 22 v120) (fun v121 =>
    run P (X.dyn v112 [v116, v121]) (fun v122 h =>
    run P (X.bin .lss 3 false true v122 (Value.int .i64 0)) (fun v123 h =>
    run P (X.un .not v123) (fun v124 h =>
    br v124 (
      Q (.exit 6) (U f [(107, (f 12)), (108, (f 2)), (109, v109), (112, v112), (113, v113), (114, v114), (115, v115), (116, v116), (117, v117), (118, v118), (119, v119), (120, v120), (121, v121), (122, v122), (123, v123), (124, v124)]) h
    ) (
      headq P (X.move (f 0)) (fun v125 =>
      headq P (X.move (f 12)) (fun v126 =>
      tf P (X.move (f 0)) (fun v127 =>
      tf P (X.move (f 12)) (fun v128 =>
      tf P (X.bin .sub 3 false true v128 (Value.int .i64 1)) (fun v129 =>
      headq P (X.move (f 0)) (fun v130 =>
      headq P (X.move (f 12)) (fun v131 =>
      headq P (X.bin .sub 3 false true v131 (Value.int .i64 1)) (fun v132 =>
      headq P (X.indexAddr 36 v130 v132) (fun v133 =>
      headq P (X.load 22 v133) (fun v134 =>
      tf P (X.move (f 0)) (fun v135 =>
      tf P (X.move (f 12)) (fun v136 =>
      tf P (X.indexAddr 36 v135 v136) (fun v137 =>
      headq P (X.load 22 v137) (fun v138 =>
      headq P (X.indexAddr 36 v125 v126) (fun v139 =>
      run P (X.store 22 v139 v134) (fun _ h =>
      headq P (X.indexAddr 36 v127 v129) (fun v140 =>
      run P (X.store 22 v140 v138) (fun _ h =>
      run P (X.bin .add 3 false true (f 12) (Value.int .i64 1)) (fun v111 h =>
      Q .normal (U f [(107, (f 12)), (108, (f 2)), (109, v109), (112, v112), (113, v113), (114, v114), (115, v115), (116, v116), (117, v117), (118, v118), (119, v119), (120, v120), (121, v121), (122, v122), (123, v123), (124, v124), (125, v125), (126, v126), (127, v127), (128, v128), (129, v129), (130, v130), (131, v131), (132, v132), (133, v133), (134, v134), (135, v135), (136, v136), (137, v137), (138, v138), (139, v139), (140, v140), (110, (f 12)), (111, v111), (12, v111)]) h
      ) h
      ) h
      ) h
      ) h
      ) h
      ) h
      )
      )
      )
      ) h
      ) h
      ) h
      ) h
      ) h
      )
      )
      )
      ) h
      ) h
    )
    ) h
    ) h
    ) h
    ) h
    ) h
    ) h
    ) h
    ) h
    ) h
    ) h
    ) h
    ) h
    ) h
  ) (
    Q (.exit 6) (U f [(107, (f 12)), (108, (f 2)), (109, v109)]) h
  )
  ) h

def partInsF_c5 (Q : Exit → F → Heap → Prop) (f : F) (h : Heap) : Prop :=
  run P (X.bin .sub 3 false false (f 2) (f 9)) (fun v103 h =>
  run P (X.bin .geq 3 false true v103 (Value.int .i64 2)) (fun v104 h =>
  br v104 (
    run P (X.bin .add 3 false true (f 9) (Value.int .i64 1)) (fun v106 h =>
    lp partInsF_L6 (inB 6 (inB 1 (thenQ (partInsF_c3 Q) Q))) (U f [(101, (f 2)), (102, (f 9)), (103, v103), (104, v104), (105, (f 9)), (106, v106), (12, v106)]) h
    ) h
  ) (
    partInsF_c3 Q (U f [(101, (f 2)), (102, (f 9)), (103, v103), (104, v104)]) h
  )
  ) h
  ) h

def partInsF_L7 (Q : Exit → F → Heap → Prop) (f : F) (h : Heap) : Prop :=
  run P (X.bin .geq 3 false true (f 11) (Value.int .i64 1)) (fun v69 h =>
  br v69 (
    headq P (X.move (f 3)) (fun v72 =>
    headq P (X.move (f 0)) (fun v73 =>
    headq P (X.move (f 11)) (fun v74 =>
    headq P (X.indexAddr 36 v73 v74) (fun v75 =>
    headq P (X.load 22 v75) (fun v76 =>
    headq P (X.move (f 0)) (fun v77 =>
    headq P (X.move (f 11)) (fun v78 =>
    headq P (X.bin .sub 3 false true v78 (Value.int .i64 1)) (fun v79 =>
    headq P (X.indexAddr 36 v77 v79) (fun v80 =>
    headq P (X.load 22 v80) (fun v81 =>
    run P (X.dyn v72 [v76, v81]) (fun v82 h =>
    run P (X.bin .lss 3 false true v82 (Value.int .i64 0)) (fun v83 h =>
    run P (X.un .not v83) (fun v84 h =>
    br v84 (
      Q (.exit 4) (U f [(68, (f 11)), (69, v69), (72, v72), (73, v73), (74, v74), (75, v75), (76, v76), (77, v77), (78, v78), (79, v79), (80, v80), (81, v81), (82, v82), (83, v83), (84, v84)]) h
    ) (
      headq P (X.move (f 0)) (fun v85 =>
      headq P (X.move (f 11)) (fun v86 =>
      tf P (X.move (f 0)) (fun v87 =>
      tf P (X.move (f 11)) (fun v88 =>
      tf P (X.bin .sub 3 false true v88 (Value.int .i64 1)) (fun v89 =>
      headq P (X.move (f 0)) (fun v90 =>
      headq P (X.move (f 11)) (fun v91 =>
      headq P (X.bin .sub 3 false true v91 (Value.int .i64 1)) (fun v92 =>
      headq P (X.indexAddr 36 v90 v92) (fun v93 =>
      headq P (X.load 22 v93) (fun v94 =>
      tf P (X.move (f 0)) (fun v95 =>
      tf P (X.move (f 11)) (fun v96 =>
      tf P (X.indexAddr 36 v95 v96) (fun v97 =>
      headq P (X.load 22 v97) (fun v98 =>
      headq P (X.indexAddr 36 v85 v86) (fun v99 =>
      run P (X.store 22 v99 v94) (fun _ h =>
      headq P (X.indexAddr 36 v87 v89) (fun v100 =>
      run P (X.store 22 v100 v98) (fun _ h =>
      run P (X.bin .sub 3 false true (f 11) (Value.int .i64 1)) (fun v71 h =>
      Q .normal (U f [(68, (f 11)), (69, v69), (72, v72), (73, v73), (74, v74), (75, v75), (76, v76), (77, v77), (78, v78), (79, v79), (80, v80), (81, v81), (82, v82), (83, v83), (84, v84), (85, v85), (86, v86), (87, v87), (88, v88), (89, v89), (90, v90), (91, v91), (92, v92), (93, v93), (94, v94), (95, v95), (96, v96), (97, v97), (98, v98), (99, v99), (100, v100), (70, (f 11)), (71, v71), (11, v71)]) h
      ) h
      ) h
      ) h
      ) h
      ) h
      ) h
      )
      )
      )
      ) h
      ) h
      ) h
      ) h
      ) h
      )
      )
      )
      ) h
      ) h
    )
    ) h
    ) h
    ) h
    ) h
    ) h
    ) h
    ) h
    ) h
    ) h
    ) h
    ) h
    ) h
    ) h
  ) (
    Q (.exit 4) (U f [(68, (f 11)), (69, v69)]) h
  )
  ) h

def partInsF_c4 (Q : Exit → F → Heap → Prop) (f : F) (h : Heap) : Prop :=
  run P (X.bin .eql 3 false false (f 9) (f 2)) (fun v41 h =>
  br v41 (
    Q .ret (U f [(39, (f 9)), (40, (f 2)), (41, v41), (8, (Value.bool true))]) h
  ) (
    run P (X.bin .sub 3 false false (f 2) (f 1)) (fun v44 h =>
    run P (X.bin .lss 3 false true v44 (Value.int .i64 50)) (fun v45 h =>
    br v45 (
      Q .ret (U f [(39, (f 9)), (40, (f 2)), (41, v41), (42, (f 2)), (43, (f 1)), (44, v44), (45, v45), (8, (Value.bool false))]) h
    ) (
      headq P (X.move (f 0)) (fun v46 =>
      headq P (X.move (f 9)) (fun v47 =>
      tf P (X.move (f 0)) (fun v48 =>
      tf P (X.move (f 9)) (fun v49 =>
      tf P (X.bin .sub 3 false true v49 (Value.int .i64 1)) (fun v50 =>
      headq P (X.move (f 0)) (fun v51 =>
      headq P (X.move (f 9)) (fun v52 =>
      headq P (X.bin .sub 3 false true v52 (Value.int .i64 1)) (fun v53 =>
      headq P (X.indexAddr 36 v51 v53) (fun v54 =>
      headq P (X.load 22 v54) (fun v55 =>
      tf P (X.move (f 0)) (fun v56 =>
      tf P (X.move (f 9)) (fun v57 =>
      tf P (X.indexAddr 36 v56 v57) (fun v58 =>
      headq P (X.load 22 v58) (fun v59 =>
      headq P (X.indexAddr 36 v46 v47) (fun v60 =>
      run P (X.store 22 v60 v55) (fun _ h =>
      headq P (X.indexAddr 36 v48 v50) (fun v61 =>
      run P (X.store 22 v61 v59) (fun _ h =>
      run P (X.bin .sub 3 false false (f 9) (f 1)) (fun v64 h =>
      run P (X.bin .geq 3 false true v64 (Value.int .i64 2)) (fun v65 h =>
      br v65 (
        run P (X.bin .sub 3 false true (f 9) (Value.int .i64 1)) (fun v67 h =>
        lp partInsF_L7 (inB 4 (thenQ (partInsF_c5 Q) (inB 1 (thenQ (partInsF_c3 Q) Q)))) (U f [(39, (f 9)), (40, (f 2)), (41, v41), (42, (f 2)), (43, (f 1)), (44, v44), (45, v45), (46, v46), (47, v47), (48, v48), (49, v49), (50, v50), (51, v51), (52, v52), (53, v53), (54, v54), (55, v55), (56, v56), (57, v57), (58, v58), (59, v59), (60, v60), (61, v61), (62, (f 9)), (63, (f 1)), (64, v64), (65, v65), (66, (f 9)), (67, v67), (11, v67)]) h
        ) h
      ) (
        partInsF_c5 Q (U f [(39, (f 9)), (40, (f 2)), (41, v41), (42, (f 2)), (43, (f 1)), (44, v44), (45, v45), (46, v46), (47, v47), (48, v48), (49, v49), (50, v50), (51, v51), (52, v52), (53, v53), (54, v54), (55, v55), (56, v56), (57, v57), (58, v58), (59, v59), (60, v60), (61, v61), (62, (f 9)), (63, (f 1)), (64, v64), (65, v65)]) h
      )
      ) h
      ) h
      ) h
      ) h
      ) h
      ) h
      ) h
      )
      )
      )
      ) h
      ) h
      ) h
      ) h
      ) h
      )
      )
      )
      ) h
      ) h
    )
    ) h
    ) h
  )
  ) h

def partInsF_L8 (Q : Exit → F → Heap → Prop) (f : F) (h : Heap) : Prop :=
  headq P (X.move (f 9)) (fun v19 =>
  headq P (X.move (f 2)) (fun v20 =>
  headq P (X.bin .lss 3 false false v19 v20) (fun v21 =>
  headq P (X.move v21) (fun v22 =>
  whenq (gw v22 true) (headq P (X.move (f 3))) (fun v23 =>
  whenq (gw v22 true) (headq P (X.move (f 0))) (fun v24 =>
  whenq (gw v22 true) (headq P (X.move (f 9))) (fun v25 =>
  whenq (gw v22 true) (headq P (X.indexAddr 36 v24 v25)) (fun v26 =>
  whenq (gw v22 true) (headq P (X.load 22 v26)) (fun v27 =>
  whenq (gw v22 true) (headq P (X.move (f 0))) (fun v28 =>
  whenq (gw v22 true) (headq P (X.move (f 9))) (fun v29 =>
  whenq (gw v22 true) (headq P (X.bin .sub 3 false true v29 (Value.int .i64 1))) (fun v30 =>
  whenq (gw v22 true) (headq P (X.indexAddr 36 v28 v30)) (fun v31 =>
  whenq (gw v22 true) (headq P (X.load 22 v31)) (fun v32 =>
  when (gw v22 true) (run P (X.dyn v23 [v27, v32])) (fun v33 h =>
  when (gw v22 true) (run P (X.bin .lss 3 false true v33 (Value.int .i64 0))) (fun v34 h =>
  when (gw v22 true) (run P (X.un .not v34)) (fun v35 h =>
  run P (X.pick v22 v35 (Value.bool false)) (fun v36 h =>
  br v36 (
    run P (X.bin .add 3 false true (f 9) (Value.int .i64 1)) (fun v38 h =>
    Q .normal (U f [(19, v19), (20, v20), (21, v21), (22, v22), (23, v23), (24, v24), (25, v25), (26, v26), (27, v27), (28, v28), (29, v29), (30, v30), (31, v31), (32, v32), (33, v33), (34, v34), (35, v35), (36, v36), (37, (f 9)), (38, v38), (9, v38)]) h
    ) h
  ) (
    Q (.exit 2) (U f [(19, v19), (20, v20), (21, v21), (22, v22), (23, v23), (24, v24), (25, v25), (26, v26), (27, v27), (28, v28), (29, v29), (30, v30), (31, v31), (32, v32), (33, v33), (34, v34), (35, v35), (36, v36)]) h
  )
  ) h
  ) h
  ) h
  ) h
  ) h
  ) h
  ) h
  ) h
  ) h
  ) h
  ) h
  ) h
  ) h
  ) h
  ) h
  ) h
  ) h
  ) h

def partInsF_L2 (Q : Exit → F → Heap → Prop) (f : F) (h : Heap) : Prop :=
  run P (X.bin .lss 3 false true (f 10) (Value.int .i64 5)) (fun v16 h =>
  br v16 (
    lp partInsF_L8 (inB 2 (thenQ (partInsF_c4 Q) (inB 1 (thenQ (partInsF_c3 Q) Q)))) (U f [(15, (f 10)), (16, v16)]) h
  ) (
    Q (.exit 0) (U f [(15, (f 10)), (16, v16)]) h
  )
  ) h

def partInsF_c0 (Q : Exit → F → Heap → Prop) (f : F) (h : Heap) : Prop :=
  run P (X.bin .add 3 false true (f 1) (Value.int .i64 1)) (fun v14 h =>
  lp partInsF_L2 (inB 0 (thenQ (partInsF_c1 Q) Q)) (U f [(8, (Value.bool false)), (13, (f 1)), (14, v14), (9, v14), (10, (Value.int .i64 0))]) h
  ) h
theorem partInsF_code : partInsF_c0 = hcode P partInsF_md (Try.f102.body.getD .skip) := by kernel_rfl
theorem partInsF_ok {a0 a1 a2 a3 : Value} {h : Heap} {R : Value → Heap → Prop} (hh : partInsF_c0 (post [.tmp 8] R) (frame0 #[a0, a1, a2, a3]) h) : HCalls P 102 #[a0, a1, a2, a3] h R :=
  hcalls_gen (md := partInsF_md) follows Try.func102 partInsF_code (by kernel_rfl) (by kernel_rfl) (by kernel_rfl) (by kernel_rfl) (by kernel_rfl) hh

/-- slices.partitionEqualCmpFunc[[]tenon/api.Ref]: parameters [a0, a1, a2, a3, a4]; results [.tmp 10]; slots [0:data, 1:a, 2:b, 3:pivot, 4:cmp, 5:data, 6:a, 7:b, 8:pivot, 9:cmp, 10:newpivot, 11:i, 12:j]; draws [1, 3, 5, 8] -/
def partEqF_md : Nat → RM := fun i => if i = 1 then RM.sync [(0, 1), (1, 1), (2, 0), (3, 0), (4, 1), (5, 1), (6, 1), (7, 1), (8, 0), (9, 0), (10, 0), (11, 1), (12, 1), (13, 2), (14, 1), (15, 2)] else if i = 3 then RM.tail 13 else if i = 5 then RM.tail 13 else if i = 8 then RM.sync [(0, 1), (1, 1), (2, 0), (3, 0), (4, 1), (5, 1), (6, 1), (7, 1), (8, 0), (9, 0), (10, 0), (11, 1), (12, 1), (13, 2), (14, 1), (15, 2)] else RM.quiet
def partEqF_c1 (Q : Exit → F → Heap → Prop) (f : F) (h : Heap) : Prop :=
  Q .ret (U f [(89, (f 11)), (10, (f 11))]) h

def partEqF_c4 (Q : Exit → F → Heap → Prop) (f : F) (h : Heap) : Prop :=
  run P (X.bin .gtr 3 false false (f 11) (f 12)) (fun v70 h =>
  br v70 (
    Q (.exit 0) (U f [(68, (f 11)), (69, (f 12)), (70, v70)]) h
  ) (
    headq P (X.move (f 0)) (fun v71 =>
    headq P (X.move (f 11)) (fun v72 =>
    tf P (X.move (f 0)) (fun v73 =>
    tf P (X.move (f 12)) (fun v74 =>
    headq P (X.move (f 0)) (fun v75 =>
    headq P (X.move (f 12)) (fun v76 =>
    headq P (X.indexAddr 36 v75 v76) (fun v77 =>
    headq P (X.load 22 v77) (fun v78 =>
    tf P (X.move (f 0)) (fun v79 =>
    tf P (X.move (f 11)) (fun v80 =>
    tf P (X.indexAddr 36 v79 v80) (fun v81 =>
    headq P (X.load 22 v81) (fun v82 =>
    headq P (X.indexAddr 36 v71 v72) (fun v83 =>
    run P (X.store 22 v83 v78) (fun _ h =>
    headq P (X.indexAddr 36 v73 v74) (fun v84 =>
    run P (X.store 22 v84 v82) (fun _ h =>
    run P (X.bin .add 3 false true (f 11) (Value.int .i64 1)) (fun v86 h =>
    run P (X.bin .sub 3 false true (f 12) (Value.int .i64 1)) (fun v88 h =>
    Q .normal (U f [(68, (f 11)), (69, (f 12)), (70, v70), (71, v71), (72, v72), (73, v73), (74, v74), (75, v75), (76, v76), (77, v77), (78, v78), (79, v79), (80, v80), (81, v81), (82, v82), (83, v83), (84, v84), (85, (f 11)), (86, v86), (11, v86), (87, (f 12)), (88, v88), (12, v88)]) h
    ) h
    ) h
    ) h
    ) h
    ) h
    ) h
    ) h
    )
    )
    )
    ) h
    ) h
    ) h
    ) h
    )
    )
    ) h
    ) h
  )
  ) h

def partEqF_L5 (Q : Exit → F → Heap → Prop) (f : F) (h : Heap) : Prop :=
  headq P (X.move (f 11)) (fun v50 =>
  headq P (X.move (f 12)) (fun v51 =>
  headq P (X.bin .leq 3 false false v50 v51) (fun v52 =>
  headq P (X.move v52) (fun v53 =>
  whenq (gw v53 true) (headq P (X.move (f 4))) (fun v54 =>
  whenq (gw v53 true) (headq P (X.move (f 0))) (fun v55 =>
  whenq (gw v53 true) (headq P (X.move (f 1))) (fun v56 =>
  whenq (gw v53 true) (headq P (X.indexAddr 36 v55 v56)) (fun v57 =>
  whenq (gw v53 true) (headq P (X.load 22 v57)) (fun v58 =>
  whenq (gw v53 true) (headq P (X.move (f 0))) (fun v59 =>
  whenq (gw v53 true) (headq P (X.move (f 12))) (fun v60 =>
  whenq (gw v53 true) (headq P (X.indexAddr 36 v59 v60)) (fun v61 =>
  whenq (gw v53 true) (headq P (X.load 22 v61)) (fun v62 =>
  when (gw v53 true) (run P (X.dyn v54 [v58, v62])) (fun v63 h =>
  when (gw v53 true) (run P (X.bin .lss 3 false true v63 (Value.int .i64 0))) (fun v64 h =>
  run P (X.pick v53 v64 (Value.bool false)) (fun v65 h =>
  br v65 (
    run P (X.bin .sub 3 false true (f 12) (Value.int .i64 1)) (fun v67 h =>
    Q .normal (U f [(50, v50), (51, v51), (52, v52), (53, v53), (54, v54), (55, v55), (56, v56), (57, v57), (58, v58), (59, v59), (60, v60), (61, v61), (62, v62), (63, v63), (64, v64), (65, v65), (66, (f 12)), (67, v67), (12, v67)]) h
    ) h
  ) (
    Q (.exit 4) (U f [(50, v50), (51, v51), (52, v52), (53, v53), (54, v54), (55, v55), (56, v56), (57, v57), (58, v58), (59, v59), (60, v60), (61, v61), (62, v62), (63, v63), (64, v64), (65, v65)]) h
  )
  ) h
  ) h
  ) h
  ) h
  ) h
  ) h
  ) h
  ) h
  ) h
  ) h
  ) h
  ) h
  ) h
  ) h
  ) h
  ) h

def partEqF_c3 (Q : Exit → F → Heap → Prop) (f : F) (h : Heap) : Prop :=
  lp partEqF_L5 (inB 4 (thenQ (partEqF_c4 Q) (inB 1 Q))) f h

def partEqF_L6 (Q : Exit → F → Heap → Prop) (f : F) (h : Heap) : Prop :=
  headq P (X.move (f 11)) (fun v31 =>
  headq P (X.move (f 12)) (fun v32 =>
  headq P (X.bin .leq 3 false false v31 v32) (fun v33 =>
  headq P (X.move v33) (fun v34 =>
  whenq (gw v34 true) (headq P (X.move (f 4))) (fun v35 =>
  whenq (gw v34 true) (headq P (X.move (f 0))) (fun v36 =>
  whenq (gw v34 true) (headq P (X.move (f 1))) (fun v37 =>
  whenq (gw v34 true) (headq P (X.indexAddr 36 v36 v37)) (fun v38 =>
  whenq (gw v34 true) (headq P (X.load 22 v38)) (fun v39 =>
  whenq (gw v34 true) (headq P (X.move (f 0))) (fun v40 =>
  whenq (gw v34 true) (headq P (X.move (f 11))) (fun v41 =>
  whenq (gw v34 true) (headq P (X.indexAddr 36 v40 v41)) (fun v42 =>
  whenq (gw v34 true) (headq P (X.load 22 v42)) (fun v43 =>
  when (gw v34 true) (run P (X.dyn v35 [v39, v43])) (fun v44 h =>
  when (gw v34 true) (run P (X.bin .lss 3 false true v44 (Value.int .i64 0))) (fun v45 h =>
  when (gw v34 true) (run P (X.un .not v45)) (fun v46 h =>
  run P (X.pick v34 v46 (Value.bool false)) (fun v47 h =>
  br v47 (
    run P (X.bin .add 3 false true (f 11) (Value.int .i64 1)) (fun v49 h =>
    Q .normal (U f [(31, v31), (32, v32), (33, v33), (34, v34), (35, v35), (36, v36), (37, v37), (38, v38), (39, v39), (40, v40), (41, v41), (42, v42), (43, v43), (44, v44), (45, v45), (46, v46), (47, v47), (48, (f 11)), (49, v49), (11, v49)]) h
    ) h
  ) (
    Q (.exit 2) (U f [(31, v31), (32, v32), (33, v33), (34, v34), (35, v35), (36, v36), (37, v37), (38, v38), (39, v39), (40, v40), (41, v41), (42, v42), (43, v43), (44, v44), (45, v45), (46, v46), (47, v47)]) h
  )
  ) h
  ) h
  ) h
  ) h
  ) h
  ) h
  ) h
  ) h
  ) h
  ) h
  ) h
  ) h
  ) h
  ) h
  ) h
  ) h
  ) h

def partEqF_L2 (Q : Exit → F → Heap → Prop) (f : F) (h : Heap) : Prop :=
  lp partEqF_L6 (inB 2 (thenQ (partEqF_c3 Q) (inB 1 Q))) f h

def partEqF_c0 (Q : Exit → F → Heap → Prop) (f : F) (h : Heap) : Prop :=
  headq P (X.move (f 0)) (fun v13 =>
  headq P (X.move (f 1)) (fun v14 =>
  tf P (X.move (f 0)) (fun v15 =>
  tf P (X.move (f 3)) (fun v16 =>
  headq P (X.move (f 0)) (fun v17 =>
  headq P (X.move (f 3)) (fun v18 =>
  headq P (X.indexAddr 36 v17 v18) (fun v19 =>
  headq P (X.load 22 v19) (fun v20 =>
  tf P (X.move (f 0)) (fun v21 =>
  tf P (X.move (f 1)) (fun v22 =>
  tf P (X.indexAddr 36 v21 v22) (fun v23 =>
  headq P (X.load 22 v23) (fun v24 =>
  headq P (X.indexAddr 36 v13 v14) (fun v25 =>
  run P (X.store 22 v25 v20) (fun _ h =>
  headq P (X.indexAddr 36 v15 v16) (fun v26 =>
  run P (X.store 22 v26 v24) (fun _ h =>
  run P (X.bin .add 3 false true (f 1) (Value.int .i64 1)) (fun v28 h =>
  run P (X.bin .sub 3 false true (f 2) (Value.int .i64 1)) (fun v30 h =>
  lp partEqF_L2 (inB 0 (thenQ (partEqF_c1 Q) Q)) (U f [(10, (Value.int .i64 0)), (13, v13), (14, v14), (15, v15), (16, v16), (17, v17), (18, v18), (19, v19), (20, v20), (21, v21), (22, v22), (23, v23), (24, v24), (25, v25), (26, v26), (27, (f 1)), (28, v28), (29, (f 2)), (30, v30), (11, v28), (12, v30)]) h
  ) h
  ) h
  ) h
  ) h
  ) h
  ) h
  ) h
  )
  )
  )
  ) h
  ) h
  ) h
  ) h
  )
  )
  ) h
  ) h
theorem partEqF_code : partEqF_c0 = hcode P partEqF_md (Try.f103.body.getD .skip) := by kernel_rfl
theorem partEqF_ok {a0 a1 a2 a3 a4 : Value} {h : Heap} {R : Value → Heap → Prop} (hh : partEqF_c0 (post [.tmp 10] R) (frame0 #[a0, a1, a2, a3, a4]) h) : HCalls P 103 #[a0, a1, a2, a3, a4] h R :=
  hcalls_gen (md := partEqF_md) follows Try.func103 partEqF_code (by kernel_rfl) (by kernel_rfl) (by kernel_rfl) (by kernel_rfl) (by kernel_rfl) hh

/-- slices.partitionCmpFunc[[]tenon/api.Ref]: parameters [a0, a1, a2, a3, a4]; results [.tmp 10, .tmp 11]; slots [0:data, 1:a, 2:b, 3:pivot, 4:cmp, 5:data, 6:a, 7:b, 8:pivot, 9:cmp, 10:newpivot, 11:alreadyPartitioned, 12:i, 13:j]; draws [1, 3, 5, 8, 10, 13, 15, 18, 21] -/
def partF_md : Nat → RM := fun i => if i = 1 then RM.sync [(0, 1), (1, 1), (2, 0), (3, 0), (4, 1), (5, 1), (6, 1), (7, 1), (8, 0), (9, 0), (10, 0), (11, 1), (12, 1), (13, 2), (14, 1), (15, 2)] else if i = 3 then RM.tail 13 else if i = 5 then RM.tail 13 else if i = 8 then RM.sync [(0, 1), (1, 1), (2, 0), (3, 0), (4, 1), (5, 1), (6, 1), (7, 1), (8, 0), (9, 0), (10, 0), (11, 1), (12, 1), (13, 2), (14, 1), (15, 2)] else if i = 10 then RM.sync [(0, 1), (1, 1), (2, 0), (3, 0), (4, 1), (5, 1), (6, 1), (7, 1), (8, 0), (9, 0), (10, 0), (11, 1), (12, 1), (13, 2), (14, 1), (15, 2)] else if i = 13 then RM.tail 13 else if i = 15 then RM.tail 13 else if i = 18 then RM.sync [(0, 1), (1, 1), (2, 0), (3, 0), (4, 1), (5, 1), (6, 1), (7, 1), (8, 0), (9, 0), (10, 0), (11, 1), (12, 1), (13, 2), (14, 1), (15, 2)] else if i = 21 then RM.sync [(0, 1), (1, 1), (2, 0), (3, 0), (4, 1), (5, 1), (6, 1), (7, 1), (8, 0), (9, 0), (10, 0), (11, 1), (12, 1), (13, 2), (14, 1), (15, 2)] else RM.quiet
def partF_c3 (Q : Exit → F → Heap → Prop) (f : F) (h : Heap) : Prop :=
  headq P (X.move (f 0)) (fun v163 =>
  headq P (X.move (f 13)) (fun v164 =>
  tf P (X.move (f 0)) (fun v165 =>
  tf P (X.move (f 1)) (fun v166 =>
  headq P (X.move (f 0)) (fun v167 =>
  headq P (X.move (f 1)) (fun v168 =>
  headq P (X.indexAddr 36 v167 v168) (fun v169 =>
  headq P (X.load 22 v169) (fun v170 =>
  tf P (X.move (f 0)) (fun v171 =>
  tf P (X.move (f 13)) (fun v172 =>
  tf P (X.indexAddr 36 v171 v172) (fun v173 =>
  headq P (X.load 22 v173) (fun v174 =>
  headq P (X.indexAddr 36 v163 v164) (fun v175 =>
  run P (X.store 22 v175 v170) (fun _ h =>
  headq P (X.indexAddr 36 v165 v166) (fun v176 =>
  run P (X.store 22 v176 v174) (fun _ h =>
  Q .ret (U f [(163, v163), (164, v164), (165, v165), (166, v166), (167, v167), (168, v168), (169, v169), (170, v170), (171, v171), (172, v172), (173, v173), (174, v174), (175, v175), (176, v176), (177, (f 13)), (10, (f 13)), (11, (Value.bool false))]) h
  ) h
  ) h
  ) h
  ) h
  ) h
  )
  )
  )
  ) h
  ) h
  ) h
  ) h
  )
  )
  ) h
  ) h

def partF_c6 (Q : Exit → F → Heap → Prop) (f : F) (h : Heap) : Prop :=
  run P (X.bin .gtr 3 false false (f 12) (f 13)) (fun v144 h =>
  br v144 (
    Q (.exit 4) (U f [(142, (f 12)), (143, (f 13)), (144, v144)]) h
  ) (
    headq P (X.move (f 0)) (fun v145 =>
    headq P (X.move (f 12)) (fun v146 =>
    tf P (X.move (f 0)) (fun v147 =>
    tf P (X.move (f 13)) (fun v148 =>
    headq P (X.move (f 0)) (fun v149 =>
    headq P (X.move (f 13)) (fun v150 =>
    headq P (X.indexAddr 36 v149 v150) (fun v151 =>
    headq P (X.load 22 v151) (fun v152 =>
    tf P (X.move (f 0)) (fun v153 =>
    tf P (X.move (f 12)) (fun v154 =>
    tf P (X.indexAddr 36 v153 v154) (fun v155 =>
    headq P (X.load 22 v155) (fun v156 =>
    headq P (X.indexAddr 36 v145 v146) (fun v157 =>
    run P (X.store 22 v157 v152) (fun _ h =>
    headq P (X.indexAddr 36 v147 v148) (fun v158 =>
    run P (X.store 22 v158 v156) (fun _ h =>
    run P (X.bin .add 3 false true (f 12) (Value.int .i64 1)) (fun v160 h =>
    run P (X.bin .sub 3 false true (f 13) (Value.int .i64 1)) (fun v162 h =>
    Q .normal (U f [(142, (f 12)), (143, (f 13)), (144, v144), (145, v145), (146, v146), (147, v147), (148, v148), (149, v149), (150, v150), (151, v151), (152, v152), (153, v153), (154, v154), (155, v155), (156, v156), (157, v157), (158, v158), (159, (f 12)), (160, v160), (12, v160), (161, (f 13)), (162, v162), (13, v162)]) h
    ) h
    ) h
    ) h
    ) h
    ) h
    ) h
    ) h
    )
    )
    )
    ) h
    ) h
    ) h
    ) h
    )
    )
    ) h
    ) h
  )
  ) h

def partF_L7 (Q : Exit → F → Heap → Prop) (f : F) (h : Heap) : Prop :=
  headq P (X.move (f 12)) (fun v123 =>
  headq P (X.move (f 13)) (fun v124 =>
  headq P (X.bin .leq 3 false false v123 v124) (fun v125 =>
  headq P (X.move v125) (fun v126 =>
  whenq (gw v126 true) (headq P (X.move (f 4))) (fun v127 =>
  whenq (gw v126 true) (headq P (X.move (f 0))) (fun v128 =>
  whenq (gw v126 true) (headq P (X.move (f 13))) (fun v129 =>
  whenq (gw v126 true) (headq P (X.indexAddr 36 v128 v129)) (fun v130 =>
  whenq (gw v126 true) (headq P (X.load 22 v130)) (fun v131 =>
  whenq (gw v126 true) (headq P (X.move (f 0))) (fun v132 =>
  whenq (gw v126 true) (headq P (X.move (f 1))) (fun v133 =>
  whenq (gw v126 true) (headq P (X.indexAddr 36 v132 v133)) (fun v134 =>
  whenq (gw v126 true) (headq P (X.load 22 v134)) (fun v135 =>
  when (gw v126 true) (run P (X.dyn v127 [v131, v135])) (fun v136 h =>
  when (gw v126 true) (run P (X.bin .lss 3 false true v136 (Value.int .i64 0))) (fun v137 h =>
  when (gw v126 true) (run P (X.un .not v137)) (fun v138 h =>
  run P (X.pick v126 v138 (Value.bool false)) (fun v139 h =>
  br v139 (
    run P (X.bin .sub 3 false true (f 13) (Value.int .i64 1)) (fun v141 h =>
    Q .normal (U f [(123, v123), (124, v124), (125, v125), (126, v126), (127, v127), (128, v128), (129, v129), (130, v130), (131, v131), (132, v132), (133, v133), (134, v134), (135, v135), (136, v136), (137, v137), (138, v138), (139, v139), (140, (f 13)), (141, v141), (13, v141)]) h
    ) h
  ) (
    Q (.exit 8) (U f [(123, v123), (124, v124), (125, v125), (126, v126), (127, v127), (128, v128), (129, v129), (130, v130), (131, v131), (132, v132), (133, v133), (134, v134), (135, v135), (136, v136), (137, v137), (138, v138), (139, v139)]) h
  )
  ) h
  ) h
  ) h
  ) h
  ) h
  ) h
  ) h
  ) h
  ) h
  ) h
  ) h
  ) h
  ) h
  ) h
  ) h
  ) h
  ) h

def partF_c5 (Q : Exit → F → Heap → Prop) (f : F) (h : Heap) : Prop :=
  lp partF_L7 (inB 8 (thenQ (partF_c6 Q) (inB 5 Q))) f h

def partF_L8 (Q : Exit → F → Heap → Prop) (f : F) (h : Heap) : Prop :=
  headq P (X.move (f 12)) (fun v105 =>
  headq P (X.move (f 13)) (fun v106 =>
  headq P (X.bin .leq 3 false false v105 v106) (fun v107 =>
  headq P (X.move v107) (fun v108 =>
  whenq (gw v108 true) (headq P (X.move (f 4))) (fun v109 =>
  whenq (gw v108 true) (headq P (X.move (f 0))) (fun v110 =>
  whenq (gw v108 true) (headq P (X.move (f 12))) (fun v111 =>
  whenq (gw v108 true) (headq P (X.indexAddr 36 v110 v111)) (fun v112 =>
  whenq (gw v108 true) (headq P (X.load 22 v112)) (fun v113 =>
  whenq (gw v108 true) (headq P (X.move (f 0))) (fun v114 =>
  whenq (gw v108 true) (headq P (X.move (f 1))) (fun v115 =>
  whenq (gw v108 true) (headq P (X.indexAddr 36 v114 v115)) (fun v116 =>
  whenq (gw v108 true) (headq P (X.load 22 v116)) (fun v117 =>
  when (gw v108 true) (run P (X.dyn v109 [v113, v117])) (fun v118 h =>
  when (gw v108 true) (run P (X.bin .lss 3 false true v118 (Value.int .i64 0))) (fun v119 h =>
  run P (X.pick v108 v119 (Value.bool false)) (fun v120 h =>
  br v120 (
    run P (X.bin .add 3 false true (f 12) (Value.int .i64 1)) (fun v122 h =>
    Q .normal (U f [(105, v105), (106, v106), (107, v107), (108, v108), (109, v109), (110, v110), (111, v111), (112, v112), (113, v113), (114, v114), (115, v115), (116, v116), (117, v117), (118, v118), (119, v119), (120, v120), (121, (f 12)), (122, v122), (12, v122)]) h
    ) h
  ) (
    Q (.exit 6) (U f [(105, v105), (106, v106), (107, v107), (108, v108), (109, v109), (110, v110), (111, v111), (112, v112), (113, v113), (114, v114), (115, v115), (116, v116), (117, v117), (118, v118), (119, v119), (120, v120)]) h
  )
  ) h
  ) h
  ) h
  ) h
  ) h
  ) h
  ) h
  ) h
  ) h
  ) h
  ) h
  ) h
  ) h
  ) h
  ) h
  ) h

def partF_L4 (Q : Exit → F → Heap → Prop) (f : F) (h : Heap) : Prop :=
  lp partF_L8 (inB 6 (thenQ (partF_c5 Q) (inB 5 Q))) f h

def partF_c2 (Q : Exit → F → Heap → Prop) (f : F) (h : Heap) : Prop :=
  run P (X.bin .gtr 3 false false (f 12) (f 13)) (fun v71 h =>
  br v71 (
    headq P (X.move (f 0)) (fun v72 =>
    headq P (X.move (f 13)) (fun v73 =>
    tf P (X.move (f 0)) (fun v74 =>
    tf P (X.move (f 1)) (fun v75 =>
    headq P (X.move (f 0)) (fun v76 =>
    headq P (X.move (f 1)) (fun v77 =>
    headq P (X.indexAddr 36 v76 v77) (fun v78 =>
    headq P (X.load 22 v78) (fun v79 =>
    tf P (X.move (f 0)) (fun v80 =>
    tf P (X.move (f 13)) (fun v81 =>
    tf P (X.indexAddr 36 v80 v81) (fun v82 =>
    headq P (X.load 22 v82) (fun v83 =>
    headq P (X.indexAddr 36 v72 v73) (fun v84 =>
    run P (X.store 22 v84 v79) (fun _ h =>
    headq P (X.indexAddr 36 v74 v75) (fun v85 =>
    run P (X.store 22 v85 v83) (fun _ h =>
    Q .ret (U f [(69, (f 12)), (70, (f 13)), (71, v71), (72, v72), (73, v73), (74, v74), (75, v75), (76, v76), (77, v77), (78, v78), (79, v79), (80, v80), (81, v81), (82, v82), (83, v83), (84, v84), (85, v85), (86, (f 13)), (10, (f 13)), (11, (Value.bool true))]) h
    ) h
    ) h
    ) h
    ) h
    ) h
    )
    )
    )
    ) h
    ) h
    ) h
    ) h
    )
    )
    ) h
    ) h
  ) (
    headq P (X.move (f 0)) (fun v87 =>
    headq P (X.move (f 12)) (fun v88 =>
    tf P (X.move (f 0)) (fun v89 =>
    tf P (X.move (f 13)) (fun v90 =>
    headq P (X.move (f 0)) (fun v91 =>
    headq P (X.move (f 13)) (fun v92 =>
    headq P (X.indexAddr 36 v91 v92) (fun v93 =>
    headq P (X.load 22 v93) (fun v94 =>
    tf P (X.move (f 0)) (fun v95 =>
    tf P (X.move (f 12)) (fun v96 =>
    tf P (X.indexAddr 36 v95 v96) (fun v97 =>
    headq P (X.load 22 v97) (fun v98 =>
    headq P (X.indexAddr 36 v87 v88) (fun v99 =>
    run P (X.store 22 v99 v94) (fun _ h =>
    headq P (X.indexAddr 36 v89 v90) (fun v100 =>
    run P (X.store 22 v100 v98) (fun _ h =>
    run P (X.bin .add 3 false true (f 12) (Value.int .i64 1)) (fun v102 h =>
    run P (X.bin .sub 3 false true (f 13) (Value.int .i64 1)) (fun v104 h =>
    lp partF_L4 (inB 4 (thenQ (partF_c3 Q) Q)) (U f [(69, (f 12)), (70, (f 13)), (71, v71), (87, v87), (88, v88), (89, v89), (90, v90), (91, v91), (92, v92), (93, v93), (94, v94), (95, v95), (96, v96), (97, v97), (98, v98), (99, v99), (100, v100), (101, (f 12)), (102, v102), (12, v102), (103, (f 13)), (104, v104), (13, v104)]) h
    ) h
    ) h
    ) h
    ) h
    ) h
    ) h
    ) h
    )
    )
    )
    ) h
    ) h
    ) h
    ) h
    )
    )
    ) h
    ) h
  )
  ) h

def partF_L9 (Q : Exit → F → Heap → Prop) (f : F) (h : Heap) : Prop :=
  headq P (X.move (f 12)) (fun v50 =>
  headq P (X.move (f 13)) (fun v51 =>
  headq P (X.bin .leq 3 false false v50 v51) (fun v52 =>
  headq P (X.move v52) (fun v53 =>
  whenq (gw v53 true) (headq P (X.move (f 4))) (fun v54 =>
  whenq (gw v53 true) (headq P (X.move (f 0))) (fun v55 =>
  whenq (gw v53 true) (headq P (X.move (f 13))) (fun v56 =>
  whenq (gw v53 true) (headq P (X.indexAddr 36 v55 v56)) (fun v57 =>
  whenq (gw v53 true) (headq P (X.load 22 v57)) (fun v58 =>
  whenq (gw v53 true) (headq P (X.move (f 0))) (fun v59 =>
  whenq (gw v53 true) (headq P (X.move (f 1))) (fun v60 =>
  whenq (gw v53 true) (headq P (X.indexAddr 36 v59 v60)) (fun v61 =>
  whenq (gw v53 true) (headq P (X.load 22 v61)) (fun v62 =>
  when (gw v53 true) (run P (X.dyn v54 [v58, v62])) (fun v63 h =>
  when (gw v53 true) (run P (X.bin .lss 3 false true v63 (Value.int .i64 0))) (fun v64 h =>
  when (gw v53 true) (run P (X.un .not v64)) (fun v65 h =>
  run P (X.pick v53 v65 (Value.bool false)) (fun v66 h =>
  br v66 (
    run P (X.bin .sub 3 false true (f 13) (Value.int .i64 1)) (fun v68 h =>
    Q .normal (U f [(50, v50), (51, v51), (52, v52), (53, v53), (54, v54), (55, v55), (56, v56), (57, v57), (58, v58), (59, v59), (60, v60), (61, v61), (62, v62), (63, v63), (64, v64), (65, v65), (66, v66), (67, (f 13)), (68, v68), (13, v68)]) h
    ) h
  ) (
    Q (.exit 2) (U f [(50, v50), (51, v51), (52, v52), (53, v53), (54, v54), (55, v55), (56, v56), (57, v57), (58, v58), (59, v59), (60, v60), (61, v61), (62, v62), (63, v63), (64, v64), (65, v65), (66, v66)]) h
  )
  ) h
  ) h
  ) h
  ) h
  ) h
  ) h
  ) h
  ) h
  ) h
  ) h
  ) h
  ) h
  ) h
  ) h
  ) h
  ) h
  ) h

def partF_c1 (Q : Exit → F → Heap → Prop) (f : F) (h : Heap) : Prop :=
  lp partF_L9 (inB 2 (thenQ (partF_c2 Q) Q)) f h

def partF_L10 (Q : Exit → F → Heap → Prop) (f : F) (h : Heap) : Prop :=
  headq P (X.move (f 12)) (fun v32 =>
  headq P (X.move (f 13)) (fun v33 =>
  headq P (X.bin .leq 3 false false v32 v33) (fun v34 =>
  headq P (X.move v34) (fun v35 =>
  whenq (gw v35 true) (headq P (X.move (f 4))) (fun v36 =>
  whenq (gw v35 true) (headq P (X.move (f 0))) (fun v37 =>
  whenq (gw v35 true) (headq P (X.move (f 12))) (fun v38 =>
  whenq (gw v35 true) (headq P (X.indexAddr 36 v37 v38)) (fun v39 =>
  whenq (gw v35 true) (headq P (X.load 22 v39)) (fun v40 =>
  whenq (gw v35 true) (headq P (X.move (f 0))) (fun v41 =>
  whenq (gw v35 true) (headq P (X.move (f 1))) (fun v42 =>
  whenq (gw v35 true) (headq P (X.indexAddr 36 v41 v42)) (fun v43 =>
  whenq (gw v35 true) (headq P (X.load 22 v43)) (fun v44 =>
  when (gw v35 true) (run P (X.dyn v36 [v40, v44])) (fun v45 h =>
  when (gw v35 true) (run P (X.bin .lss 3 false true v45 (Value.int .i64 0))) (fun v46 h =>
  run P (X.pick v35 v46 (Value.bool false)) (fun v47 h =>
  br v47 (
    run P (X.bin .add 3 false true (f 12) (Value.int .i64 1)) (fun v49 h =>
    Q .normal (U f [(32, v32), (33, v33), (34, v34), (35, v35), (36, v36), (37, v37), (38, v38), (39, v39), (40, v40), (41, v41), (42, v42), (43, v43), (44, v44), (45, v45), (46, v46), (47, v47), (48, (f 12)), (49, v49), (12, v49)]) h
    ) h
  ) (
    Q (.exit 0) (U f [(32, v32), (33, v33), (34, v34), (35, v35), (36, v36), (37, v37), (38, v38), (39, v39), (40, v40), (41, v41), (42, v42), (43, v43), (44, v44), (45, v45), (46, v46), (47, v47)]) h
  )
  ) h
  ) h
  ) h
  ) h
  ) h
  ) h
  ) h
  ) h
  ) h
  ) h
  ) h
  ) h
  ) h
  ) h
  ) h
  ) h

def partF_c0 (Q : Exit → F → Heap → Prop) (f : F) (h : Heap) : Prop :=
  headq P (X.move (f 0)) (fun v14 =>
  headq P (X.move (f 1)) (fun v15 =>
  tf P (X.move (f 0)) (fun v16 =>
  tf P (X.move (f 3)) (fun v17 =>
  headq P (X.move (f 0)) (fun v18 =>
  headq P (X.move (f 3)) (fun v19 =>
  headq P (X.indexAddr 36 v18 v19) (fun v20 =>
  headq P (X.load 22 v20) (fun v21 =>
  tf P (X.move (f 0)) (fun v22 =>
  tf P (X.move (f 1)) (fun v23 =>
  tf P (X.indexAddr 36 v22 v23) (fun v24 =>
  headq P (X.load 22 v24) (fun v25 =>
  headq P (X.indexAddr 36 v14 v15) (fun v26 =>
  run P (X.store 22 v26 v21) (fun _ h =>
  headq P (X.indexAddr 36 v16 v17) (fun v27 =>
  run P (X.store 22 v27 v25) (fun _ h =>
  run P (X.bin .add 3 false true (f 1) (Value.int .i64 1)) (fun v29 h =>
  run P (X.bin .sub 3 false true (f 2) (Value.int .i64 1)) (fun v31 h =>
  lp partF_L10 (inB 0 (thenQ (partF_c1 Q) Q)) (U f [(10, (Value.int .i64 0)), (11, (Value.bool false)), (14, v14), (15, v15), (16, v16), (17, v17), (18, v18), (19, v19), (20, v20), (21, v21), (22, v22), (23, v23), (24, v24), (25, v25), (26, v26), (27, v27), (28, (f 1)), (29, v29), (30, (f 2)), (31, v31), (12, v29), (13, v31)]) h
  ) h
  ) h
  ) h
  ) h
  ) h
  ) h
  ) h
  )
  )
  )
  ) h
  ) h
  ) h
  ) h
  )
  )
  ) h
  ) h
theorem partF_code : partF_c0 = hcode P partF_md (Try.f104.body.getD .skip) := by kernel_rfl
theorem partF_ok {a0 a1 a2 a3 a4 : Value} {h : Heap} {R : Value → Heap → Prop} (hh : partF_c0 (post [.tmp 10, .tmp 11] R) (frame0 #[a0, a1, a2, a3, a4]) h) : HCalls P 104 #[a0, a1, a2, a3, a4] h R :=
  hcalls_gen (md := partF_md) follows Try.func104 partF_code (by kernel_rfl) (by kernel_rfl) (by kernel_rfl) (by kernel_rfl) (by kernel_rfl) hh

/-- slices.siftDownCmpFunc[[]tenon/api.Ref]: parameters [a0, a1, a2, a3, a4]; results []; slots [0:data, 1:lo, 2:hi, 3:first, 4:cmp, 5:data, 6:lo, 7:hi, 8:first, 9:cmp, 10:root, 11:child]; draws [3, 5, 6] -/
def siftDownF_md : Nat → RM := fun i => if i = 3 then RM.tail 19 else if i = 5 then RM.tail 13 else if i = 6 then RM.sync [(0, 1), (1, 1), (2, 1), (3, 1), (4, 0), (5, 0), (6, 0), (7, 0), (8, 1), (9, 1), (10, 1), (11, 1), (12, 1), (13, 1), (14, 0), (15, 0), (16, 0), (17, 0), (18, 0), (19, 1), (20, 1), (21, 2), (22, 1), (23, 2)] else RM.quiet
def siftDownF_c2 (Q : Exit → F → Heap → Prop) (f : F) (h : Heap) : Prop :=
  headq P (X.move (f 4)) (fun v43 =>
  headq P (X.move (f 0)) (fun v44 =>
  headq P (X.move (f 3)) (fun v45 =>
  headq P (X.move (f 10)) (fun v46 =>
  headq P (X.bin .add 3 false false v45 v46) (fun v47 =>
  headq P (X.indexAddr 36 v44 v47) (fun v48 =>
  headq P (X.load 22 v48) (fun v49 =>
  headq P (X.move (f 0)) (fun v50 =>
  headq P (X.move (f 3)) (fun v51 =>
  headq P (X.move (f 11)) (fun v52 =>
  headq P (X.bin .add 3 false false v51 v52) (fun v53 =>
  headq P (X.indexAddr 36 v50 v53) (fun v54 =>
  headq P (X.load 22 v54) (fun v55 =>
  run P (X.dyn v43 [v49, v55]) (fun v56 h =>
  run P (X.bin .lss 3 false true v56 (Value.int .i64 0)) (fun v57 h =>
  run P (X.un .not v57) (fun v58 h =>
  br v58 (
    Q .ret (U f [(43, v43), (44, v44), (45, v45), (46, v46), (47, v47), (48, v48), (49, v49), (50, v50), (51, v51), (52, v52), (53, v53), (54, v54), (55, v55), (56, v56), (57, v57), (58, v58)]) h
  ) (
    headq P (X.move (f 0)) (fun v59 =>
    headq P (X.move (f 3)) (fun v60 =>
    headq P (X.move (f 10)) (fun v61 =>
    headq P (X.bin .add 3 false false v60 v61) (fun v62 =>
    tf P (X.move (f 0)) (fun v63 =>
    tf P (X.move (f 3)) (fun v64 =>
    tf P (X.move (f 11)) (fun v65 =>
    tf P (X.bin .add 3 false false v64 v65) (fun v66 =>
    headq P (X.move (f 0)) (fun v67 =>
    headq P (X.move (f 3)) (fun v68 =>
    headq P (X.move (f 11)) (fun v69 =>
    headq P (X.bin .add 3 false false v68 v69) (fun v70 =>
    headq P (X.indexAddr 36 v67 v70) (fun v71 =>
    headq P (X.load 22 v71) (fun v72 =>
    tf P (X.move (f 0)) (fun v73 =>
    tf P (X.move (f 3)) (fun v74 =>
    tf P (X.move (f 10)) (fun v75 =>
    tf P (X.bin .add 3 false false v74 v75) (fun v76 =>
    tf P (X.indexAddr 36 v73 v76) (fun v77 =>
    headq P (X.load 22 v77) (fun v78 =>
    headq P (X.indexAddr 36 v59 v62) (fun v79 =>
    run P (X.store 22 v79 v72) (fun _ h =>
    headq P (X.indexAddr 36 v63 v66) (fun v80 =>
    run P (X.store 22 v80 v78) (fun _ h =>
    Q .normal (U f [(43, v43), (44, v44), (45, v45), (46, v46), (47, v47), (48, v48), (49, v49), (50, v50), (51, v51), (52, v52), (53, v53), (54, v54), (55, v55), (56, v56), (57, v57), (58, v58), (59, v59), (60, v60), (61, v61), (62, v62), (63, v63), (64, v64), (65, v65), (66, v66), (67, v67), (68, v68), (69, v69), (70, v70), (71, v71), (72, v72), (73, v73), (74, v74), (75, v75), (76, v76), (77, v77), (78, v78), (79, v79), (80, v80), (81, (f 11)), (10, (f 11))]) h
    ) h
    ) h
    ) h
    ) h
    ) h
    )
    )
    )
    )
    )
    ) h
    ) h
    ) h
    ) h
    ) h
    ) h
    )
    )
    )
    )
    ) h
    ) h
    ) h
    ) h
  )
  ) h
  ) h
  ) h
  ) h
  ) h
  ) h
  ) h
  ) h
  ) h
  ) h
  ) h
  ) h
  ) h
  ) h
  ) h
  ) h

def siftDownF_L1 (Q : Exit → F → Heap → Prop) (f : F) (h : Heap) : Prop :=
  run P (X.bin .mul 3 true false (Value.int .i64 2) (f 10)) (fun v14 h =>
  run P (X.bin .add 3 false true v14 (Value.int .i64 1)) (fun v15 h =>
  run P (X.bin .geq 3 false false v15 (f 2)) (fun v18 h =>
  br v18 (
    Q (.exit 0) (U f [(13, (f 10)), (14, v14), (15, v15), (11, v15), (16, v15), (17, (f 2)), (18, v18)]) h
  ) (
    headq P (X.move v15) (fun v19 =>
    headq P (X.bin .add 3 false true v19 (Value.int .i64 1)) (fun v20 =>
    headq P (X.move (f 2)) (fun v21 =>
    headq P (X.bin .lss 3 false false v20 v21) (fun v22 =>
    headq P (X.move v22) (fun v23 =>
    whenq (gw v23 true) (headq P (X.move (f 4))) (fun v24 =>
    whenq (gw v23 true) (headq P (X.move (f 0))) (fun v25 =>
    whenq (gw v23 true) (headq P (X.move (f 3))) (fun v26 =>
    whenq (gw v23 true) (headq P (X.move v15)) (fun v27 =>
    whenq (gw v23 true) (headq P (X.bin .add 3 false false v26 v27)) (fun v28 =>
    whenq (gw v23 true) (headq P (X.indexAddr 36 v25 v28)) (fun v29 =>
    whenq (gw v23 true) (headq P (X.load 22 v29)) (fun v30 =>
    whenq (gw v23 true) (headq P (X.move (f 0))) (fun v31 =>
    whenq (gw v23 true) (headq P (X.move (f 3))) (fun v32 =>
    whenq (gw v23 true) (headq P (X.move v15)) (fun v33 =>
    whenq (gw v23 true) (headq P (X.bin .add 3 false false v32 v33)) (fun v34 =>
    whenq (gw v23 true) (headq P (X.bin .add 3 false true v34 (Value.int .i64 1))) (fun v35 =>
    whenq (gw v23 true) (headq P (X.indexAddr 36 v31 v35)) (fun v36 =>
    whenq (gw v23 true) (headq P (X.load 22 v36)) (fun v37 =>
    when (gw v23 true) (run P (X.dyn v24 [v30, v37])) (fun v38 h =>
    when (gw v23 true) (run P (X.bin .lss 3 false true v38 (Value.int .i64 0))) (fun v39 h =>
    run P (X.pick v23 v39 (Value.bool false)) (fun v40 h =>
    br v40 (
      run P (X.bin .add 3 false true v15 (Value.int .i64 1)) (fun v42 h =>
      siftDownF_c2 Q (U f [(13, (f 10)), (14, v14), (15, v15), (11, v15), (16, v15), (17, (f 2)), (18, v18), (19, v19), (20, v20), (21, v21), (22, v22), (23, v23), (24, v24), (25, v25), (26, v26), (27, v27), (28, v28), (29, v29), (30, v30), (31, v31), (32, v32), (33, v33), (34, v34), (35, v35), (36, v36), (37, v37), (38, v38), (39, v39), (40, v40), (41, v15), (42, v42), (11, v42)]) h
      ) h
    ) (
      siftDownF_c2 Q (U f [(13, (f 10)), (14, v14), (15, v15), (11, v15), (16, v15), (17, (f 2)), (18, v18), (19, v19), (20, v20), (21, v21), (22, v22), (23, v23), (24, v24), (25, v25), (26, v26), (27, v27), (28, v28), (29, v29), (30, v30), (31, v31), (32, v32), (33, v33), (34, v34), (35, v35), (36, v36), (37, v37), (38, v38), (39, v39), (40, v40)]) h
    )
    ) h
    ) h
    ) h
    ) h
    ) h
    ) h
    ) h
    ) h
    ) h
    ) h
    ) h
    ) h
    ) h
    ) h
    ) h
    ) h
    ) h
    ) h
    ) h
    ) h
    ) h
    ) h
  )
  ) h
  ) h
  ) h

def siftDownF_c0 (Q : Exit → F → Heap → Prop) (f : F) (h : Heap) : Prop :=
  lp siftDownF_L1 (inB 0 Q) (U f [(12, (f 1)), (10, (f 1))]) h
theorem siftDownF_code : siftDownF_c0 = hcode P siftDownF_md (Try.f112.body.getD .skip) := by kernel_rfl
theorem siftDownF_ok {a0 a1 a2 a3 a4 : Value} {h : Heap} {R : Value → Heap → Prop} (hh : siftDownF_c0 (post [] R) (frame0 #[a0, a1, a2, a3, a4]) h) : HCalls P 112 #[a0, a1, a2, a3, a4] h R :=
  hcalls_gen (md := siftDownF_md) follows Try.func112 siftDownF_code (by kernel_rfl) (by kernel_rfl) (by kernel_rfl) (by kernel_rfl) (by kernel_rfl) hh

/-- slices.medianAdjacentCmpFunc[[]tenon/api.Ref]: parameters [a0, a1, a2, a3]; results [.tmp 8]; slots [0:data, 1:a, 2:swaps, 3:cmp, 4:data, 5:a, 6:swaps, 7:cmp]; draws [] -/
def medAdjF_md : Nat → RM := fun _ => RM.quiet
def medAdjF_c0 (Q : Exit → F → Heap → Prop) (f : F) (h : Heap) : Prop :=
  run P (X.bin .sub 3 false true (f 1) (Value.int .i64 1)) (fun v11 h =>
  run P (X.bin .add 3 false true (f 1) (Value.int .i64 1)) (fun v14 h =>
  run P (X.callF 114 [(f 0), v11, (f 1), v14, (f 2), (f 3)]) (fun v17 h =>
  Q .ret (U f [(8, (Value.int .i64 0)), (9, (f 0)), (10, (f 1)), (11, v11), (12, (f 1)), (13, (f 1)), (14, v14), (15, (f 2)), (16, (f 3)), (17, v17), (8, v17)]) h
  ) h
  ) h
  ) h
theorem medAdjF_code : medAdjF_c0 = hcode P medAdjF_md (Try.f113.body.getD .skip) := by kernel_rfl
theorem medAdjF_ok {a0 a1 a2 a3 : Value} {h : Heap} {R : Value → Heap → Prop} (hh : medAdjF_c0 (post [.tmp 8] R) (frame0 #[a0, a1, a2, a3]) h) : HCalls P 113 #[a0, a1, a2, a3] h R :=
  hcalls_gen (md := medAdjF_md) follows Try.func113 medAdjF_code (by kernel_rfl) (by kernel_rfl) (by kernel_rfl) (by kernel_rfl) (by kernel_rfl) hh

/-- slices.medianCmpFunc[[]tenon/api.Ref]: parameters [a0, a1, a2, a3, a4, a5]; results [.tmp 12]; slots [0:data, 1:a, 2:b, 3:c, 4:swaps, 5:cmp, 6:data, 7:a, 8:b, 9:c, 10:swaps, 11:cmp]; draws [] -/
def medianF_md : Nat → RM := fun _ => RM.quiet
def medianF_c0 (Q : Exit → F → Heap → Prop) (f : F) (h : Heap) : Prop :=
  run P (X.callF 117 [(f 0), (f 1), (f 2), (f 4), (f 5)]) (fun v19 h =>
  run P (X.extract v19 0) (fun v20 h =>
  run P (X.extract v19 1) (fun v21 h =>
  run P (X.callF 117 [(f 0), v21, (f 3), (f 4), (f 5)]) (fun v28 h =>
  run P (X.extract v28 0) (fun v29 h =>
  run P (X.extract v28 1) (fun v30 h =>
  run P (X.callF 117 [(f 0), v20, v29, (f 4), (f 5)]) (fun v37 h =>
  run P (X.extract v37 0) (fun v38 h =>
  run P (X.extract v37 1) (fun v39 h =>
  Q .ret (U f [(12, (Value.int .i64 0)), (14, (f 0)), (15, (f 1)), (16, (f 2)), (17, (f 4)), (18, (f 5)), (19, v19), (13, v19), (20, v20), (21, v21), (1, v20), (2, v21), (23, (f 0)), (24, v21), (25, (f 3)), (26, (f 4)), (27, (f 5)), (28, v28), (22, v28), (29, v29), (30, v30), (2, v29), (3, v30), (32, (f 0)), (33, v20), (34, v29), (35, (f 4)), (36, (f 5)), (37, v37), (31, v37), (38, v38), (39, v39), (1, v38), (2, v39), (40, v39), (12, v39)]) h
  ) h
  ) h
  ) h
  ) h
  ) h
  ) h
  ) h
  ) h
  ) h
theorem medianF_code : medianF_c0 = hcode P medianF_md (Try.f114.body.getD .skip) := by kernel_rfl
theorem medianF_ok {a0 a1 a2 a3 a4 a5 : Value} {h : Heap} {R : Value → Heap → Prop} (hh : medianF_c0 (post [.tmp 12] R) (frame0 #[a0, a1, a2, a3, a4, a5]) h) : HCalls P 114 #[a0, a1, a2, a3, a4, a5] h R :=
  hcalls_gen (md := medianF_md) follows Try.func114 medianF_code (by kernel_rfl) (by kernel_rfl) (by kernel_rfl) (by kernel_rfl) (by kernel_rfl) hh

/-- slices.order2CmpFunc[[]tenon/api.Ref]: parameters [a0, a1, a2, a3, a4]; results [.tmp 10, .tmp 11]; slots [0:data, 1:a, 2:b, 3:swaps, 4:cmp, 5:data, 6:a, 7:b, 8:swaps, 9:cmp]; draws [1] -/
def order2F_md : Nat → RM := fun i => if i = 1 then RM.tail 9 else RM.quiet
def order2F_c0 (Q : Exit → F → Heap → Prop) (f : F) (h : Heap) : Prop :=
  headq P (X.move (f 4)) (fun v12 =>
  headq P (X.move (f 0)) (fun v13 =>
  headq P (X.move (f 2)) (fun v14 =>
  headq P (X.indexAddr 36 v13 v14) (fun v15 =>
  headq P (X.load 22 v15) (fun v16 =>
  headq P (X.move (f 0)) (fun v17 =>
  headq P (X.move (f 1)) (fun v18 =>
  headq P (X.indexAddr 36 v17 v18) (fun v19 =>
  headq P (X.load 22 v19) (fun v20 =>
  run P (X.dyn v12 [v16, v20]) (fun v21 h =>
  run P (X.bin .lss 3 false true v21 (Value.int .i64 0)) (fun v22 h =>
  br v22 (
    run P (X.nilCheck (f 3)) (fun v24 h =>
    run P (X.load 3 v24) (fun v25 h =>
    run P (X.bin .add 3 false true v25 (Value.int .i64 1)) (fun v26 h =>
    run P (X.nilCheck (f 3)) (fun v27 h =>
    run P (X.store 3 v27 v26) (fun _ h =>
    Q .ret (U f [(10, (Value.int .i64 0)), (11, (Value.int .i64 0)), (12, v12), (13, v13), (14, v14), (15, v15), (16, v16), (17, v17), (18, v18), (19, v19), (20, v20), (21, v21), (22, v22), (23, (f 3)), (24, v24), (25, v25), (26, v26), (27, v27), (28, (f 2)), (29, (f 1)), (10, (f 2)), (11, (f 1))]) h
    ) h
    ) h
    ) h
    ) h
    ) h
  ) (
    Q .ret (U f [(10, (Value.int .i64 0)), (11, (Value.int .i64 0)), (12, v12), (13, v13), (14, v14), (15, v15), (16, v16), (17, v17), (18, v18), (19, v19), (20, v20), (21, v21), (22, v22), (30, (f 1)), (31, (f 2)), (10, (f 1)), (11, (f 2))]) h
  )
  ) h
  ) h
  ) h
  ) h
  ) h
  ) h
  ) h
  ) h
  ) h
  ) h
  ) h
theorem order2F_code : order2F_c0 = hcode P order2F_md (Try.f117.body.getD .skip) := by kernel_rfl
theorem order2F_ok {a0 a1 a2 a3 a4 : Value} {h : Heap} {R : Value → Heap → Prop} (hh : order2F_c0 (post [.tmp 10, .tmp 11] R) (frame0 #[a0, a1, a2, a3, a4]) h) : HCalls P 117 #[a0, a1, a2, a3, a4] h R :=
  hcalls_gen (md := order2F_md) follows Try.func117 order2F_code (by kernel_rfl) (by kernel_rfl) (by kernel_rfl) (by kernel_rfl) (by kernel_rfl) hh

end Go.Proofs.G
