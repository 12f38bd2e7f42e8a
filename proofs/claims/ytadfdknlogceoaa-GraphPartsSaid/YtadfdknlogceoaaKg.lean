import Derived.Test.YtadfdknlogceoaaKd
set_option linter.all false
open Go Go.Hv
set_option maxRecDepth 100000
namespace Go.Proofs.G
/-- slices.pdqsortOrdered[tenon/api.Ref]: parameters [a0, a1, a2, a3]; results []; slots [0:data, 1:a, 2:b, 3:limit, 4:data, 5:a, 6:b, 7:limit, 8:wasBalanced, 9:wasPartitioned, 10:length, 11:pivot, 12:hint, 13:mid, 14:mid, 15:alreadyPartitioned, 16:leftLen, 17:rightLen, 18:balanceThreshold]; draws [17] -/
def pdq_md : Nat → RM := fun _ => RM.quiet
def pdq_c4 (Q : Exit → F → Heap → Prop) (f : F) (h : Heap) : Prop :=
  still P (X.move (f 1)) (fun v73 =>
  still P (X.bin .gtr 3 false true v73 (Value.int .i64 0)) (fun v74 =>
  still P (X.move v74) (fun v75 =>
  whenq (gw v75 true) (still P (X.move (f 0))) (fun v76 =>
  whenq (gw v75 true) (still P (X.move (f 1))) (fun v77 =>
  whenq (gw v75 true) (still P (X.bin .sub 3 false true v77 (Value.int .i64 1))) (fun v78 =>
  whenq (gw v75 true) (still P (X.indexAddr 22 v76 v78)) (fun v79 =>
  whenq (gw v75 true) (still P (X.load 41 v79)) (fun v80 =>
  whenq (gw v75 true) (still P (X.move (f 0))) (fun v81 =>
  whenq (gw v75 true) (still P (X.move (f 11))) (fun v82 =>
  whenq (gw v75 true) (still P (X.indexAddr 22 v81 v82)) (fun v83 =>
  whenq (gw v75 true) (still P (X.load 41 v83)) (fun v84 =>
  whenq (gw v75 true) (still P (X.callF 78 [v80, v84])) (fun v85 =>
  whenq (gw v75 true) (still P (X.un .not v85)) (fun v86 =>
  still P (X.pick v75 v86 (Value.bool false)) (fun v87 =>
  br v87 (
    run P (X.callF 93 [(f 0), (f 1), (f 2), (f 11)]) (fun v92 h =>
    Q .normal (U f [(73, v73), (74, v74), (75, v75), (76, v76), (77, v77), (78, v78), (79, v79), (80, v80), (81, v81), (82, v82), (83, v83), (84, v84), (85, v85), (86, v86), (87, v87), (88, (f 0)), (89, (f 1)), (90, (f 2)), (91, (f 11)), (92, v92), (13, v92), (93, v92), (1, v92)]) h
    ) h
  ) (
    run P (X.callF 94 [(f 0), (f 1), (f 2), (f 11)]) (fun v99 h =>
    run P (X.extract v99 0) (fun v100 h =>
    run P (X.extract v99 1) (fun v101 h =>
    run P (X.bin .sub 3 false false v100 (f 1)) (fun v105 h =>
    run P (X.bin .sub 3 false false (f 2) v100) (fun v108 h =>
    run P (X.bin .quo 3 false true (f 10) (Value.int .i64 8)) (fun v110 h =>
    run P (X.bin .lss 3 false false v105 v108) (fun v113 h =>
    br v113 (
      run P (X.bin .geq 3 false false v105 v110) (fun v116 h =>
      run P (X.callF 74 [(f 0), (f 1), v100, (f 3)]) (fun v121 h =>
      run P (X.bin .add 3 false true v100 (Value.int .i64 1)) (fun v123 h =>
      Q .normal (U f [(73, v73), (74, v74), (75, v75), (76, v76), (77, v77), (78, v78), (79, v79), (80, v80), (81, v81), (82, v82), (83, v83), (84, v84), (85, v85), (86, v86), (87, v87), (95, (f 0)), (96, (f 1)), (97, (f 2)), (98, (f 11)), (99, v99), (94, v99), (100, v100), (101, v101), (14, v100), (15, v101), (102, v101), (9, v101), (103, v100), (104, (f 1)), (105, v105), (106, (f 2)), (107, v100), (108, v108), (16, v105), (17, v108), (109, (f 10)), (110, v110), (18, v110), (111, v105), (112, v108), (113, v113), (114, v105), (115, v110), (116, v116), (8, v116), (117, (f 0)), (118, (f 1)), (119, v100), (120, (f 3)), (121, v121), (122, v100), (123, v123), (1, v123)]) h
      ) h
      ) h
      ) h
    ) (
      run P (X.bin .geq 3 false false v108 v110) (fun v126 h =>
      run P (X.bin .add 3 false true v100 (Value.int .i64 1)) (fun v129 h =>
      run P (X.callF 74 [(f 0), v129, (f 2), (f 3)]) (fun v132 h =>
      Q .normal (U f [(73, v73), (74, v74), (75, v75), (76, v76), (77, v77), (78, v78), (79, v79), (80, v80), (81, v81), (82, v82), (83, v83), (84, v84), (85, v85), (86, v86), (87, v87), (95, (f 0)), (96, (f 1)), (97, (f 2)), (98, (f 11)), (99, v99), (94, v99), (100, v100), (101, v101), (14, v100), (15, v101), (102, v101), (9, v101), (103, v100), (104, (f 1)), (105, v105), (106, (f 2)), (107, v100), (108, v108), (16, v105), (17, v108), (109, (f 10)), (110, v110), (18, v110), (111, v105), (112, v108), (113, v113), (124, v108), (125, v110), (126, v126), (8, v126), (127, (f 0)), (128, v100), (129, v129), (130, (f 2)), (131, (f 3)), (132, v132), (133, v100), (2, v100)]) h
      ) h
      ) h
      ) h
    )
    ) h
    ) h
    ) h
    ) h
    ) h
    ) h
    ) h
  )
  ) h
  ) h
  ) h
  ) h
  ) h
  ) h
  ) h
  ) h
  ) h
  ) h
  ) h
  ) h
  ) h
  ) h
  ) h

def pdq_c3 (Q : Exit → F → Heap → Prop) (f : F) (h : Heap) : Prop :=
  when (gw (f 8) true) (run P (X.move (f 9))) (fun v63 h =>
  run P (X.pick (f 8) v63 (Value.bool false)) (fun v64 h =>
  when (gw v64 true) (run P (X.move (f 12))) (fun v66 h =>
  when (gw v64 true) (run P (X.bin .eql 119 false true v66 (Value.int .i64 1))) (fun v67 h =>
  run P (X.pick v64 v67 (Value.bool false)) (fun v68 h =>
  br v68 (
    run P (X.callF 92 [(f 0), (f 1), (f 2)]) (fun v72 h =>
    br v72 (
      Q .ret (U f [(61, (f 8)), (62, (f 8)), (63, v63), (64, v64), (65, v64), (66, v66), (67, v67), (68, v68), (69, (f 0)), (70, (f 1)), (71, (f 2)), (72, v72)]) h
    ) (
      pdq_c4 Q (U f [(61, (f 8)), (62, (f 8)), (63, v63), (64, v64), (65, v64), (66, v66), (67, v67), (68, v68), (69, (f 0)), (70, (f 1)), (71, (f 2)), (72, v72)]) h
    )
    ) h
  ) (
    pdq_c4 Q (U f [(61, (f 8)), (62, (f 8)), (63, v63), (64, v64), (65, v64), (66, v66), (67, v67), (68, v68)]) h
  )
  ) h
  ) h
  ) h
  ) h
  ) h

def pdq_c2 (Q : Exit → F → Heap → Prop) (f : F) (h : Heap) : Prop :=
  run P (X.callF 90 [(f 0), (f 1), (f 2)]) (fun v46 h =>
  run P (X.extract v46 0) (fun v47 h =>
  run P (X.extract v46 1) (fun v48 h =>
  run P (X.bin .eql 119 false true v48 (Value.int .i64 2)) (fun v50 h =>
  br v50 (
    run P (X.callF 91 [(f 0), (f 1), (f 2)]) (fun v54 h =>
    run P (X.bin .sub 3 false true (f 2) (Value.int .i64 1)) (fun v56 h =>
    run P (X.bin .sub 3 false false v47 (f 1)) (fun v59 h =>
    run P (X.bin .sub 3 false false v56 v59) (fun v60 h =>
    pdq_c3 Q (U f [(43, (f 0)), (44, (f 1)), (45, (f 2)), (46, v46), (42, v46), (47, v47), (48, v48), (11, v47), (12, v48), (49, v48), (50, v50), (51, (f 0)), (52, (f 1)), (53, (f 2)), (54, v54), (55, (f 2)), (56, v56), (57, v47), (58, (f 1)), (59, v59), (60, v60), (11, v60), (12, (Value.int .i64 1))]) h
    ) h
    ) h
    ) h
    ) h
  ) (
    pdq_c3 Q (U f [(43, (f 0)), (44, (f 1)), (45, (f 2)), (46, v46), (42, v46), (47, v47), (48, v48), (11, v47), (12, v48), (49, v48), (50, v50)]) h
  )
  ) h
  ) h
  ) h
  ) h

def pdq_L1 (Q : Exit → F → Heap → Prop) (f : F) (h : Heap) : Prop :=
  run P (X.bin .sub 3 false false (f 2) (f 1)) (fun v21 h =>
  run P (X.bin .leq 3 false true v21 (Value.int .i64 12)) (fun v23 h =>
  br v23 (
    run P (X.callF 87 [(f 0), (f 1), (f 2)]) (fun v27 h =>
    Q .ret (U f [(19, (f 2)), (20, (f 1)), (21, v21), (10, v21), (22, v21), (23, v23), (24, (f 0)), (25, (f 1)), (26, (f 2)), (27, v27)]) h
    ) h
  ) (
    run P (X.bin .eql 3 false true (f 3) (Value.int .i64 0)) (fun v29 h =>
    br v29 (
      run P (X.callF 88 [(f 0), (f 1), (f 2)]) (fun v33 h =>
      Q .ret (U f [(19, (f 2)), (20, (f 1)), (21, v21), (10, v21), (22, v21), (23, v23), (28, (f 3)), (29, v29), (30, (f 0)), (31, (f 1)), (32, (f 2)), (33, v33)]) h
      ) h
    ) (
      run P (X.un .not (f 8)) (fun v35 h =>
      br v35 (
        run P (X.callF 89 [(f 0), (f 1), (f 2)]) (fun v39 h =>
        run P (X.bin .sub 3 false true (f 3) (Value.int .i64 1)) (fun v41 h =>
        pdq_c2 Q (U f [(19, (f 2)), (20, (f 1)), (21, v21), (10, v21), (22, v21), (23, v23), (28, (f 3)), (29, v29), (34, (f 8)), (35, v35), (36, (f 0)), (37, (f 1)), (38, (f 2)), (39, v39), (40, (f 3)), (41, v41), (3, v41)]) h
        ) h
        ) h
      ) (
        pdq_c2 Q (U f [(19, (f 2)), (20, (f 1)), (21, v21), (10, v21), (22, v21), (23, v23), (28, (f 3)), (29, v29), (34, (f 8)), (35, v35)]) h
      )
      ) h
    )
    ) h
  )
  ) h
  ) h

def pdq_c0 (Q : Exit → F → Heap → Prop) (f : F) (h : Heap) : Prop :=
  lp pdq_L1 (inB 0 Q) (U f [(8, (Value.bool true)), (9, (Value.bool true))]) h
theorem pdq_code : pdq_c0 = hcode P pdq_md (Try.f74.body.getD .skip) := by kernel_rfl
theorem pdq_ok {a0 a1 a2 a3 : Value} {h : Heap} {R : Value → Heap → Prop} (hh : pdq_c0 (post [] R) (frame0 #[a0, a1, a2, a3]) h) : HCalls P 74 #[a0, a1, a2, a3] h R :=
  hcalls_gen (md := pdq_md) follows Try.func74 pdq_code (by kernel_rfl) (by kernel_rfl) (by kernel_rfl) (by kernel_rfl) (by kernel_rfl) hh

/-- math/bits.Len: parameters [a0]; results [.tmp 2]; slots [0:x, 1:x]; draws [] -/
def len_md : Nat → RM := fun _ => RM.quiet
def len_c0 (Q : Exit → F → Heap → Prop) (f : F) (h : Heap) : Prop :=
  br (Value.bool false) (
    run P (X.conv 112 126 (f 0)) (fun v4 h =>
    run P (X.callF 95 [v4]) (fun v5 h =>
    Q .ret (U f [(2, (Value.int .i64 0)), (3, (f 0)), (4, v4), (5, v5), (2, v5)]) h
    ) h
    ) h
  ) (
    run P (X.callF 96 [(f 0)]) (fun v7 h =>
    Q .ret (U f [(2, (Value.int .i64 0)), (6, (f 0)), (7, v7), (2, v7)]) h
    ) h
  )
theorem len_code : len_c0 = hcode P len_md (Try.f75.body.getD .skip) := by kernel_rfl
theorem len_ok {a0 : Value} {h : Heap} {R : Value → Heap → Prop} (hh : len_c0 (post [.tmp 2] R) (frame0 #[a0]) h) : HCalls P 75 #[a0] h R :=
  hcalls_gen (md := len_md) follows Try.func75 len_code (by kernel_rfl) (by kernel_rfl) (by kernel_rfl) (by kernel_rfl) (by kernel_rfl) hh

/-- slices.insertionSortOrdered[tenon/api.Ref]: parameters [a0, a1, a2]; results []; slots [0:data, 1:a, 2:b, 3:data, 4:a, 5:b, 6:i, 7:j]; draws [4, 6] -/
def insSort_md : Nat → RM := fun i => if i = 6 then RM.sync [(0, 1), (1, 1), (2, 0), (3, 0), (4, 0), (5, 1), (6, 1), (7, 1), (8, 1), (9, 1), (10, 0), (11, 0), (12, 0), (13, 1), (14, 1), (15, 2), (16, 1), (17, 2)] else RM.quiet
def insSort_c2 (Q : Exit → F → Heap → Prop) (f : F) (h : Heap) : Prop :=
  run P (X.bin .add 3 false true (f 6) (Value.int .i64 1)) (fun v14 h =>
  Q .normal (U f [(13, (f 6)), (14, v14), (6, v14)]) h
  ) h

def insSort_L3 (Q : Exit → F → Heap → Prop) (f : F) (h : Heap) : Prop :=
  still P (X.move (f 7)) (fun v16 =>
  still P (X.move (f 1)) (fun v17 =>
  still P (X.bin .gtr 3 false false v16 v17) (fun v18 =>
  still P (X.move v18) (fun v19 =>
  whenq (gw v19 true) (still P (X.move (f 0))) (fun v20 =>
  whenq (gw v19 true) (still P (X.move (f 7))) (fun v21 =>
  whenq (gw v19 true) (still P (X.indexAddr 22 v20 v21)) (fun v22 =>
  whenq (gw v19 true) (still P (X.load 41 v22)) (fun v23 =>
  whenq (gw v19 true) (still P (X.move (f 0))) (fun v24 =>
  whenq (gw v19 true) (still P (X.move (f 7))) (fun v25 =>
  whenq (gw v19 true) (still P (X.bin .sub 3 false true v25 (Value.int .i64 1))) (fun v26 =>
  whenq (gw v19 true) (still P (X.indexAddr 22 v24 v26)) (fun v27 =>
  whenq (gw v19 true) (still P (X.load 41 v27)) (fun v28 =>
  whenq (gw v19 true) (still P (X.callF 78 [v23, v28])) (fun v29 =>
  still P (X.pick v19 v29 (Value.bool false)) (fun v30 =>
  br v30 (
    headq P (X.move (f 0)) (fun v33 =>
    headq P (X.move (f 7)) (fun v34 =>
    tf P (X.move (f 0)) (fun v35 =>
    tf P (X.move (f 7)) (fun v36 =>
    tf P (X.bin .sub 3 false true v36 (Value.int .i64 1)) (fun v37 =>
    headq P (X.move (f 0)) (fun v38 =>
    headq P (X.move (f 7)) (fun v39 =>
    headq P (X.bin .sub 3 false true v39 (Value.int .i64 1)) (fun v40 =>
    headq P (X.indexAddr 22 v38 v40) (fun v41 =>
    headq P (X.load 41 v41) (fun v42 =>
    tf P (X.move (f 0)) (fun v43 =>
    tf P (X.move (f 7)) (fun v44 =>
    tf P (X.indexAddr 22 v43 v44) (fun v45 =>
    headq P (X.load 41 v45) (fun v46 =>
    headq P (X.indexAddr 22 v33 v34) (fun v47 =>
    run P (X.store 41 v47 v42) (fun _ h =>
    headq P (X.indexAddr 22 v35 v37) (fun v48 =>
    run P (X.store 41 v48 v46) (fun _ h =>
    run P (X.bin .sub 3 false true (f 7) (Value.int .i64 1)) (fun v32 h =>
    Q .normal (U f [(16, v16), (17, v17), (18, v18), (19, v19), (20, v20), (21, v21), (22, v22), (23, v23), (24, v24), (25, v25), (26, v26), (27, v27), (28, v28), (29, v29), (30, v30), (33, v33), (34, v34), (35, v35), (36, v36), (37, v37), (38, v38), (39, v39), (40, v40), (41, v41), (42, v42), (43, v43), (44, v44), (45, v45), (46, v46), (47, v47), (48, v48), (31, (f 7)), (32, v32), (7, v32)]) h
    ) h
    ) h
    ) h
    ) h
    ) h
    ) h
    )
    )
    )
    ) h
    ) h
    ) h
    ) h
    ) h
    )
    )
    )
    ) h
    ) h
  ) (
    Q (.exit 2) (U f [(16, v16), (17, v17), (18, v18), (19, v19), (20, v20), (21, v21), (22, v22), (23, v23), (24, v24), (25, v25), (26, v26), (27, v27), (28, v28), (29, v29), (30, v30)]) h
  )
  ) h
  ) h
  ) h
  ) h
  ) h
  ) h
  ) h
  ) h
  ) h
  ) h
  ) h
  ) h
  ) h
  ) h
  ) h

def insSort_L1 (Q : Exit → F → Heap → Prop) (f : F) (h : Heap) : Prop :=
  run P (X.bin .lss 3 false false (f 6) (f 2)) (fun v12 h =>
  br v12 (
    lp insSort_L3 (inB 2 (inB 1 (thenQ (insSort_c2 Q) Q))) (U f [(10, (f 6)), (11, (f 2)), (12, v12), (15, (f 6)), (7, (f 6))]) h
  ) (
    Q (.exit 0) (U f [(10, (f 6)), (11, (f 2)), (12, v12)]) h
  )
  ) h

def insSort_c0 (Q : Exit → F → Heap → Prop) (f : F) (h : Heap) : Prop :=
  run P (X.bin .add 3 false true (f 1) (Value.int .i64 1)) (fun v9 h =>
  lp insSort_L1 (inB 0 Q) (U f [(8, (f 1)), (9, v9), (6, v9)]) h
  ) h
theorem insSort_code : insSort_c0 = hcode P insSort_md (Try.f87.body.getD .skip) := by kernel_rfl
theorem insSort_ok {a0 a1 a2 : Value} {h : Heap} {R : Value → Heap → Prop} (hh : insSort_c0 (post [] R) (frame0 #[a0, a1, a2]) h) : HCalls P 87 #[a0, a1, a2] h R :=
  hcalls_gen (md := insSort_md) follows Try.func87 insSort_code (by kernel_rfl) (by kernel_rfl) (by kernel_rfl) (by kernel_rfl) (by kernel_rfl) hh

/-- slices.heapSortOrdered[tenon/api.Ref]: parameters [a0, a1, a2]; results []; slots [0:data, 1:a, 2:b, 3:data, 4:a, 5:b, 6:first, 7:lo, 8:hi, 9:i, 10:i]; draws [10] -/
def heapSort_md : Nat → RM := fun i => if i = 10 then RM.sync [(0, 1), (1, 1), (2, 0), (3, 0), (4, 0), (5, 0), (6, 1), (7, 1), (8, 1), (9, 1), (10, 1), (11, 1), (12, 0), (13, 0), (14, 0), (15, 1), (16, 1), (17, 2), (18, 1), (19, 2)] else RM.quiet
def heapSort_L2 (Q : Exit → F → Heap → Prop) (f : F) (h : Heap) : Prop :=
  run P (X.bin .geq 3 false true (f 10) (Value.int .i64 0)) (fun v30 h =>
  br v30 (
    headq P (X.move (f 0)) (fun v33 =>
    headq P (X.move (f 6)) (fun v34 =>
    tf P (X.move (f 0)) (fun v35 =>
    tf P (X.move (f 6)) (fun v36 =>
    tf P (X.move (f 10)) (fun v37 =>
    tf P (X.bin .add 3 false false v36 v37) (fun v38 =>
    headq P (X.move (f 0)) (fun v39 =>
    headq P (X.move (f 6)) (fun v40 =>
    headq P (X.move (f 10)) (fun v41 =>
    headq P (X.bin .add 3 false false v40 v41) (fun v42 =>
    headq P (X.indexAddr 22 v39 v42) (fun v43 =>
    headq P (X.load 41 v43) (fun v44 =>
    tf P (X.move (f 0)) (fun v45 =>
    tf P (X.move (f 6)) (fun v46 =>
    tf P (X.indexAddr 22 v45 v46) (fun v47 =>
    headq P (X.load 41 v47) (fun v48 =>
    headq P (X.indexAddr 22 v33 v34) (fun v49 =>
    run P (X.store 41 v49 v44) (fun _ h =>
    headq P (X.indexAddr 22 v35 v38) (fun v50 =>
    run P (X.store 41 v50 v48) (fun _ h =>
    run P (X.callF 107 [(f 0), (f 7), (f 10), (f 6)]) (fun v55 h =>
    run P (X.bin .sub 3 false true (f 10) (Value.int .i64 1)) (fun v32 h =>
    Q .normal (U f [(29, (f 10)), (30, v30), (33, v33), (34, v34), (35, v35), (36, v36), (37, v37), (38, v38), (39, v39), (40, v40), (41, v41), (42, v42), (43, v43), (44, v44), (45, v45), (46, v46), (47, v47), (48, v48), (49, v49), (50, v50), (51, (f 0)), (52, (f 7)), (53, (f 10)), (54, (f 6)), (55, v55), (31, (f 10)), (32, v32), (10, v32)]) h
    ) h
    ) h
    ) h
    ) h
    ) h
    ) h
    ) h
    )
    )
    )
    ) h
    ) h
    ) h
    ) h
    ) h
    ) h
    )
    )
    )
    )
    ) h
    ) h
  ) (
    Q (.exit 2) (U f [(29, (f 10)), (30, v30)]) h
  )
  ) h

def heapSort_c1 (Q : Exit → F → Heap → Prop) (f : F) (h : Heap) : Prop :=
  run P (X.bin .sub 3 false true (f 8) (Value.int .i64 1)) (fun v28 h =>
  lp heapSort_L2 (inB 2 Q) (U f [(27, (f 8)), (28, v28), (10, v28)]) h
  ) h

def heapSort_L3 (Q : Exit → F → Heap → Prop) (f : F) (h : Heap) : Prop :=
  run P (X.bin .geq 3 false true (f 9) (Value.int .i64 0)) (fun v19 h =>
  br v19 (
    run P (X.callF 107 [(f 0), (f 9), (f 8), (f 6)]) (fun v26 h =>
    run P (X.bin .sub 3 false true (f 9) (Value.int .i64 1)) (fun v21 h =>
    Q .normal (U f [(18, (f 9)), (19, v19), (22, (f 0)), (23, (f 9)), (24, (f 8)), (25, (f 6)), (26, v26), (20, (f 9)), (21, v21), (9, v21)]) h
    ) h
    ) h
  ) (
    Q (.exit 0) (U f [(18, (f 9)), (19, v19)]) h
  )
  ) h

def heapSort_c0 (Q : Exit → F → Heap → Prop) (f : F) (h : Heap) : Prop :=
  run P (X.bin .sub 3 false false (f 2) (f 1)) (fun v14 h =>
  run P (X.bin .sub 3 false true v14 (Value.int .i64 1)) (fun v16 h =>
  run P (X.bin .quo 3 false true v16 (Value.int .i64 2)) (fun v17 h =>
  lp heapSort_L3 (inB 0 (thenQ (heapSort_c1 Q) Q)) (U f [(11, (f 1)), (6, (f 1)), (7, (Value.int .i64 0)), (12, (f 2)), (13, (f 1)), (14, v14), (8, v14), (15, v14), (16, v16), (17, v17), (9, v17)]) h
  ) h
  ) h
  ) h
theorem heapSort_code : heapSort_c0 = hcode P heapSort_md (Try.f88.body.getD .skip) := by kernel_rfl
theorem heapSort_ok {a0 a1 a2 : Value} {h : Heap} {R : Value → Heap → Prop} (hh : heapSort_c0 (post [] R) (frame0 #[a0, a1, a2]) h) : HCalls P 88 #[a0, a1, a2] h R :=
  hcalls_gen (md := heapSort_md) follows Try.func88 heapSort_code (by kernel_rfl) (by kernel_rfl) (by kernel_rfl) (by kernel_rfl) (by kernel_rfl) hh

/-- slices.breakPatternsOrdered[tenon/api.Ref]: parameters [a0, a1, a2]; results []; slots [0:data, 1:a, 2:b, 3:data, 4:a, 5:b, 6:length, 7:random, 8:modulus, 9:idx, 10:other]; draws [10] -/
def breakP_md : Nat → RM := fun i => if i = 10 then RM.sync [(0, 1), (1, 1), (2, 0), (3, 0), (4, 0), (5, 0), (6, 1), (7, 1), (8, 1), (9, 1), (10, 1), (11, 1), (12, 0), (13, 0), (14, 0), (15, 1), (16, 1), (17, 2), (18, 1), (19, 2)] else RM.quiet
def breakP_c2 (Q : Exit → F → Heap → Prop) (f : F) (h : Heap) : Prop :=
  run P (X.bin .add 3 false true (f 9) (Value.int .i64 1)) (fun v35 h =>
  Q .normal (U f [(34, (f 9)), (35, v35), (9, v35)]) h
  ) h

def breakP_c3 (Q : Exit → F → Heap → Prop) (f : F) (h : Heap) : Prop :=
  headq P (X.move (f 0)) (fun v47 =>
  headq P (X.move (f 9)) (fun v48 =>
  tf P (X.move (f 0)) (fun v49 =>
  tf P (X.move (f 1)) (fun v50 =>
  tf P (X.move (f 10)) (fun v51 =>
  tf P (X.bin .add 3 false false v50 v51) (fun v52 =>
  headq P (X.move (f 0)) (fun v53 =>
  headq P (X.move (f 1)) (fun v54 =>
  headq P (X.move (f 10)) (fun v55 =>
  headq P (X.bin .add 3 false false v54 v55) (fun v56 =>
  headq P (X.indexAddr 22 v53 v56) (fun v57 =>
  headq P (X.load 41 v57) (fun v58 =>
  tf P (X.move (f 0)) (fun v59 =>
  tf P (X.move (f 9)) (fun v60 =>
  tf P (X.indexAddr 22 v59 v60) (fun v61 =>
  headq P (X.load 41 v61) (fun v62 =>
  headq P (X.indexAddr 22 v47 v48) (fun v63 =>
  run P (X.store 41 v63 v58) (fun _ h =>
  headq P (X.indexAddr 22 v49 v52) (fun v64 =>
  run P (X.store 41 v64 v62) (fun _ h =>
  breakP_c2 Q (U f [(47, v47), (48, v48), (49, v49), (50, v50), (51, v51), (52, v52), (53, v53), (54, v54), (55, v55), (56, v56), (57, v57), (58, v58), (59, v59), (60, v60), (61, v61), (62, v62), (63, v63), (64, v64)]) h
  ) h
  ) h
  ) h
  ) h
  ) h
  )
  )
  )
  ) h
  ) h
  ) h
  ) h
  ) h
  ) h
  )
  )
  )
  )
  ) h
  ) h

def breakP_L1 (Q : Exit → F → Heap → Prop) (f : F) (h : Heap) : Prop :=
  run P (X.bin .quo 3 false true (f 6) (Value.int .i64 4)) (fun v29 h =>
  run P (X.bin .mul 3 false true v29 (Value.int .i64 2)) (fun v30 h =>
  run P (X.bin .add 3 false false (f 1) v30) (fun v31 h =>
  run P (X.bin .add 3 false true v31 (Value.int .i64 1)) (fun v32 h =>
  run P (X.bin .leq 3 false false (f 9) v32) (fun v33 h =>
  br v33 (
    run P (X.callF 109 [(f 7)]) (fun v36 h =>
    run P (X.bin .sub 112 false true (f 8) (Value.int .u64 1)) (fun v38 h =>
    run P (X.bin .and 112 false false v36 v38) (fun v39 h =>
    run P (X.conv 112 3 v39) (fun v40 h =>
    run P (X.bin .geq 3 false false v40 (f 6)) (fun v43 h =>
    br v43 (
      run P (X.bin .sub 3 false false v40 (f 6)) (fun v46 h =>
      breakP_c3 Q (U f [(26, (f 9)), (27, (f 1)), (28, (f 6)), (29, v29), (30, v30), (31, v31), (32, v32), (33, v33), (36, v36), (37, (f 8)), (38, v38), (39, v39), (40, v40), (10, v40), (41, v40), (42, (f 6)), (43, v43), (44, v40), (45, (f 6)), (46, v46), (10, v46)]) h
      ) h
    ) (
      breakP_c3 Q (U f [(26, (f 9)), (27, (f 1)), (28, (f 6)), (29, v29), (30, v30), (31, v31), (32, v32), (33, v33), (36, v36), (37, (f 8)), (38, v38), (39, v39), (40, v40), (10, v40), (41, v40), (42, (f 6)), (43, v43)]) h
    )
    ) h
    ) h
    ) h
    ) h
    ) h
  ) (
    Q (.exit 0) (U f [(26, (f 9)), (27, (f 1)), (28, (f 6)), (29, v29), (30, v30), (31, v31), (32, v32), (33, v33)]) h
  )
  ) h
  ) h
  ) h
  ) h
  ) h

def breakP_c0 (Q : Exit → F → Heap → Prop) (f : F) (h : Heap) : Prop :=
  run P (X.bin .sub 3 false false (f 2) (f 1)) (fun v13 h =>
  run P (X.bin .geq 3 false true v13 (Value.int .i64 8)) (fun v15 h =>
  br v15 (
    run P (X.conv 3 134 v13) (fun v17 h =>
    run P (X.alloc 134) (fun v7 h =>
    run P (X.store 134 v7 v17) (fun _ h =>
    run P (X.callF 108 [v13]) (fun v19 h =>
    run P (X.bin .quo 3 false true v13 (Value.int .i64 4)) (fun v22 h =>
    run P (X.bin .mul 3 false true v22 (Value.int .i64 2)) (fun v23 h =>
    run P (X.bin .add 3 false false (f 1) v23) (fun v24 h =>
    run P (X.bin .sub 3 false true v24 (Value.int .i64 1)) (fun v25 h =>
    lp breakP_L1 (inB 0 Q) (U f [(11, (f 2)), (12, (f 1)), (13, v13), (6, v13), (14, v13), (15, v15), (16, v13), (17, v17), (7, v7), (18, v13), (19, v19), (8, v19), (20, (f 1)), (21, v13), (22, v22), (23, v23), (24, v24), (25, v25), (9, v25)]) h
    ) h
    ) h
    ) h
    ) h
    ) h
    ) h
    ) h
    ) h
  ) (
    Q .normal (U f [(11, (f 2)), (12, (f 1)), (13, v13), (6, v13), (14, v13), (15, v15)]) h
  )
  ) h
  ) h
theorem breakP_code : breakP_c0 = hcode P breakP_md (Try.f89.body.getD .skip) := by kernel_rfl
theorem breakP_ok {a0 a1 a2 : Value} {h : Heap} {R : Value → Heap → Prop} (hh : breakP_c0 (post [] R) (frame0 #[a0, a1, a2]) h) : HCalls P 89 #[a0, a1, a2] h R :=
  hcalls_gen (md := breakP_md) follows Try.func89 breakP_code (by kernel_rfl) (by kernel_rfl) (by kernel_rfl) (by kernel_rfl) (by kernel_rfl) hh

/-- slices.choosePivotOrdered[tenon/api.Ref]: parameters [a0, a1, a2]; results [.tmp 6, .tmp 7]; slots [0:data, 1:a, 2:b, 3:data, 4:a, 5:b, 6:pivot, 7:hint, 8:l, 9:swaps, 10:i, 11:j, 12:k]; draws [] -/
def choosePiv_md : Nat → RM := fun _ => RM.quiet
def choosePiv_c1 (Q : Exit → F → Heap → Prop) (f : F) (h : Heap) : Prop :=
  run P (X.load 3 (f 9)) (fun v49 h =>
  run P (X.bin .eql 3 false true v49 (Value.int .i64 0)) (fun v52 h =>
  br v52 (
    Q .ret (U f [(49, v49), (52, v52), (51, v52), (53, (f 11)), (6, (f 11)), (7, (Value.int .i64 1))]) h
  ) (
    run P (X.bin .eql 3 false true v49 (Value.int .i64 12)) (fun v55 h =>
    br v55 (
      Q .ret (U f [(49, v49), (52, v52), (51, v52), (55, v55), (54, v55), (56, (f 11)), (6, (f 11)), (7, (Value.int .i64 2))]) h
    ) (
      Q .ret (U f [(49, v49), (52, v52), (51, v52), (55, v55), (54, v55), (50, (f 11)), (6, (f 11)), (7, (Value.int .i64 0))]) h
    )
    ) h
  )
  ) h
  ) h

def choosePiv_c2 (Q : Exit → F → Heap → Prop) (f : F) (h : Heap) : Prop :=
  run P (X.callF 111 [(f 0), (f 10), (f 11), (f 12), (f 9)]) (fun v48 h =>
  choosePiv_c1 Q (U f [(44, (f 0)), (45, (f 10)), (46, (f 11)), (47, (f 12)), (48, v48), (11, v48)]) h
  ) h

def choosePiv_c0 (Q : Exit → F → Heap → Prop) (f : F) (h : Heap) : Prop :=
  run P (X.bin .sub 3 false false (f 2) (f 1)) (fun v15 h =>
  run P (X.alloc 3) (fun v9 h =>
  run P (X.bin .quo 3 false true v15 (Value.int .i64 4)) (fun v18 h =>
  run P (X.bin .mul 3 false true v18 (Value.int .i64 1)) (fun v19 h =>
  run P (X.bin .add 3 false false (f 1) v19) (fun v20 h =>
  run P (X.bin .quo 3 false true v15 (Value.int .i64 4)) (fun v23 h =>
  run P (X.bin .mul 3 false true v23 (Value.int .i64 2)) (fun v24 h =>
  run P (X.bin .add 3 false false (f 1) v24) (fun v25 h =>
  run P (X.bin .quo 3 false true v15 (Value.int .i64 4)) (fun v28 h =>
  run P (X.bin .mul 3 false true v28 (Value.int .i64 3)) (fun v29 h =>
  run P (X.bin .add 3 false false (f 1) v29) (fun v30 h =>
  run P (X.bin .geq 3 false true v15 (Value.int .i64 8)) (fun v32 h =>
  br v32 (
    run P (X.bin .geq 3 false true v15 (Value.int .i64 50)) (fun v34 h =>
    br v34 (
      run P (X.callF 110 [(f 0), v20, v9]) (fun v37 h =>
      run P (X.callF 110 [(f 0), v25, v9]) (fun v40 h =>
      run P (X.callF 110 [(f 0), v30, v9]) (fun v43 h =>
      choosePiv_c2 Q (U f [(6, (Value.int .i64 0)), (7, (Value.int .i64 0)), (13, (f 2)), (14, (f 1)), (15, v15), (8, v15), (9, v9), (16, (f 1)), (17, v15), (18, v18), (19, v19), (20, v20), (10, v20), (21, (f 1)), (22, v15), (23, v23), (24, v24), (25, v25), (11, v25), (26, (f 1)), (27, v15), (28, v28), (29, v29), (30, v30), (12, v30), (31, v15), (32, v32), (33, v15), (34, v34), (35, (f 0)), (36, v20), (37, v37), (10, v37), (38, (f 0)), (39, v25), (40, v40), (11, v40), (41, (f 0)), (42, v30), (43, v43), (12, v43)]) h
      ) h
      ) h
      ) h
    ) (
      choosePiv_c2 Q (U f [(6, (Value.int .i64 0)), (7, (Value.int .i64 0)), (13, (f 2)), (14, (f 1)), (15, v15), (8, v15), (9, v9), (16, (f 1)), (17, v15), (18, v18), (19, v19), (20, v20), (10, v20), (21, (f 1)), (22, v15), (23, v23), (24, v24), (25, v25), (11, v25), (26, (f 1)), (27, v15), (28, v28), (29, v29), (30, v30), (12, v30), (31, v15), (32, v32), (33, v15), (34, v34)]) h
    )
    ) h
  ) (
    choosePiv_c1 Q (U f [(6, (Value.int .i64 0)), (7, (Value.int .i64 0)), (13, (f 2)), (14, (f 1)), (15, v15), (8, v15), (9, v9), (16, (f 1)), (17, v15), (18, v18), (19, v19), (20, v20), (10, v20), (21, (f 1)), (22, v15), (23, v23), (24, v24), (25, v25), (11, v25), (26, (f 1)), (27, v15), (28, v28), (29, v29), (30, v30), (12, v30), (31, v15), (32, v32)]) h
  )
  ) h
  ) h
  ) h
  ) h
  ) h
  ) h
  ) h
  ) h
  ) h
  ) h
  ) h
  ) h
theorem choosePiv_code : choosePiv_c0 = hcode P choosePiv_md (Try.f90.body.getD .skip) := by kernel_rfl
theorem choosePiv_ok {a0 a1 a2 : Value} {h : Heap} {R : Value → Heap → Prop} (hh : choosePiv_c0 (post [.tmp 6, .tmp 7] R) (frame0 #[a0, a1, a2]) h) : HCalls P 90 #[a0, a1, a2] h R :=
  hcalls_gen (md := choosePiv_md) follows Try.func90 choosePiv_code (by kernel_rfl) (by kernel_rfl) (by kernel_rfl) (by kernel_rfl) (by kernel_rfl) hh

/-- slices.reverseRangeOrdered[tenon/api.Ref]: parameters [a0, a1, a2]; results []; slots [0:data, 1:a, 2:b, 3:data, 4:a, 5:b, 6:i, 7:j]; draws [3] -/
def revRange_md : Nat → RM := fun i => if i = 3 then RM.sync [(0, 1), (1, 1), (2, 0), (3, 0), (4, 1), (5, 1), (6, 1), (7, 1), (8, 0), (9, 0), (10, 0), (11, 1), (12, 1), (13, 2), (14, 1), (15, 2)] else RM.quiet
def revRange_L1 (Q : Exit → F → Heap → Prop) (f : F) (h : Heap) : Prop :=
  run P (X.bin .lss 3 false false (f 6) (f 7)) (fun v13 h =>
  br v13 (
    headq P (X.move (f 0)) (fun v14 =>
    headq P (X.move (f 6)) (fun v15 =>
    tf P (X.move (f 0)) (fun v16 =>
    tf P (X.move (f 7)) (fun v17 =>
    headq P (X.move (f 0)) (fun v18 =>
    headq P (X.move (f 7)) (fun v19 =>
    headq P (X.indexAddr 22 v18 v19) (fun v20 =>
    headq P (X.load 41 v20) (fun v21 =>
    tf P (X.move (f 0)) (fun v22 =>
    tf P (X.move (f 6)) (fun v23 =>
    tf P (X.indexAddr 22 v22 v23) (fun v24 =>
    headq P (X.load 41 v24) (fun v25 =>
    headq P (X.indexAddr 22 v14 v15) (fun v26 =>
    run P (X.store 41 v26 v21) (fun _ h =>
    headq P (X.indexAddr 22 v16 v17) (fun v27 =>
    run P (X.store 41 v27 v25) (fun _ h =>
    run P (X.bin .add 3 false true (f 6) (Value.int .i64 1)) (fun v29 h =>
    run P (X.bin .sub 3 false true (f 7) (Value.int .i64 1)) (fun v31 h =>
    Q .normal (U f [(11, (f 6)), (12, (f 7)), (13, v13), (14, v14), (15, v15), (16, v16), (17, v17), (18, v18), (19, v19), (20, v20), (21, v21), (22, v22), (23, v23), (24, v24), (25, v25), (26, v26), (27, v27), (28, (f 6)), (29, v29), (6, v29), (30, (f 7)), (31, v31), (7, v31)]) h
    ) h
    ) h
    ) h
    ) h
    ) h
    ) h
    ) h
    )
    )
    )
    ) h
    ) h
    ) h
    ) h
    )
    )
    ) h
    ) h
  ) (
    Q (.exit 0) (U f [(11, (f 6)), (12, (f 7)), (13, v13)]) h
  )
  ) h

def revRange_c0 (Q : Exit → F → Heap → Prop) (f : F) (h : Heap) : Prop :=
  run P (X.bin .sub 3 false true (f 2) (Value.int .i64 1)) (fun v10 h =>
  lp revRange_L1 (inB 0 Q) (U f [(8, (f 1)), (6, (f 1)), (9, (f 2)), (10, v10), (7, v10)]) h
  ) h
theorem revRange_code : revRange_c0 = hcode P revRange_md (Try.f91.body.getD .skip) := by kernel_rfl
theorem revRange_ok {a0 a1 a2 : Value} {h : Heap} {R : Value → Heap → Prop} (hh : revRange_c0 (post [] R) (frame0 #[a0, a1, a2]) h) : HCalls P 91 #[a0, a1, a2] h R :=
  hcalls_gen (md := revRange_md) follows Try.func91 revRange_code (by kernel_rfl) (by kernel_rfl) (by kernel_rfl) (by kernel_rfl) (by kernel_rfl) hh

/-- slices.partialInsertionSortOrdered[tenon/api.Ref]: parameters [a0, a1, a2]; results [.tmp 6]; slots [0:data, 1:a, 2:b, 3:data, 4:a, 5:b, 7:i, 8:j, 9:j, 10:j]; draws [5, 11, 16, 17, 22, 23] -/
def partIns_md : Nat → RM := fun i => if i = 11 then RM.sync [(0, 1), (1, 1), (2, 0), (3, 0), (4, 0), (5, 1), (6, 1), (7, 1), (8, 1), (9, 1), (10, 0), (11, 0), (12, 0), (13, 1), (14, 1), (15, 2), (16, 1), (17, 2)] else if i = 17 then RM.sync [(0, 1), (1, 1), (2, 0), (3, 0), (4, 0), (5, 1), (6, 1), (7, 1), (8, 1), (9, 1), (10, 0), (11, 0), (12, 0), (13, 1), (14, 1), (15, 2), (16, 1), (17, 2)] else if i = 23 then RM.sync [(0, 1), (1, 1), (2, 0), (3, 0), (4, 0), (5, 1), (6, 1), (7, 1), (8, 1), (9, 1), (10, 0), (11, 0), (12, 0), (13, 1), (14, 1), (15, 2), (16, 1), (17, 2)] else RM.quiet
def partIns_c1 (Q : Exit → F → Heap → Prop) (f : F) (h : Heap) : Prop :=
  Q .ret (U f [(6, (Value.bool false))]) h

def partIns_c3 (Q : Exit → F → Heap → Prop) (f : F) (h : Heap) : Prop :=
  run P (X.bin .add 3 false true (f 8) (Value.int .i64 1)) (fun v16 h =>
  Q .normal (U f [(15, (f 8)), (16, v16), (8, v16)]) h
  ) h

def partIns_L6 (Q : Exit → F → Heap → Prop) (f : F) (h : Heap) : Prop :=
  run P (X.bin .lss 3 false false (f 10) (f 2)) (fun v103 h =>
  br v103 (
    still P (X.move (f 0)) (fun v106 =>
    still P (X.move (f 10)) (fun v107 =>
    still P (X.indexAddr 22 v106 v107) (fun v108 =>
    still P (X.load 41 v108) (fun v109 =>
    still P (X.move (f 0)) (fun v110 =>
    still P (X.move (f 10)) (fun v111 =>
    still P (X.bin .sub 3 false true v111 (Value.int .i64 1)) (fun v112 =>
    still P (X.indexAddr 22 v110 v112) (fun v113 =>
    still P (X.load 41 v113) (fun v114 =>
    still P (X.callF 78 [v109, v114]) (fun v115 =>
    still P (X.un .not v115) (fun v116 =>
    br v116 (
      Q (.exit 6) (U f [(101, (f 10)), (102, (f 2)), (103, v103), (106, v106), (107, v107), (108, v108), (109, v109), (110, v110), (111, v111), (112, v112), (113, v113), (114, v114), (115, v115), (116, v116)]) h
    ) (
      headq P (X.move (f 0)) (fun v117 =>
      headq P (X.move (f 10)) (fun v118 =>
      tf P (X.move (f 0)) (fun v119 =>
      tf P (X.move (f 10)) (fun v120 =>
      tf P (X.bin .sub 3 false true v120 (Value.int .i64 1)) (fun v121 =>
      headq P (X.move (f 0)) (fun v122 =>
      headq P (X.move (f 10)) (fun v123 =>
      headq P (X.bin .sub 3 false true v123 (Value.int .i64 1)) (fun v124 =>
      headq P (X.indexAddr 22 v122 v124) (fun v125 =>
      headq P (X.load 41 v125) (fun v126 =>
      tf P (X.move (f 0)) (fun v127 =>
      tf P (X.move (f 10)) (fun v128 =>
      tf P (X.indexAddr 22 v127 v128) (fun v129 =>
      headq P (X.load 41 v129) (fun v130 =>
      headq P (X.indexAddr 22 v117 v118) (fun v131 =>
      run P (X.store 41 v131 v126) (fun _ h =>
      headq P (X.indexAddr 22 v119 v121) (fun v132 =>
      run P (X.store 41 v132 v130) (fun _ h =>
      run P (X.bin .add 3 false true (f 10) (Value.int .i64 1)) (fun v105 h =>
      Q .normal (U f [(101, (f 10)), (102, (f 2)), (103, v103), (106, v106), (107, v107), (108, v108), (109, v109), (110, v110), (111, v111), (112, v112), (113, v113), (114, v114), (115, v115), (116, v116), (117, v117), (118, v118), (119, v119), (120, v120), (121, v121), (122, v122), (123, v123), (124, v124), (125, v125), (126, v126), (127, v127), (128, v128), (129, v129), (130, v130), (131, v131), (132, v132), (104, (f 10)), (105, v105), (10, v105)]) h
      ) h
      ) h
      ) h
      ) h
      ) h
      ) h
      )
      )
      )
      ) h
      ) h
      ) h
      ) h
      ) h
      )
      )
      )
      ) h
      ) h
    )
    ) h
    ) h
    ) h
    ) h
    ) h
    ) h
    ) h
    ) h
    ) h
    ) h
    ) h
  ) (
    Q (.exit 6) (U f [(101, (f 10)), (102, (f 2)), (103, v103)]) h
  )
  ) h

def partIns_c5 (Q : Exit → F → Heap → Prop) (f : F) (h : Heap) : Prop :=
  run P (X.bin .sub 3 false false (f 2) (f 7)) (fun v97 h =>
  run P (X.bin .geq 3 false true v97 (Value.int .i64 2)) (fun v98 h =>
  br v98 (
    run P (X.bin .add 3 false true (f 7) (Value.int .i64 1)) (fun v100 h =>
    lp partIns_L6 (inB 6 (inB 1 (thenQ (partIns_c3 Q) Q))) (U f [(95, (f 2)), (96, (f 7)), (97, v97), (98, v98), (99, (f 7)), (100, v100), (10, v100)]) h
    ) h
  ) (
    partIns_c3 Q (U f [(95, (f 2)), (96, (f 7)), (97, v97), (98, v98)]) h
  )
  ) h
  ) h

def partIns_L7 (Q : Exit → F → Heap → Prop) (f : F) (h : Heap) : Prop :=
  run P (X.bin .geq 3 false true (f 9) (Value.int .i64 1)) (fun v65 h =>
  br v65 (
    still P (X.move (f 0)) (fun v68 =>
    still P (X.move (f 9)) (fun v69 =>
    still P (X.indexAddr 22 v68 v69) (fun v70 =>
    still P (X.load 41 v70) (fun v71 =>
    still P (X.move (f 0)) (fun v72 =>
    still P (X.move (f 9)) (fun v73 =>
    still P (X.bin .sub 3 false true v73 (Value.int .i64 1)) (fun v74 =>
    still P (X.indexAddr 22 v72 v74) (fun v75 =>
    still P (X.load 41 v75) (fun v76 =>
    still P (X.callF 78 [v71, v76]) (fun v77 =>
    still P (X.un .not v77) (fun v78 =>
    br v78 (
      Q (.exit 4) (U f [(64, (f 9)), (65, v65), (68, v68), (69, v69), (70, v70), (71, v71), (72, v72), (73, v73), (74, v74), (75, v75), (76, v76), (77, v77), (78, v78)]) h
    ) (
      headq P (X.move (f 0)) (fun v79 =>
      headq P (X.move (f 9)) (fun v80 =>
      tf P (X.move (f 0)) (fun v81 =>
      tf P (X.move (f 9)) (fun v82 =>
      tf P (X.bin .sub 3 false true v82 (Value.int .i64 1)) (fun v83 =>
      headq P (X.move (f 0)) (fun v84 =>
      headq P (X.move (f 9)) (fun v85 =>
      headq P (X.bin .sub 3 false true v85 (Value.int .i64 1)) (fun v86 =>
      headq P (X.indexAddr 22 v84 v86) (fun v87 =>
      headq P (X.load 41 v87) (fun v88 =>
      tf P (X.move (f 0)) (fun v89 =>
      tf P (X.move (f 9)) (fun v90 =>
      tf P (X.indexAddr 22 v89 v90) (fun v91 =>
      headq P (X.load 41 v91) (fun v92 =>
      headq P (X.indexAddr 22 v79 v80) (fun v93 =>
      run P (X.store 41 v93 v88) (fun _ h =>
      headq P (X.indexAddr 22 v81 v83) (fun v94 =>
      run P (X.store 41 v94 v92) (fun _ h =>
      run P (X.bin .sub 3 false true (f 9) (Value.int .i64 1)) (fun v67 h =>
      Q .normal (U f [(64, (f 9)), (65, v65), (68, v68), (69, v69), (70, v70), (71, v71), (72, v72), (73, v73), (74, v74), (75, v75), (76, v76), (77, v77), (78, v78), (79, v79), (80, v80), (81, v81), (82, v82), (83, v83), (84, v84), (85, v85), (86, v86), (87, v87), (88, v88), (89, v89), (90, v90), (91, v91), (92, v92), (93, v93), (94, v94), (66, (f 9)), (67, v67), (9, v67)]) h
      ) h
      ) h
      ) h
      ) h
      ) h
      ) h
      )
      )
      )
      ) h
      ) h
      ) h
      ) h
      ) h
      )
      )
      )
      ) h
      ) h
    )
    ) h
    ) h
    ) h
    ) h
    ) h
    ) h
    ) h
    ) h
    ) h
    ) h
    ) h
  ) (
    Q (.exit 4) (U f [(64, (f 9)), (65, v65)]) h
  )
  ) h

def partIns_c4 (Q : Exit → F → Heap → Prop) (f : F) (h : Heap) : Prop :=
  run P (X.bin .eql 3 false false (f 7) (f 2)) (fun v37 h =>
  br v37 (
    Q .ret (U f [(35, (f 7)), (36, (f 2)), (37, v37), (6, (Value.bool true))]) h
  ) (
    run P (X.bin .sub 3 false false (f 2) (f 1)) (fun v40 h =>
    run P (X.bin .lss 3 false true v40 (Value.int .i64 50)) (fun v41 h =>
    br v41 (
      Q .ret (U f [(35, (f 7)), (36, (f 2)), (37, v37), (38, (f 2)), (39, (f 1)), (40, v40), (41, v41), (6, (Value.bool false))]) h
    ) (
      headq P (X.move (f 0)) (fun v42 =>
      headq P (X.move (f 7)) (fun v43 =>
      tf P (X.move (f 0)) (fun v44 =>
      tf P (X.move (f 7)) (fun v45 =>
      tf P (X.bin .sub 3 false true v45 (Value.int .i64 1)) (fun v46 =>
      headq P (X.move (f 0)) (fun v47 =>
      headq P (X.move (f 7)) (fun v48 =>
      headq P (X.bin .sub 3 false true v48 (Value.int .i64 1)) (fun v49 =>
      headq P (X.indexAddr 22 v47 v49) (fun v50 =>
      headq P (X.load 41 v50) (fun v51 =>
      tf P (X.move (f 0)) (fun v52 =>
      tf P (X.move (f 7)) (fun v53 =>
      tf P (X.indexAddr 22 v52 v53) (fun v54 =>
      headq P (X.load 41 v54) (fun v55 =>
      headq P (X.indexAddr 22 v42 v43) (fun v56 =>
      run P (X.store 41 v56 v51) (fun _ h =>
      headq P (X.indexAddr 22 v44 v46) (fun v57 =>
      run P (X.store 41 v57 v55) (fun _ h =>
      run P (X.bin .sub 3 false false (f 7) (f 1)) (fun v60 h =>
      run P (X.bin .geq 3 false true v60 (Value.int .i64 2)) (fun v61 h =>
      br v61 (
        run P (X.bin .sub 3 false true (f 7) (Value.int .i64 1)) (fun v63 h =>
        lp partIns_L7 (inB 4 (thenQ (partIns_c5 Q) (inB 1 (thenQ (partIns_c3 Q) Q)))) (U f [(35, (f 7)), (36, (f 2)), (37, v37), (38, (f 2)), (39, (f 1)), (40, v40), (41, v41), (42, v42), (43, v43), (44, v44), (45, v45), (46, v46), (47, v47), (48, v48), (49, v49), (50, v50), (51, v51), (52, v52), (53, v53), (54, v54), (55, v55), (56, v56), (57, v57), (58, (f 7)), (59, (f 1)), (60, v60), (61, v61), (62, (f 7)), (63, v63), (9, v63)]) h
        ) h
      ) (
        partIns_c5 Q (U f [(35, (f 7)), (36, (f 2)), (37, v37), (38, (f 2)), (39, (f 1)), (40, v40), (41, v41), (42, v42), (43, v43), (44, v44), (45, v45), (46, v46), (47, v47), (48, v48), (49, v49), (50, v50), (51, v51), (52, v52), (53, v53), (54, v54), (55, v55), (56, v56), (57, v57), (58, (f 7)), (59, (f 1)), (60, v60), (61, v61)]) h
      )
      ) h
      ) h
      ) h
      ) h
      ) h
      ) h
      ) h
      )
      )
      )
      ) h
      ) h
      ) h
      ) h
      ) h
      )
      )
      )
      ) h
      ) h
    )
    ) h
    ) h
  )
  ) h

def partIns_L8 (Q : Exit → F → Heap → Prop) (f : F) (h : Heap) : Prop :=
  still P (X.move (f 7)) (fun v17 =>
  still P (X.move (f 2)) (fun v18 =>
  still P (X.bin .lss 3 false false v17 v18) (fun v19 =>
  still P (X.move v19) (fun v20 =>
  whenq (gw v20 true) (still P (X.move (f 0))) (fun v21 =>
  whenq (gw v20 true) (still P (X.move (f 7))) (fun v22 =>
  whenq (gw v20 true) (still P (X.indexAddr 22 v21 v22)) (fun v23 =>
  whenq (gw v20 true) (still P (X.load 41 v23)) (fun v24 =>
  whenq (gw v20 true) (still P (X.move (f 0))) (fun v25 =>
  whenq (gw v20 true) (still P (X.move (f 7))) (fun v26 =>
  whenq (gw v20 true) (still P (X.bin .sub 3 false true v26 (Value.int .i64 1))) (fun v27 =>
  whenq (gw v20 true) (still P (X.indexAddr 22 v25 v27)) (fun v28 =>
  whenq (gw v20 true) (still P (X.load 41 v28)) (fun v29 =>
  whenq (gw v20 true) (still P (X.callF 78 [v24, v29])) (fun v30 =>
  whenq (gw v20 true) (still P (X.un .not v30)) (fun v31 =>
  still P (X.pick v20 v31 (Value.bool false)) (fun v32 =>
  br v32 (
    run P (X.bin .add 3 false true (f 7) (Value.int .i64 1)) (fun v34 h =>
    Q .normal (U f [(17, v17), (18, v18), (19, v19), (20, v20), (21, v21), (22, v22), (23, v23), (24, v24), (25, v25), (26, v26), (27, v27), (28, v28), (29, v29), (30, v30), (31, v31), (32, v32), (33, (f 7)), (34, v34), (7, v34)]) h
    ) h
  ) (
    Q (.exit 2) (U f [(17, v17), (18, v18), (19, v19), (20, v20), (21, v21), (22, v22), (23, v23), (24, v24), (25, v25), (26, v26), (27, v27), (28, v28), (29, v29), (30, v30), (31, v31), (32, v32)]) h
  )
  ) h
  ) h
  ) h
  ) h
  ) h
  ) h
  ) h
  ) h
  ) h
  ) h
  ) h
  ) h
  ) h
  ) h
  ) h
  ) h

def partIns_L2 (Q : Exit → F → Heap → Prop) (f : F) (h : Heap) : Prop :=
  run P (X.bin .lss 3 false true (f 8) (Value.int .i64 5)) (fun v14 h =>
  br v14 (
    lp partIns_L8 (inB 2 (thenQ (partIns_c4 Q) (inB 1 (thenQ (partIns_c3 Q) Q)))) (U f [(13, (f 8)), (14, v14)]) h
  ) (
    Q (.exit 0) (U f [(13, (f 8)), (14, v14)]) h
  )
  ) h

def partIns_c0 (Q : Exit → F → Heap → Prop) (f : F) (h : Heap) : Prop :=
  run P (X.bin .add 3 false true (f 1) (Value.int .i64 1)) (fun v12 h =>
  lp partIns_L2 (inB 0 (thenQ (partIns_c1 Q) Q)) (U f [(6, (Value.bool false)), (11, (f 1)), (12, v12), (7, v12), (8, (Value.int .i64 0))]) h
  ) h
theorem partIns_code : partIns_c0 = hcode P partIns_md (Try.f92.body.getD .skip) := by kernel_rfl
theorem partIns_ok {a0 a1 a2 : Value} {h : Heap} {R : Value → Heap → Prop} (hh : partIns_c0 (post [.tmp 6] R) (frame0 #[a0, a1, a2]) h) : HCalls P 92 #[a0, a1, a2] h R :=
  hcalls_gen (md := partIns_md) follows Try.func92 partIns_code (by kernel_rfl) (by kernel_rfl) (by kernel_rfl) (by kernel_rfl) (by kernel_rfl) hh

/-- slices.partitionEqualOrdered[tenon/api.Ref]: parameters [a0, a1, a2, a3]; results [.tmp 8]; slots [0:data, 1:a, 2:b, 3:pivot, 4:data, 5:a, 6:b, 7:pivot, 8:newpivot, 9:i, 10:j]; draws [1, 3, 5, 8] -/
def partEq_md : Nat → RM := fun i => if i = 1 then RM.sync [(0, 1), (1, 1), (2, 0), (3, 0), (4, 1), (5, 1), (6, 1), (7, 1), (8, 0), (9, 0), (10, 0), (11, 1), (12, 1), (13, 2), (14, 1), (15, 2)] else if i = 8 then RM.sync [(0, 1), (1, 1), (2, 0), (3, 0), (4, 1), (5, 1), (6, 1), (7, 1), (8, 0), (9, 0), (10, 0), (11, 1), (12, 1), (13, 2), (14, 1), (15, 2)] else RM.quiet
def partEq_c1 (Q : Exit → F → Heap → Prop) (f : F) (h : Heap) : Prop :=
  Q .ret (U f [(83, (f 9)), (8, (f 9))]) h

def partEq_c4 (Q : Exit → F → Heap → Prop) (f : F) (h : Heap) : Prop :=
  run P (X.bin .gtr 3 false false (f 9) (f 10)) (fun v64 h =>
  br v64 (
    Q (.exit 0) (U f [(62, (f 9)), (63, (f 10)), (64, v64)]) h
  ) (
    headq P (X.move (f 0)) (fun v65 =>
    headq P (X.move (f 9)) (fun v66 =>
    tf P (X.move (f 0)) (fun v67 =>
    tf P (X.move (f 10)) (fun v68 =>
    headq P (X.move (f 0)) (fun v69 =>
    headq P (X.move (f 10)) (fun v70 =>
    headq P (X.indexAddr 22 v69 v70) (fun v71 =>
    headq P (X.load 41 v71) (fun v72 =>
    tf P (X.move (f 0)) (fun v73 =>
    tf P (X.move (f 9)) (fun v74 =>
    tf P (X.indexAddr 22 v73 v74) (fun v75 =>
    headq P (X.load 41 v75) (fun v76 =>
    headq P (X.indexAddr 22 v65 v66) (fun v77 =>
    run P (X.store 41 v77 v72) (fun _ h =>
    headq P (X.indexAddr 22 v67 v68) (fun v78 =>
    run P (X.store 41 v78 v76) (fun _ h =>
    run P (X.bin .add 3 false true (f 9) (Value.int .i64 1)) (fun v80 h =>
    run P (X.bin .sub 3 false true (f 10) (Value.int .i64 1)) (fun v82 h =>
    Q .normal (U f [(62, (f 9)), (63, (f 10)), (64, v64), (65, v65), (66, v66), (67, v67), (68, v68), (69, v69), (70, v70), (71, v71), (72, v72), (73, v73), (74, v74), (75, v75), (76, v76), (77, v77), (78, v78), (79, (f 9)), (80, v80), (9, v80), (81, (f 10)), (82, v82), (10, v82)]) h
    ) h
    ) h
    ) h
    ) h
    ) h
    ) h
    ) h
    )
    )
    )
    ) h
    ) h
    ) h
    ) h
    )
    )
    ) h
    ) h
  )
  ) h

def partEq_L5 (Q : Exit → F → Heap → Prop) (f : F) (h : Heap) : Prop :=
  still P (X.move (f 9)) (fun v46 =>
  still P (X.move (f 10)) (fun v47 =>
  still P (X.bin .leq 3 false false v46 v47) (fun v48 =>
  still P (X.move v48) (fun v49 =>
  whenq (gw v49 true) (still P (X.move (f 0))) (fun v50 =>
  whenq (gw v49 true) (still P (X.move (f 1))) (fun v51 =>
  whenq (gw v49 true) (still P (X.indexAddr 22 v50 v51)) (fun v52 =>
  whenq (gw v49 true) (still P (X.load 41 v52)) (fun v53 =>
  whenq (gw v49 true) (still P (X.move (f 0))) (fun v54 =>
  whenq (gw v49 true) (still P (X.move (f 10))) (fun v55 =>
  whenq (gw v49 true) (still P (X.indexAddr 22 v54 v55)) (fun v56 =>
  whenq (gw v49 true) (still P (X.load 41 v56)) (fun v57 =>
  whenq (gw v49 true) (still P (X.callF 78 [v53, v57])) (fun v58 =>
  still P (X.pick v49 v58 (Value.bool false)) (fun v59 =>
  br v59 (
    run P (X.bin .sub 3 false true (f 10) (Value.int .i64 1)) (fun v61 h =>
    Q .normal (U f [(46, v46), (47, v47), (48, v48), (49, v49), (50, v50), (51, v51), (52, v52), (53, v53), (54, v54), (55, v55), (56, v56), (57, v57), (58, v58), (59, v59), (60, (f 10)), (61, v61), (10, v61)]) h
    ) h
  ) (
    Q (.exit 4) (U f [(46, v46), (47, v47), (48, v48), (49, v49), (50, v50), (51, v51), (52, v52), (53, v53), (54, v54), (55, v55), (56, v56), (57, v57), (58, v58), (59, v59)]) h
  )
  ) h
  ) h
  ) h
  ) h
  ) h
  ) h
  ) h
  ) h
  ) h
  ) h
  ) h
  ) h
  ) h
  ) h

def partEq_c3 (Q : Exit → F → Heap → Prop) (f : F) (h : Heap) : Prop :=
  lp partEq_L5 (inB 4 (thenQ (partEq_c4 Q) (inB 1 Q))) f h

def partEq_L6 (Q : Exit → F → Heap → Prop) (f : F) (h : Heap) : Prop :=
  still P (X.move (f 9)) (fun v29 =>
  still P (X.move (f 10)) (fun v30 =>
  still P (X.bin .leq 3 false false v29 v30) (fun v31 =>
  still P (X.move v31) (fun v32 =>
  whenq (gw v32 true) (still P (X.move (f 0))) (fun v33 =>
  whenq (gw v32 true) (still P (X.move (f 1))) (fun v34 =>
  whenq (gw v32 true) (still P (X.indexAddr 22 v33 v34)) (fun v35 =>
  whenq (gw v32 true) (still P (X.load 41 v35)) (fun v36 =>
  whenq (gw v32 true) (still P (X.move (f 0))) (fun v37 =>
  whenq (gw v32 true) (still P (X.move (f 9))) (fun v38 =>
  whenq (gw v32 true) (still P (X.indexAddr 22 v37 v38)) (fun v39 =>
  whenq (gw v32 true) (still P (X.load 41 v39)) (fun v40 =>
  whenq (gw v32 true) (still P (X.callF 78 [v36, v40])) (fun v41 =>
  whenq (gw v32 true) (still P (X.un .not v41)) (fun v42 =>
  still P (X.pick v32 v42 (Value.bool false)) (fun v43 =>
  br v43 (
    run P (X.bin .add 3 false true (f 9) (Value.int .i64 1)) (fun v45 h =>
    Q .normal (U f [(29, v29), (30, v30), (31, v31), (32, v32), (33, v33), (34, v34), (35, v35), (36, v36), (37, v37), (38, v38), (39, v39), (40, v40), (41, v41), (42, v42), (43, v43), (44, (f 9)), (45, v45), (9, v45)]) h
    ) h
  ) (
    Q (.exit 2) (U f [(29, v29), (30, v30), (31, v31), (32, v32), (33, v33), (34, v34), (35, v35), (36, v36), (37, v37), (38, v38), (39, v39), (40, v40), (41, v41), (42, v42), (43, v43)]) h
  )
  ) h
  ) h
  ) h
  ) h
  ) h
  ) h
  ) h
  ) h
  ) h
  ) h
  ) h
  ) h
  ) h
  ) h
  ) h

def partEq_L2 (Q : Exit → F → Heap → Prop) (f : F) (h : Heap) : Prop :=
  lp partEq_L6 (inB 2 (thenQ (partEq_c3 Q) (inB 1 Q))) f h

def partEq_c0 (Q : Exit → F → Heap → Prop) (f : F) (h : Heap) : Prop :=
  headq P (X.move (f 0)) (fun v11 =>
  headq P (X.move (f 1)) (fun v12 =>
  tf P (X.move (f 0)) (fun v13 =>
  tf P (X.move (f 3)) (fun v14 =>
  headq P (X.move (f 0)) (fun v15 =>
  headq P (X.move (f 3)) (fun v16 =>
  headq P (X.indexAddr 22 v15 v16) (fun v17 =>
  headq P (X.load 41 v17) (fun v18 =>
  tf P (X.move (f 0)) (fun v19 =>
  tf P (X.move (f 1)) (fun v20 =>
  tf P (X.indexAddr 22 v19 v20) (fun v21 =>
  headq P (X.load 41 v21) (fun v22 =>
  headq P (X.indexAddr 22 v11 v12) (fun v23 =>
  run P (X.store 41 v23 v18) (fun _ h =>
  headq P (X.indexAddr 22 v13 v14) (fun v24 =>
  run P (X.store 41 v24 v22) (fun _ h =>
  run P (X.bin .add 3 false true (f 1) (Value.int .i64 1)) (fun v26 h =>
  run P (X.bin .sub 3 false true (f 2) (Value.int .i64 1)) (fun v28 h =>
  lp partEq_L2 (inB 0 (thenQ (partEq_c1 Q) Q)) (U f [(8, (Value.int .i64 0)), (11, v11), (12, v12), (13, v13), (14, v14), (15, v15), (16, v16), (17, v17), (18, v18), (19, v19), (20, v20), (21, v21), (22, v22), (23, v23), (24, v24), (25, (f 1)), (26, v26), (27, (f 2)), (28, v28), (9, v26), (10, v28)]) h
  ) h
  ) h
  ) h
  ) h
  ) h
  ) h
  ) h
  )
  )
  )
  ) h
  ) h
  ) h
  ) h
  )
  )
  ) h
  ) h
theorem partEq_code : partEq_c0 = hcode P partEq_md (Try.f93.body.getD .skip) := by kernel_rfl
theorem partEq_ok {a0 a1 a2 a3 : Value} {h : Heap} {R : Value → Heap → Prop} (hh : partEq_c0 (post [.tmp 8] R) (frame0 #[a0, a1, a2, a3]) h) : HCalls P 93 #[a0, a1, a2, a3] h R :=
  hcalls_gen (md := partEq_md) follows Try.func93 partEq_code (by kernel_rfl) (by kernel_rfl) (by kernel_rfl) (by kernel_rfl) (by kernel_rfl) hh

/-- slices.partitionOrdered[tenon/api.Ref]: parameters [a0, a1, a2, a3]; results [.tmp 8, .tmp 9]; slots [0:data, 1:a, 2:b, 3:pivot, 4:data, 5:a, 6:b, 7:pivot, 8:newpivot, 9:alreadyPartitioned, 10:i, 11:j]; draws [1, 3, 5, 8, 10, 13, 15, 18, 21] -/
def part_md : Nat → RM := fun i => if i = 1 then RM.sync [(0, 1), (1, 1), (2, 0), (3, 0), (4, 1), (5, 1), (6, 1), (7, 1), (8, 0), (9, 0), (10, 0), (11, 1), (12, 1), (13, 2), (14, 1), (15, 2)] else if i = 8 then RM.sync [(0, 1), (1, 1), (2, 0), (3, 0), (4, 1), (5, 1), (6, 1), (7, 1), (8, 0), (9, 0), (10, 0), (11, 1), (12, 1), (13, 2), (14, 1), (15, 2)] else if i = 10 then RM.sync [(0, 1), (1, 1), (2, 0), (3, 0), (4, 1), (5, 1), (6, 1), (7, 1), (8, 0), (9, 0), (10, 0), (11, 1), (12, 1), (13, 2), (14, 1), (15, 2)] else if i = 18 then RM.sync [(0, 1), (1, 1), (2, 0), (3, 0), (4, 1), (5, 1), (6, 1), (7, 1), (8, 0), (9, 0), (10, 0), (11, 1), (12, 1), (13, 2), (14, 1), (15, 2)] else if i = 21 then RM.sync [(0, 1), (1, 1), (2, 0), (3, 0), (4, 1), (5, 1), (6, 1), (7, 1), (8, 0), (9, 0), (10, 0), (11, 1), (12, 1), (13, 2), (14, 1), (15, 2)] else RM.quiet
def part_c3 (Q : Exit → F → Heap → Prop) (f : F) (h : Heap) : Prop :=
  headq P (X.move (f 0)) (fun v153 =>
  headq P (X.move (f 11)) (fun v154 =>
  tf P (X.move (f 0)) (fun v155 =>
  tf P (X.move (f 1)) (fun v156 =>
  headq P (X.move (f 0)) (fun v157 =>
  headq P (X.move (f 1)) (fun v158 =>
  headq P (X.indexAddr 22 v157 v158) (fun v159 =>
  headq P (X.load 41 v159) (fun v160 =>
  tf P (X.move (f 0)) (fun v161 =>
  tf P (X.move (f 11)) (fun v162 =>
  tf P (X.indexAddr 22 v161 v162) (fun v163 =>
  headq P (X.load 41 v163) (fun v164 =>
  headq P (X.indexAddr 22 v153 v154) (fun v165 =>
  run P (X.store 41 v165 v160) (fun _ h =>
  headq P (X.indexAddr 22 v155 v156) (fun v166 =>
  run P (X.store 41 v166 v164) (fun _ h =>
  Q .ret (U f [(153, v153), (154, v154), (155, v155), (156, v156), (157, v157), (158, v158), (159, v159), (160, v160), (161, v161), (162, v162), (163, v163), (164, v164), (165, v165), (166, v166), (167, (f 11)), (8, (f 11)), (9, (Value.bool false))]) h
  ) h
  ) h
  ) h
  ) h
  ) h
  )
  )
  )
  ) h
  ) h
  ) h
  ) h
  )
  )
  ) h
  ) h

def part_c6 (Q : Exit → F → Heap → Prop) (f : F) (h : Heap) : Prop :=
  run P (X.bin .gtr 3 false false (f 10) (f 11)) (fun v134 h =>
  br v134 (
    Q (.exit 4) (U f [(132, (f 10)), (133, (f 11)), (134, v134)]) h
  ) (
    headq P (X.move (f 0)) (fun v135 =>
    headq P (X.move (f 10)) (fun v136 =>
    tf P (X.move (f 0)) (fun v137 =>
    tf P (X.move (f 11)) (fun v138 =>
    headq P (X.move (f 0)) (fun v139 =>
    headq P (X.move (f 11)) (fun v140 =>
    headq P (X.indexAddr 22 v139 v140) (fun v141 =>
    headq P (X.load 41 v141) (fun v142 =>
    tf P (X.move (f 0)) (fun v143 =>
    tf P (X.move (f 10)) (fun v144 =>
    tf P (X.indexAddr 22 v143 v144) (fun v145 =>
    headq P (X.load 41 v145) (fun v146 =>
    headq P (X.indexAddr 22 v135 v136) (fun v147 =>
    run P (X.store 41 v147 v142) (fun _ h =>
    headq P (X.indexAddr 22 v137 v138) (fun v148 =>
    run P (X.store 41 v148 v146) (fun _ h =>
    run P (X.bin .add 3 false true (f 10) (Value.int .i64 1)) (fun v150 h =>
    run P (X.bin .sub 3 false true (f 11) (Value.int .i64 1)) (fun v152 h =>
    Q .normal (U f [(132, (f 10)), (133, (f 11)), (134, v134), (135, v135), (136, v136), (137, v137), (138, v138), (139, v139), (140, v140), (141, v141), (142, v142), (143, v143), (144, v144), (145, v145), (146, v146), (147, v147), (148, v148), (149, (f 10)), (150, v150), (10, v150), (151, (f 11)), (152, v152), (11, v152)]) h
    ) h
    ) h
    ) h
    ) h
    ) h
    ) h
    ) h
    )
    )
    )
    ) h
    ) h
    ) h
    ) h
    )
    )
    ) h
    ) h
  )
  ) h

def part_L7 (Q : Exit → F → Heap → Prop) (f : F) (h : Heap) : Prop :=
  still P (X.move (f 10)) (fun v115 =>
  still P (X.move (f 11)) (fun v116 =>
  still P (X.bin .leq 3 false false v115 v116) (fun v117 =>
  still P (X.move v117) (fun v118 =>
  whenq (gw v118 true) (still P (X.move (f 0))) (fun v119 =>
  whenq (gw v118 true) (still P (X.move (f 11))) (fun v120 =>
  whenq (gw v118 true) (still P (X.indexAddr 22 v119 v120)) (fun v121 =>
  whenq (gw v118 true) (still P (X.load 41 v121)) (fun v122 =>
  whenq (gw v118 true) (still P (X.move (f 0))) (fun v123 =>
  whenq (gw v118 true) (still P (X.move (f 1))) (fun v124 =>
  whenq (gw v118 true) (still P (X.indexAddr 22 v123 v124)) (fun v125 =>
  whenq (gw v118 true) (still P (X.load 41 v125)) (fun v126 =>
  whenq (gw v118 true) (still P (X.callF 78 [v122, v126])) (fun v127 =>
  whenq (gw v118 true) (still P (X.un .not v127)) (fun v128 =>
  still P (X.pick v118 v128 (Value.bool false)) (fun v129 =>
  br v129 (
    run P (X.bin .sub 3 false true (f 11) (Value.int .i64 1)) (fun v131 h =>
    Q .normal (U f [(115, v115), (116, v116), (117, v117), (118, v118), (119, v119), (120, v120), (121, v121), (122, v122), (123, v123), (124, v124), (125, v125), (126, v126), (127, v127), (128, v128), (129, v129), (130, (f 11)), (131, v131), (11, v131)]) h
    ) h
  ) (
    Q (.exit 8) (U f [(115, v115), (116, v116), (117, v117), (118, v118), (119, v119), (120, v120), (121, v121), (122, v122), (123, v123), (124, v124), (125, v125), (126, v126), (127, v127), (128, v128), (129, v129)]) h
  )
  ) h
  ) h
  ) h
  ) h
  ) h
  ) h
  ) h
  ) h
  ) h
  ) h
  ) h
  ) h
  ) h
  ) h
  ) h

def part_c5 (Q : Exit → F → Heap → Prop) (f : F) (h : Heap) : Prop :=
  lp part_L7 (inB 8 (thenQ (part_c6 Q) (inB 5 Q))) f h

def part_L8 (Q : Exit → F → Heap → Prop) (f : F) (h : Heap) : Prop :=
  still P (X.move (f 10)) (fun v99 =>
  still P (X.move (f 11)) (fun v100 =>
  still P (X.bin .leq 3 false false v99 v100) (fun v101 =>
  still P (X.move v101) (fun v102 =>
  whenq (gw v102 true) (still P (X.move (f 0))) (fun v103 =>
  whenq (gw v102 true) (still P (X.move (f 10))) (fun v104 =>
  whenq (gw v102 true) (still P (X.indexAddr 22 v103 v104)) (fun v105 =>
  whenq (gw v102 true) (still P (X.load 41 v105)) (fun v106 =>
  whenq (gw v102 true) (still P (X.move (f 0))) (fun v107 =>
  whenq (gw v102 true) (still P (X.move (f 1))) (fun v108 =>
  whenq (gw v102 true) (still P (X.indexAddr 22 v107 v108)) (fun v109 =>
  whenq (gw v102 true) (still P (X.load 41 v109)) (fun v110 =>
  whenq (gw v102 true) (still P (X.callF 78 [v106, v110])) (fun v111 =>
  still P (X.pick v102 v111 (Value.bool false)) (fun v112 =>
  br v112 (
    run P (X.bin .add 3 false true (f 10) (Value.int .i64 1)) (fun v114 h =>
    Q .normal (U f [(99, v99), (100, v100), (101, v101), (102, v102), (103, v103), (104, v104), (105, v105), (106, v106), (107, v107), (108, v108), (109, v109), (110, v110), (111, v111), (112, v112), (113, (f 10)), (114, v114), (10, v114)]) h
    ) h
  ) (
    Q (.exit 6) (U f [(99, v99), (100, v100), (101, v101), (102, v102), (103, v103), (104, v104), (105, v105), (106, v106), (107, v107), (108, v108), (109, v109), (110, v110), (111, v111), (112, v112)]) h
  )
  ) h
  ) h
  ) h
  ) h
  ) h
  ) h
  ) h
  ) h
  ) h
  ) h
  ) h
  ) h
  ) h
  ) h

def part_L4 (Q : Exit → F → Heap → Prop) (f : F) (h : Heap) : Prop :=
  lp part_L8 (inB 6 (thenQ (part_c5 Q) (inB 5 Q))) f h

def part_c2 (Q : Exit → F → Heap → Prop) (f : F) (h : Heap) : Prop :=
  run P (X.bin .gtr 3 false false (f 10) (f 11)) (fun v65 h =>
  br v65 (
    headq P (X.move (f 0)) (fun v66 =>
    headq P (X.move (f 11)) (fun v67 =>
    tf P (X.move (f 0)) (fun v68 =>
    tf P (X.move (f 1)) (fun v69 =>
    headq P (X.move (f 0)) (fun v70 =>
    headq P (X.move (f 1)) (fun v71 =>
    headq P (X.indexAddr 22 v70 v71) (fun v72 =>
    headq P (X.load 41 v72) (fun v73 =>
    tf P (X.move (f 0)) (fun v74 =>
    tf P (X.move (f 11)) (fun v75 =>
    tf P (X.indexAddr 22 v74 v75) (fun v76 =>
    headq P (X.load 41 v76) (fun v77 =>
    headq P (X.indexAddr 22 v66 v67) (fun v78 =>
    run P (X.store 41 v78 v73) (fun _ h =>
    headq P (X.indexAddr 22 v68 v69) (fun v79 =>
    run P (X.store 41 v79 v77) (fun _ h =>
    Q .ret (U f [(63, (f 10)), (64, (f 11)), (65, v65), (66, v66), (67, v67), (68, v68), (69, v69), (70, v70), (71, v71), (72, v72), (73, v73), (74, v74), (75, v75), (76, v76), (77, v77), (78, v78), (79, v79), (80, (f 11)), (8, (f 11)), (9, (Value.bool true))]) h
    ) h
    ) h
    ) h
    ) h
    ) h
    )
    )
    )
    ) h
    ) h
    ) h
    ) h
    )
    )
    ) h
    ) h
  ) (
    headq P (X.move (f 0)) (fun v81 =>
    headq P (X.move (f 10)) (fun v82 =>
    tf P (X.move (f 0)) (fun v83 =>
    tf P (X.move (f 11)) (fun v84 =>
    headq P (X.move (f 0)) (fun v85 =>
    headq P (X.move (f 11)) (fun v86 =>
    headq P (X.indexAddr 22 v85 v86) (fun v87 =>
    headq P (X.load 41 v87) (fun v88 =>
    tf P (X.move (f 0)) (fun v89 =>
    tf P (X.move (f 10)) (fun v90 =>
    tf P (X.indexAddr 22 v89 v90) (fun v91 =>
    headq P (X.load 41 v91) (fun v92 =>
    headq P (X.indexAddr 22 v81 v82) (fun v93 =>
    run P (X.store 41 v93 v88) (fun _ h =>
    headq P (X.indexAddr 22 v83 v84) (fun v94 =>
    run P (X.store 41 v94 v92) (fun _ h =>
    run P (X.bin .add 3 false true (f 10) (Value.int .i64 1)) (fun v96 h =>
    run P (X.bin .sub 3 false true (f 11) (Value.int .i64 1)) (fun v98 h =>
    lp part_L4 (inB 4 (thenQ (part_c3 Q) Q)) (U f [(63, (f 10)), (64, (f 11)), (65, v65), (81, v81), (82, v82), (83, v83), (84, v84), (85, v85), (86, v86), (87, v87), (88, v88), (89, v89), (90, v90), (91, v91), (92, v92), (93, v93), (94, v94), (95, (f 10)), (96, v96), (10, v96), (97, (f 11)), (98, v98), (11, v98)]) h
    ) h
    ) h
    ) h
    ) h
    ) h
    ) h
    ) h
    )
    )
    )
    ) h
    ) h
    ) h
    ) h
    )
    )
    ) h
    ) h
  )
  ) h

def part_L9 (Q : Exit → F → Heap → Prop) (f : F) (h : Heap) : Prop :=
  still P (X.move (f 10)) (fun v46 =>
  still P (X.move (f 11)) (fun v47 =>
  still P (X.bin .leq 3 false false v46 v47) (fun v48 =>
  still P (X.move v48) (fun v49 =>
  whenq (gw v49 true) (still P (X.move (f 0))) (fun v50 =>
  whenq (gw v49 true) (still P (X.move (f 11))) (fun v51 =>
  whenq (gw v49 true) (still P (X.indexAddr 22 v50 v51)) (fun v52 =>
  whenq (gw v49 true) (still P (X.load 41 v52)) (fun v53 =>
  whenq (gw v49 true) (still P (X.move (f 0))) (fun v54 =>
  whenq (gw v49 true) (still P (X.move (f 1))) (fun v55 =>
  whenq (gw v49 true) (still P (X.indexAddr 22 v54 v55)) (fun v56 =>
  whenq (gw v49 true) (still P (X.load 41 v56)) (fun v57 =>
  whenq (gw v49 true) (still P (X.callF 78 [v53, v57])) (fun v58 =>
  whenq (gw v49 true) (still P (X.un .not v58)) (fun v59 =>
  still P (X.pick v49 v59 (Value.bool false)) (fun v60 =>
  br v60 (
    run P (X.bin .sub 3 false true (f 11) (Value.int .i64 1)) (fun v62 h =>
    Q .normal (U f [(46, v46), (47, v47), (48, v48), (49, v49), (50, v50), (51, v51), (52, v52), (53, v53), (54, v54), (55, v55), (56, v56), (57, v57), (58, v58), (59, v59), (60, v60), (61, (f 11)), (62, v62), (11, v62)]) h
    ) h
  ) (
    Q (.exit 2) (U f [(46, v46), (47, v47), (48, v48), (49, v49), (50, v50), (51, v51), (52, v52), (53, v53), (54, v54), (55, v55), (56, v56), (57, v57), (58, v58), (59, v59), (60, v60)]) h
  )
  ) h
  ) h
  ) h
  ) h
  ) h
  ) h
  ) h
  ) h
  ) h
  ) h
  ) h
  ) h
  ) h
  ) h
  ) h

def part_c1 (Q : Exit → F → Heap → Prop) (f : F) (h : Heap) : Prop :=
  lp part_L9 (inB 2 (thenQ (part_c2 Q) Q)) f h

def part_L10 (Q : Exit → F → Heap → Prop) (f : F) (h : Heap) : Prop :=
  still P (X.move (f 10)) (fun v30 =>
  still P (X.move (f 11)) (fun v31 =>
  still P (X.bin .leq 3 false false v30 v31) (fun v32 =>
  still P (X.move v32) (fun v33 =>
  whenq (gw v33 true) (still P (X.move (f 0))) (fun v34 =>
  whenq (gw v33 true) (still P (X.move (f 10))) (fun v35 =>
  whenq (gw v33 true) (still P (X.indexAddr 22 v34 v35)) (fun v36 =>
  whenq (gw v33 true) (still P (X.load 41 v36)) (fun v37 =>
  whenq (gw v33 true) (still P (X.move (f 0))) (fun v38 =>
  whenq (gw v33 true) (still P (X.move (f 1))) (fun v39 =>
  whenq (gw v33 true) (still P (X.indexAddr 22 v38 v39)) (fun v40 =>
  whenq (gw v33 true) (still P (X.load 41 v40)) (fun v41 =>
  whenq (gw v33 true) (still P (X.callF 78 [v37, v41])) (fun v42 =>
  still P (X.pick v33 v42 (Value.bool false)) (fun v43 =>
  br v43 (
    run P (X.bin .add 3 false true (f 10) (Value.int .i64 1)) (fun v45 h =>
    Q .normal (U f [(30, v30), (31, v31), (32, v32), (33, v33), (34, v34), (35, v35), (36, v36), (37, v37), (38, v38), (39, v39), (40, v40), (41, v41), (42, v42), (43, v43), (44, (f 10)), (45, v45), (10, v45)]) h
    ) h
  ) (
    Q (.exit 0) (U f [(30, v30), (31, v31), (32, v32), (33, v33), (34, v34), (35, v35), (36, v36), (37, v37), (38, v38), (39, v39), (40, v40), (41, v41), (42, v42), (43, v43)]) h
  )
  ) h
  ) h
  ) h
  ) h
  ) h
  ) h
  ) h
  ) h
  ) h
  ) h
  ) h
  ) h
  ) h
  ) h

def part_c0 (Q : Exit → F → Heap → Prop) (f : F) (h : Heap) : Prop :=
  headq P (X.move (f 0)) (fun v12 =>
  headq P (X.move (f 1)) (fun v13 =>
  tf P (X.move (f 0)) (fun v14 =>
  tf P (X.move (f 3)) (fun v15 =>
  headq P (X.move (f 0)) (fun v16 =>
  headq P (X.move (f 3)) (fun v17 =>
  headq P (X.indexAddr 22 v16 v17) (fun v18 =>
  headq P (X.load 41 v18) (fun v19 =>
  tf P (X.move (f 0)) (fun v20 =>
  tf P (X.move (f 1)) (fun v21 =>
  tf P (X.indexAddr 22 v20 v21) (fun v22 =>
  headq P (X.load 41 v22) (fun v23 =>
  headq P (X.indexAddr 22 v12 v13) (fun v24 =>
  run P (X.store 41 v24 v19) (fun _ h =>
  headq P (X.indexAddr 22 v14 v15) (fun v25 =>
  run P (X.store 41 v25 v23) (fun _ h =>
  run P (X.bin .add 3 false true (f 1) (Value.int .i64 1)) (fun v27 h =>
  run P (X.bin .sub 3 false true (f 2) (Value.int .i64 1)) (fun v29 h =>
  lp part_L10 (inB 0 (thenQ (part_c1 Q) Q)) (U f [(8, (Value.int .i64 0)), (9, (Value.bool false)), (12, v12), (13, v13), (14, v14), (15, v15), (16, v16), (17, v17), (18, v18), (19, v19), (20, v20), (21, v21), (22, v22), (23, v23), (24, v24), (25, v25), (26, (f 1)), (27, v27), (28, (f 2)), (29, v29), (10, v27), (11, v29)]) h
  ) h
  ) h
  ) h
  ) h
  ) h
  ) h
  ) h
  )
  )
  )
  ) h
  ) h
  ) h
  ) h
  )
  )
  ) h
  ) h
theorem part_code : part_c0 = hcode P part_md (Try.f94.body.getD .skip) := by kernel_rfl
theorem part_ok {a0 a1 a2 a3 : Value} {h : Heap} {R : Value → Heap → Prop} (hh : part_c0 (post [.tmp 8, .tmp 9] R) (frame0 #[a0, a1, a2, a3]) h) : HCalls P 94 #[a0, a1, a2, a3] h R :=
  hcalls_gen (md := part_md) follows Try.func94 part_code (by kernel_rfl) (by kernel_rfl) (by kernel_rfl) (by kernel_rfl) (by kernel_rfl) hh

/-- math/bits.Len32: parameters [a0]; results [.tmp 2]; slots [0:x, 1:x, 2:n]; draws [] -/
def len32_md : Nat → RM := fun _ => RM.quiet
def len32_c2 (Q : Exit → F → Heap → Prop) (f : F) (h : Heap) : Prop :=
  run P (X.conv 126 5 (f 0)) (fun v15 h =>
  run P (X.index 9 (Value.string ⟨#[0, 1, 2, 2, 3, 3, 3, 3, 4, 4, 4, 4, 4, 4, 4, 4, 5, 5, 5, 5, 5, 5, 5, 5, 5, 5, 5, 5, 5, 5, 5, 5, 6, 6, 6, 6, 6, 6, 6, 6, 6, 6, 6, 6, 6, 6, 6, 6, 6, 6, 6, 6, 6, 6, 6, 6, 6, 6, 6, 6, 6, 6, 6, 6, 7, 7, 7, 7, 7, 7, 7, 7, 7, 7, 7, 7, 7, 7, 7, 7, 7, 7, 7, 7, 7, 7, 7, 7, 7, 7, 7, 7, 7, 7, 7, 7, 7, 7, 7, 7, 7, 7, 7, 7, 7, 7, 7, 7, 7, 7, 7, 7, 7, 7, 7, 7, 7, 7, 7, 7, 7, 7, 7, 7, 7, 7, 7, 7, 8, 8, 8, 8, 8, 8, 8, 8, 8, 8, 8, 8, 8, 8, 8, 8, 8, 8, 8, 8, 8, 8, 8, 8, 8, 8, 8, 8, 8, 8, 8, 8, 8, 8, 8, 8, 8, 8, 8, 8, 8, 8, 8, 8, 8, 8, 8, 8, 8, 8, 8, 8, 8, 8, 8, 8, 8, 8, 8, 8, 8, 8, 8, 8, 8, 8, 8, 8, 8, 8, 8, 8, 8, 8, 8, 8, 8, 8, 8, 8, 8, 8, 8, 8, 8, 8, 8, 8, 8, 8, 8, 8, 8, 8, 8, 8, 8, 8, 8, 8, 8, 8, 8, 8, 8, 8, 8, 8, 8, 8, 8, 8, 8, 8, 8, 8, 8, 8, 8, 8, 8, 8, 8, 8, 8, 8, 8, 8]⟩) v15) (fun v16 h =>
  run P (X.conv 5 3 v16) (fun v17 h =>
  run P (X.bin .add 3 false false (f 2) v17) (fun v18 h =>
  Q .ret (U f [(13, (f 2)), (14, (f 0)), (15, v15), (16, v16), (17, v17), (18, v18), (2, v18)]) h
  ) h
  ) h
  ) h
  ) h

def len32_c1 (Q : Exit → F → Heap → Prop) (f : F) (h : Heap) : Prop :=
  run P (X.bin .geq 126 false true (f 0) (Value.int .u32 256)) (fun v8 h =>
  br v8 (
    run P (X.bin .shr 126 false true (f 0) (Value.int .u64 8)) (fun v10 h =>
    run P (X.bin .add 3 false true (f 2) (Value.int .i64 8)) (fun v12 h =>
    len32_c2 Q (U f [(7, (f 0)), (8, v8), (9, (f 0)), (10, v10), (0, v10), (11, (f 2)), (12, v12), (2, v12)]) h
    ) h
    ) h
  ) (
    len32_c2 Q (U f [(7, (f 0)), (8, v8)]) h
  )
  ) h

def len32_c0 (Q : Exit → F → Heap → Prop) (f : F) (h : Heap) : Prop :=
  run P (X.bin .geq 126 false true (f 0) (Value.int .u32 65536)) (fun v4 h =>
  br v4 (
    run P (X.bin .shr 126 false true (f 0) (Value.int .u64 16)) (fun v6 h =>
    len32_c1 Q (U f [(2, (Value.int .i64 0)), (3, (f 0)), (4, v4), (5, (f 0)), (6, v6), (0, v6), (2, (Value.int .i64 16))]) h
    ) h
  ) (
    len32_c1 Q (U f [(2, (Value.int .i64 0)), (3, (f 0)), (4, v4)]) h
  )
  ) h
theorem len32_code : len32_c0 = hcode P len32_md (Try.f95.body.getD .skip) := by kernel_rfl
theorem len32_ok {a0 : Value} {h : Heap} {R : Value → Heap → Prop} (hh : len32_c0 (post [.tmp 2] R) (frame0 #[a0]) h) : HCalls P 95 #[a0] h R :=
  hcalls_gen (md := len32_md) follows Try.func95 len32_code (by kernel_rfl) (by kernel_rfl) (by kernel_rfl) (by kernel_rfl) (by kernel_rfl) hh

/-- math/bits.Len64: parameters [a0]; results [.tmp 2]; slots [0:x, 1:x, 2:n]; draws [] -/
def len64_md : Nat → RM := fun _ => RM.quiet
def len64_c3 (Q : Exit → F → Heap → Prop) (f : F) (h : Heap) : Prop :=
  run P (X.conv 40 5 (f 0)) (fun v21 h =>
  run P (X.index 9 (Value.string ⟨#[0, 1, 2, 2, 3, 3, 3, 3, 4, 4, 4, 4, 4, 4, 4, 4, 5, 5, 5, 5, 5, 5, 5, 5, 5, 5, 5, 5, 5, 5, 5, 5, 6, 6, 6, 6, 6, 6, 6, 6, 6, 6, 6, 6, 6, 6, 6, 6, 6, 6, 6, 6, 6, 6, 6, 6, 6, 6, 6, 6, 6, 6, 6, 6, 7, 7, 7, 7, 7, 7, 7, 7, 7, 7, 7, 7, 7, 7, 7, 7, 7, 7, 7, 7, 7, 7, 7, 7, 7, 7, 7, 7, 7, 7, 7, 7, 7, 7, 7, 7, 7, 7, 7, 7, 7, 7, 7, 7, 7, 7, 7, 7, 7, 7, 7, 7, 7, 7, 7, 7, 7, 7, 7, 7, 7, 7, 7, 7, 8, 8, 8, 8, 8, 8, 8, 8, 8, 8, 8, 8, 8, 8, 8, 8, 8, 8, 8, 8, 8, 8, 8, 8, 8, 8, 8, 8, 8, 8, 8, 8, 8, 8, 8, 8, 8, 8, 8, 8, 8, 8, 8, 8, 8, 8, 8, 8, 8, 8, 8, 8, 8, 8, 8, 8, 8, 8, 8, 8, 8, 8, 8, 8, 8, 8, 8, 8, 8, 8, 8, 8, 8, 8, 8, 8, 8, 8, 8, 8, 8, 8, 8, 8, 8, 8, 8, 8, 8, 8, 8, 8, 8, 8, 8, 8, 8, 8, 8, 8, 8, 8, 8, 8, 8, 8, 8, 8, 8, 8, 8, 8, 8, 8, 8, 8, 8, 8, 8, 8, 8, 8, 8, 8, 8, 8, 8, 8]⟩) v21) (fun v22 h =>
  run P (X.conv 5 3 v22) (fun v23 h =>
  run P (X.bin .add 3 false false (f 2) v23) (fun v24 h =>
  Q .ret (U f [(19, (f 2)), (20, (f 0)), (21, v21), (22, v22), (23, v23), (24, v24), (2, v24)]) h
  ) h
  ) h
  ) h
  ) h

def len64_c2 (Q : Exit → F → Heap → Prop) (f : F) (h : Heap) : Prop :=
  run P (X.bin .geq 40 false true (f 0) (Value.int .u64 256)) (fun v14 h =>
  br v14 (
    run P (X.bin .shr 40 false true (f 0) (Value.int .u64 8)) (fun v16 h =>
    run P (X.bin .add 3 false true (f 2) (Value.int .i64 8)) (fun v18 h =>
    len64_c3 Q (U f [(13, (f 0)), (14, v14), (15, (f 0)), (16, v16), (0, v16), (17, (f 2)), (18, v18), (2, v18)]) h
    ) h
    ) h
  ) (
    len64_c3 Q (U f [(13, (f 0)), (14, v14)]) h
  )
  ) h

def len64_c1 (Q : Exit → F → Heap → Prop) (f : F) (h : Heap) : Prop :=
  run P (X.bin .geq 40 false true (f 0) (Value.int .u64 65536)) (fun v8 h =>
  br v8 (
    run P (X.bin .shr 40 false true (f 0) (Value.int .u64 16)) (fun v10 h =>
    run P (X.bin .add 3 false true (f 2) (Value.int .i64 16)) (fun v12 h =>
    len64_c2 Q (U f [(7, (f 0)), (8, v8), (9, (f 0)), (10, v10), (0, v10), (11, (f 2)), (12, v12), (2, v12)]) h
    ) h
    ) h
  ) (
    len64_c2 Q (U f [(7, (f 0)), (8, v8)]) h
  )
  ) h

def len64_c0 (Q : Exit → F → Heap → Prop) (f : F) (h : Heap) : Prop :=
  run P (X.bin .geq 40 false true (f 0) (Value.int .u64 4294967296)) (fun v4 h =>
  br v4 (
    run P (X.bin .shr 40 false true (f 0) (Value.int .u64 32)) (fun v6 h =>
    len64_c1 Q (U f [(2, (Value.int .i64 0)), (3, (f 0)), (4, v4), (5, (f 0)), (6, v6), (0, v6), (2, (Value.int .i64 32))]) h
    ) h
  ) (
    len64_c1 Q (U f [(2, (Value.int .i64 0)), (3, (f 0)), (4, v4)]) h
  )
  ) h
theorem len64_code : len64_c0 = hcode P len64_md (Try.f96.body.getD .skip) := by kernel_rfl
theorem len64_ok {a0 : Value} {h : Heap} {R : Value → Heap → Prop} (hh : len64_c0 (post [.tmp 2] R) (frame0 #[a0]) h) : HCalls P 96 #[a0] h R :=
  hcalls_gen (md := len64_md) follows Try.func96 len64_code (by kernel_rfl) (by kernel_rfl) (by kernel_rfl) (by kernel_rfl) (by kernel_rfl) hh

/-- slices.siftDownOrdered[tenon/api.Ref]: parameters [a0, a1, a2, a3]; results []; slots [0:data, 1:lo, 2:hi, 3:first, 4:data, 5:lo, 6:hi, 7:first, 8:root, 9:child]; draws [3, 5, 6] -/
def siftDown_md : Nat → RM := fun i => if i = 6 then RM.sync [(0, 1), (1, 1), (2, 1), (3, 1), (4, 0), (5, 0), (6, 0), (7, 0), (8, 1), (9, 1), (10, 1), (11, 1), (12, 1), (13, 1), (14, 0), (15, 0), (16, 0), (17, 0), (18, 0), (19, 1), (20, 1), (21, 2), (22, 1), (23, 2)] else RM.quiet
def siftDown_c2 (Q : Exit → F → Heap → Prop) (f : F) (h : Heap) : Prop :=
  still P (X.move (f 0)) (fun v39 =>
  still P (X.move (f 3)) (fun v40 =>
  still P (X.move (f 8)) (fun v41 =>
  still P (X.bin .add 3 false false v40 v41) (fun v42 =>
  still P (X.indexAddr 22 v39 v42) (fun v43 =>
  still P (X.load 41 v43) (fun v44 =>
  still P (X.move (f 0)) (fun v45 =>
  still P (X.move (f 3)) (fun v46 =>
  still P (X.move (f 9)) (fun v47 =>
  still P (X.bin .add 3 false false v46 v47) (fun v48 =>
  still P (X.indexAddr 22 v45 v48) (fun v49 =>
  still P (X.load 41 v49) (fun v50 =>
  still P (X.callF 78 [v44, v50]) (fun v51 =>
  still P (X.un .not v51) (fun v52 =>
  br v52 (
    Q .ret (U f [(39, v39), (40, v40), (41, v41), (42, v42), (43, v43), (44, v44), (45, v45), (46, v46), (47, v47), (48, v48), (49, v49), (50, v50), (51, v51), (52, v52)]) h
  ) (
    headq P (X.move (f 0)) (fun v53 =>
    headq P (X.move (f 3)) (fun v54 =>
    headq P (X.move (f 8)) (fun v55 =>
    headq P (X.bin .add 3 false false v54 v55) (fun v56 =>
    tf P (X.move (f 0)) (fun v57 =>
    tf P (X.move (f 3)) (fun v58 =>
    tf P (X.move (f 9)) (fun v59 =>
    tf P (X.bin .add 3 false false v58 v59) (fun v60 =>
    headq P (X.move (f 0)) (fun v61 =>
    headq P (X.move (f 3)) (fun v62 =>
    headq P (X.move (f 9)) (fun v63 =>
    headq P (X.bin .add 3 false false v62 v63) (fun v64 =>
    headq P (X.indexAddr 22 v61 v64) (fun v65 =>
    headq P (X.load 41 v65) (fun v66 =>
    tf P (X.move (f 0)) (fun v67 =>
    tf P (X.move (f 3)) (fun v68 =>
    tf P (X.move (f 8)) (fun v69 =>
    tf P (X.bin .add 3 false false v68 v69) (fun v70 =>
    tf P (X.indexAddr 22 v67 v70) (fun v71 =>
    headq P (X.load 41 v71) (fun v72 =>
    headq P (X.indexAddr 22 v53 v56) (fun v73 =>
    run P (X.store 41 v73 v66) (fun _ h =>
    headq P (X.indexAddr 22 v57 v60) (fun v74 =>
    run P (X.store 41 v74 v72) (fun _ h =>
    Q .normal (U f [(39, v39), (40, v40), (41, v41), (42, v42), (43, v43), (44, v44), (45, v45), (46, v46), (47, v47), (48, v48), (49, v49), (50, v50), (51, v51), (52, v52), (53, v53), (54, v54), (55, v55), (56, v56), (57, v57), (58, v58), (59, v59), (60, v60), (61, v61), (62, v62), (63, v63), (64, v64), (65, v65), (66, v66), (67, v67), (68, v68), (69, v69), (70, v70), (71, v71), (72, v72), (73, v73), (74, v74), (75, (f 9)), (8, (f 9))]) h
    ) h
    ) h
    ) h
    ) h
    ) h
    )
    )
    )
    )
    )
    ) h
    ) h
    ) h
    ) h
    ) h
    ) h
    )
    )
    )
    )
    ) h
    ) h
    ) h
    ) h
  )
  ) h
  ) h
  ) h
  ) h
  ) h
  ) h
  ) h
  ) h
  ) h
  ) h
  ) h
  ) h
  ) h
  ) h

def siftDown_L1 (Q : Exit → F → Heap → Prop) (f : F) (h : Heap) : Prop :=
  run P (X.bin .mul 3 true false (Value.int .i64 2) (f 8)) (fun v12 h =>
  run P (X.bin .add 3 false true v12 (Value.int .i64 1)) (fun v13 h =>
  run P (X.bin .geq 3 false false v13 (f 2)) (fun v16 h =>
  br v16 (
    Q (.exit 0) (U f [(11, (f 8)), (12, v12), (13, v13), (9, v13), (14, v13), (15, (f 2)), (16, v16)]) h
  ) (
    still P (X.move v13) (fun v17 =>
    still P (X.bin .add 3 false true v17 (Value.int .i64 1)) (fun v18 =>
    still P (X.move (f 2)) (fun v19 =>
    still P (X.bin .lss 3 false false v18 v19) (fun v20 =>
    still P (X.move v20) (fun v21 =>
    whenq (gw v21 true) (still P (X.move (f 0))) (fun v22 =>
    whenq (gw v21 true) (still P (X.move (f 3))) (fun v23 =>
    whenq (gw v21 true) (still P (X.move v13)) (fun v24 =>
    whenq (gw v21 true) (still P (X.bin .add 3 false false v23 v24)) (fun v25 =>
    whenq (gw v21 true) (still P (X.indexAddr 22 v22 v25)) (fun v26 =>
    whenq (gw v21 true) (still P (X.load 41 v26)) (fun v27 =>
    whenq (gw v21 true) (still P (X.move (f 0))) (fun v28 =>
    whenq (gw v21 true) (still P (X.move (f 3))) (fun v29 =>
    whenq (gw v21 true) (still P (X.move v13)) (fun v30 =>
    whenq (gw v21 true) (still P (X.bin .add 3 false false v29 v30)) (fun v31 =>
    whenq (gw v21 true) (still P (X.bin .add 3 false true v31 (Value.int .i64 1))) (fun v32 =>
    whenq (gw v21 true) (still P (X.indexAddr 22 v28 v32)) (fun v33 =>
    whenq (gw v21 true) (still P (X.load 41 v33)) (fun v34 =>
    whenq (gw v21 true) (still P (X.callF 78 [v27, v34])) (fun v35 =>
    still P (X.pick v21 v35 (Value.bool false)) (fun v36 =>
    br v36 (
      run P (X.bin .add 3 false true v13 (Value.int .i64 1)) (fun v38 h =>
      siftDown_c2 Q (U f [(11, (f 8)), (12, v12), (13, v13), (9, v13), (14, v13), (15, (f 2)), (16, v16), (17, v17), (18, v18), (19, v19), (20, v20), (21, v21), (22, v22), (23, v23), (24, v24), (25, v25), (26, v26), (27, v27), (28, v28), (29, v29), (30, v30), (31, v31), (32, v32), (33, v33), (34, v34), (35, v35), (36, v36), (37, v13), (38, v38), (9, v38)]) h
      ) h
    ) (
      siftDown_c2 Q (U f [(11, (f 8)), (12, v12), (13, v13), (9, v13), (14, v13), (15, (f 2)), (16, v16), (17, v17), (18, v18), (19, v19), (20, v20), (21, v21), (22, v22), (23, v23), (24, v24), (25, v25), (26, v26), (27, v27), (28, v28), (29, v29), (30, v30), (31, v31), (32, v32), (33, v33), (34, v34), (35, v35), (36, v36)]) h
    )
    ) h
    ) h
    ) h
    ) h
    ) h
    ) h
    ) h
    ) h
    ) h
    ) h
    ) h
    ) h
    ) h
    ) h
    ) h
    ) h
    ) h
    ) h
    ) h
    ) h
  )
  ) h
  ) h
  ) h

def siftDown_c0 (Q : Exit → F → Heap → Prop) (f : F) (h : Heap) : Prop :=
  lp siftDown_L1 (inB 0 Q) (U f [(10, (f 1)), (8, (f 1))]) h
theorem siftDown_code : siftDown_c0 = hcode P siftDown_md (Try.f107.body.getD .skip) := by kernel_rfl
theorem siftDown_ok {a0 a1 a2 a3 : Value} {h : Heap} {R : Value → Heap → Prop} (hh : siftDown_c0 (post [] R) (frame0 #[a0, a1, a2, a3]) h) : HCalls P 107 #[a0, a1, a2, a3] h R :=
  hcalls_gen (md := siftDown_md) follows Try.func107 siftDown_code (by kernel_rfl) (by kernel_rfl) (by kernel_rfl) (by kernel_rfl) (by kernel_rfl) hh

/-- slices.nextPowerOfTwo: parameters [a0]; results [.tmp 2]; slots [0:length, 1:length]; draws [] -/
def nextPow_md : Nat → RM := fun _ => RM.quiet
def nextPow_c0 (Q : Exit → F → Heap → Prop) (f : F) (h : Heap) : Prop :=
  run P (X.conv 3 112 (f 0)) (fun v4 h =>
  run P (X.callF 75 [v4]) (fun v5 h =>
  run P (X.bin .shl 112 true false (Value.int .u64 1) v5) (fun v6 h =>
  Q .ret (U f [(2, (Value.int .u64 0)), (3, (f 0)), (4, v4), (5, v5), (6, v6), (2, v6)]) h
  ) h
  ) h
  ) h
theorem nextPow_code : nextPow_c0 = hcode P nextPow_md (Try.f108.body.getD .skip) := by kernel_rfl
theorem nextPow_ok {a0 : Value} {h : Heap} {R : Value → Heap → Prop} (hh : nextPow_c0 (post [.tmp 2] R) (frame0 #[a0]) h) : HCalls P 108 #[a0] h R :=
  hcalls_gen (md := nextPow_md) follows Try.func108 nextPow_code (by kernel_rfl) (by kernel_rfl) (by kernel_rfl) (by kernel_rfl) (by kernel_rfl) hh

/-- (*slices.xorshift).Next: parameters [a0]; results [.tmp 2]; slots [0:r, 1:r]; draws [1, 2, 3] -/
def xorNext_md : Nat → RM := fun i => if i = 1 then RM.tail 9 else if i = 2 then RM.tail 9 else if i = 3 then RM.tail 9 else RM.quiet
def xorNext_c0 (Q : Exit → F → Heap → Prop) (f : F) (h : Heap) : Prop :=
  headq P (X.move (f 0)) (fun v3 =>
  headq P (X.nilCheck v3) (fun v4 =>
  headq P (X.load 134 v4) (fun v5 =>
  headq P (X.move (f 0)) (fun v6 =>
  headq P (X.nilCheck v6) (fun v7 =>
  headq P (X.load 134 v7) (fun v8 =>
  headq P (X.bin .shl 134 false true v8 (Value.int .u64 13)) (fun v9 =>
  headq P (X.bin .xor 134 false false v5 v9) (fun v10 =>
  headq P (X.nilCheck v3) (fun v11 =>
  run P (X.store 134 v11 v10) (fun _ h =>
  headq P (X.move (f 0)) (fun v12 =>
  headq P (X.nilCheck v12) (fun v13 =>
  headq P (X.load 134 v13) (fun v14 =>
  headq P (X.move (f 0)) (fun v15 =>
  headq P (X.nilCheck v15) (fun v16 =>
  headq P (X.load 134 v16) (fun v17 =>
  headq P (X.bin .shr 134 false true v17 (Value.int .u64 7)) (fun v18 =>
  headq P (X.bin .xor 134 false false v14 v18) (fun v19 =>
  headq P (X.nilCheck v12) (fun v20 =>
  run P (X.store 134 v20 v19) (fun _ h =>
  headq P (X.move (f 0)) (fun v21 =>
  headq P (X.nilCheck v21) (fun v22 =>
  headq P (X.load 134 v22) (fun v23 =>
  headq P (X.move (f 0)) (fun v24 =>
  headq P (X.nilCheck v24) (fun v25 =>
  headq P (X.load 134 v25) (fun v26 =>
  headq P (X.bin .shl 134 false true v26 (Value.int .u64 17)) (fun v27 =>
  headq P (X.bin .xor 134 false false v23 v27) (fun v28 =>
  headq P (X.nilCheck v21) (fun v29 =>
  run P (X.store 134 v29 v28) (fun _ h =>
  run P (X.nilCheck (f 0)) (fun v31 h =>
  run P (X.load 134 v31) (fun v32 h =>
  Q .ret (U f [(2, (Value.int .u64 0)), (3, v3), (4, v4), (5, v5), (6, v6), (7, v7), (8, v8), (9, v9), (10, v10), (11, v11), (12, v12), (13, v13), (14, v14), (15, v15), (16, v16), (17, v17), (18, v18), (19, v19), (20, v20), (21, v21), (22, v22), (23, v23), (24, v24), (25, v25), (26, v26), (27, v27), (28, v28), (29, v29), (30, (f 0)), (31, v31), (32, v32), (2, v32)]) h
  ) h
  ) h
  ) h
  ) h
  ) h
  ) h
  ) h
  ) h
  ) h
  ) h
  ) h
  ) h
  ) h
  ) h
  ) h
  ) h
  ) h
  ) h
  ) h
  ) h
  ) h
  ) h
  ) h
  ) h
  ) h
  ) h
  ) h
  ) h
  ) h
  ) h
  ) h
  ) h
theorem xorNext_code : xorNext_c0 = hcode P xorNext_md (Try.f109.body.getD .skip) := by kernel_rfl
theorem xorNext_ok {a0 : Value} {h : Heap} {R : Value → Heap → Prop} (hh : xorNext_c0 (post [.tmp 2] R) (frame0 #[a0]) h) : HCalls P 109 #[a0] h R :=
  hcalls_gen (md := xorNext_md) follows Try.func109 xorNext_code (by kernel_rfl) (by kernel_rfl) (by kernel_rfl) (by kernel_rfl) (by kernel_rfl) hh

/-- slices.medianAdjacentOrdered[tenon/api.Ref]: parameters [a0, a1, a2]; results [.tmp 6]; slots [0:data, 1:a, 2:swaps, 3:data, 4:a, 5:swaps]; draws [] -/
def medAdj_md : Nat → RM := fun _ => RM.quiet
def medAdj_c0 (Q : Exit → F → Heap → Prop) (f : F) (h : Heap) : Prop :=
  run P (X.bin .sub 3 false true (f 1) (Value.int .i64 1)) (fun v9 h =>
  run P (X.bin .add 3 false true (f 1) (Value.int .i64 1)) (fun v12 h =>
  run P (X.callF 111 [(f 0), v9, (f 1), v12, (f 2)]) (fun v14 h =>
  Q .ret (U f [(6, (Value.int .i64 0)), (7, (f 0)), (8, (f 1)), (9, v9), (10, (f 1)), (11, (f 1)), (12, v12), (13, (f 2)), (14, v14), (6, v14)]) h
  ) h
  ) h
  ) h
theorem medAdj_code : medAdj_c0 = hcode P medAdj_md (Try.f110.body.getD .skip) := by kernel_rfl
theorem medAdj_ok {a0 a1 a2 : Value} {h : Heap} {R : Value → Heap → Prop} (hh : medAdj_c0 (post [.tmp 6] R) (frame0 #[a0, a1, a2]) h) : HCalls P 110 #[a0, a1, a2] h R :=
  hcalls_gen (md := medAdj_md) follows Try.func110 medAdj_code (by kernel_rfl) (by kernel_rfl) (by kernel_rfl) (by kernel_rfl) (by kernel_rfl) hh

/-- slices.medianOrdered[tenon/api.Ref]: parameters [a0, a1, a2, a3, a4]; results [.tmp 10]; slots [0:data, 1:a, 2:b, 3:c, 4:swaps, 5:data, 6:a, 7:b, 8:c, 9:swaps]; draws [] -/
def median_md : Nat → RM := fun _ => RM.quiet
def median_c0 (Q : Exit → F → Heap → Prop) (f : F) (h : Heap) : Prop :=
  run P (X.callF 116 [(f 0), (f 1), (f 2), (f 4)]) (fun v16 h =>
  run P (X.extract v16 0) (fun v17 h =>
  run P (X.extract v16 1) (fun v18 h =>
  run P (X.callF 116 [(f 0), v18, (f 3), (f 4)]) (fun v24 h =>
  run P (X.extract v24 0) (fun v25 h =>
  run P (X.extract v24 1) (fun v26 h =>
  run P (X.callF 116 [(f 0), v17, v25, (f 4)]) (fun v32 h =>
  run P (X.extract v32 0) (fun v33 h =>
  run P (X.extract v32 1) (fun v34 h =>
  Q .ret (U f [(10, (Value.int .i64 0)), (12, (f 0)), (13, (f 1)), (14, (f 2)), (15, (f 4)), (16, v16), (11, v16), (17, v17), (18, v18), (1, v17), (2, v18), (20, (f 0)), (21, v18), (22, (f 3)), (23, (f 4)), (24, v24), (19, v24), (25, v25), (26, v26), (2, v25), (3, v26), (28, (f 0)), (29, v17), (30, v25), (31, (f 4)), (32, v32), (27, v32), (33, v33), (34, v34), (1, v33), (2, v34), (35, v34), (10, v34)]) h
  ) h
  ) h
  ) h
  ) h
  ) h
  ) h
  ) h
  ) h
  ) h
theorem median_code : median_c0 = hcode P median_md (Try.f111.body.getD .skip) := by kernel_rfl
theorem median_ok {a0 a1 a2 a3 a4 : Value} {h : Heap} {R : Value → Heap → Prop} (hh : median_c0 (post [.tmp 10] R) (frame0 #[a0, a1, a2, a3, a4]) h) : HCalls P 111 #[a0, a1, a2, a3, a4] h R :=
  hcalls_gen (md := median_md) follows Try.func111 median_code (by kernel_rfl) (by kernel_rfl) (by kernel_rfl) (by kernel_rfl) (by kernel_rfl) hh

/-- slices.order2Ordered[tenon/api.Ref]: parameters [a0, a1, a2, a3]; results [.tmp 8, .tmp 9]; slots [0:data, 1:a, 2:b, 3:swaps, 4:data, 5:a, 6:b, 7:swaps]; draws [1] -/
def order2_md : Nat → RM := fun _ => RM.quiet
def order2_c0 (Q : Exit → F → Heap → Prop) (f : F) (h : Heap) : Prop :=
  still P (X.move (f 0)) (fun v10 =>
  still P (X.move (f 2)) (fun v11 =>
  still P (X.indexAddr 22 v10 v11) (fun v12 =>
  still P (X.load 41 v12) (fun v13 =>
  still P (X.move (f 0)) (fun v14 =>
  still P (X.move (f 1)) (fun v15 =>
  still P (X.indexAddr 22 v14 v15) (fun v16 =>
  still P (X.load 41 v16) (fun v17 =>
  still P (X.callF 78 [v13, v17]) (fun v18 =>
  br v18 (
    run P (X.nilCheck (f 3)) (fun v20 h =>
    run P (X.load 3 v20) (fun v21 h =>
    run P (X.bin .add 3 false true v21 (Value.int .i64 1)) (fun v22 h =>
    run P (X.nilCheck (f 3)) (fun v23 h =>
    run P (X.store 3 v23 v22) (fun _ h =>
    Q .ret (U f [(8, (Value.int .i64 0)), (9, (Value.int .i64 0)), (10, v10), (11, v11), (12, v12), (13, v13), (14, v14), (15, v15), (16, v16), (17, v17), (18, v18), (19, (f 3)), (20, v20), (21, v21), (22, v22), (23, v23), (24, (f 2)), (25, (f 1)), (8, (f 2)), (9, (f 1))]) h
    ) h
    ) h
    ) h
    ) h
    ) h
  ) (
    Q .ret (U f [(8, (Value.int .i64 0)), (9, (Value.int .i64 0)), (10, v10), (11, v11), (12, v12), (13, v13), (14, v14), (15, v15), (16, v16), (17, v17), (18, v18), (26, (f 1)), (27, (f 2)), (8, (f 1)), (9, (f 2))]) h
  )
  ) h
  ) h
  ) h
  ) h
  ) h
  ) h
  ) h
  ) h
  ) h
theorem order2_code : order2_c0 = hcode P order2_md (Try.f116.body.getD .skip) := by kernel_rfl
theorem order2_ok {a0 a1 a2 a3 : Value} {h : Heap} {R : Value → Heap → Prop} (hh : order2_c0 (post [.tmp 8, .tmp 9] R) (frame0 #[a0, a1, a2, a3]) h) : HCalls P 116 #[a0, a1, a2, a3] h R :=
  hcalls_gen (md := order2_md) follows Try.func116 order2_code (by kernel_rfl) (by kernel_rfl) (by kernel_rfl) (by kernel_rfl) (by kernel_rfl) hh

end Go.Proofs.G
