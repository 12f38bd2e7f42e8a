import Derived.Test.YtadfdknlogceoaaKd
set_option linter.all false
open Go Go.Hv
set_option maxRecDepth 100000
namespace Go.Proofs.G
/-- tenon/tenonlaw14.GraphMakes: parameters [a0, a1]; results [.tmp 4]; slots [0:nodes, 1:edges, 2:nodes, 3:edges, 5:p, 6:d, 7:ok, 8:t]; draws [] -/
def lMakes_md : Nat → RM := fun _ => RM.quiet
def lMakes_c0 (Q : Exit → F → Heap → Prop) (f : F) (h : Heap) : Prop :=
  run P (X.callF 9 [(f 0), (f 1)]) (fun v12 h =>
  run P (X.extract v12 0) (fun v13 h =>
  run P (X.extract v12 1) (fun v14 h =>
  run P (X.extract v12 2) (fun v15 h =>
  run P (X.un .not v15) (fun v17 h =>
  when (gw v17 false) (run P (X.move v13)) (fun v19 h =>
  when (gw v17 false) (run P (X.bin .eql 24 false true v19 (Value.pointer none))) (fun v20 h =>
  run P (X.pick v17 (Value.bool true) v20) (fun v21 h =>
  br v21 (
    Q .ret (U f [(4, (Value.bool false)), (10, (f 0)), (11, (f 1)), (12, v12), (9, v12), (13, v13), (14, v14), (15, v15), (5, v13), (6, v14), (7, v15), (16, v15), (17, v17), (18, v17), (19, v19), (20, v20), (21, v21), (22, v15), (4, v15)]) h
  ) (
    run P (X.callF 10 [v13]) (fun v24 h =>
    run P (X.bin .neq 24 false true v24 (Value.pointer none)) (fun v26 h =>
    when (gw v26 true) (run P (X.move v13)) (fun v28 h =>
    when (gw v26 true) (run P (X.move v14)) (fun v29 h =>
    when (gw v26 true) (run P (X.callF 11 [v28, v29])) (fun v30 h =>
    run P (X.pick v26 v30 (Value.bool false)) (fun v31 h =>
    when (gw v31 true) (run P (X.move v24)) (fun v33 h =>
    when (gw v31 true) (run P (X.move v14)) (fun v34 h =>
    when (gw v31 true) (run P (X.callF 12 [v34])) (fun v35 h =>
    when (gw v31 true) (run P (X.callF 11 [v33, v35])) (fun v36 h =>
    run P (X.pick v31 v36 (Value.bool false)) (fun v37 h =>
    when (gw v37 true) (run P (X.move v13)) (fun v39 h =>
    when (gw v37 true) (run P (X.move v14)) (fun v40 h =>
    when (gw v37 true) (run P (X.callF 11 [v39, v40])) (fun v41 h =>
    run P (X.pick v37 v41 (Value.bool false)) (fun v42 h =>
    Q .ret (U f [(4, (Value.bool false)), (10, (f 0)), (11, (f 1)), (12, v12), (9, v12), (13, v13), (14, v14), (15, v15), (5, v13), (6, v14), (7, v15), (16, v15), (17, v17), (18, v17), (19, v19), (20, v20), (21, v21), (23, v13), (24, v24), (8, v24), (25, v24), (26, v26), (27, v26), (28, v28), (29, v29), (30, v30), (31, v31), (32, v31), (33, v33), (34, v34), (35, v35), (36, v36), (37, v37), (38, v37), (39, v39), (40, v40), (41, v41), (42, v42), (4, v42)]) h
    ) h
    ) h
    ) h
    ) h
    ) h
    ) h
    ) h
    ) h
    ) h
    ) h
    ) h
    ) h
    ) h
    ) h
    ) h
  )
  ) h
  ) h
  ) h
  ) h
  ) h
  ) h
  ) h
  ) h
theorem lMakes_code : lMakes_c0 = hcode P lMakes_md (Try.f3.body.getD .skip) := by kernel_rfl
theorem lMakes_ok {a0 a1 : Value} {h : Heap} {R : Value → Heap → Prop} (hh : lMakes_c0 (post [.tmp 4] R) (frame0 #[a0, a1]) h) : HCalls P 3 #[a0, a1] h R :=
  hcalls_gen (md := lMakes_md) follows Try.func3 lMakes_code (by kernel_rfl) (by kernel_rfl) (by kernel_rfl) (by kernel_rfl) (by kernel_rfl) hh

/-- tenon/tenonlaw14.GraphParts: parameters [a0, a1]; results [.tmp 4]; slots [0:nodes, 1:edges, 2:nodes, 3:edges, 5:g, 6:e, 7:l, 8:m, 9:all, 10:single, 11:i, 12:k, 13:o, 14:f, 15:r, 16:ring, 17:i, 18:i, 19:k]; draws [12, 14, 28, 38] -/
def lParts_md : Nat → RM := fun i => if i = 12 then RM.held [(0, true), (1, true), (2, true), (3, true), (4, true), (6, true), (7, true), (8, true), (9, true), (11, true), (12, true), (13, true), (14, true), (5, false), (10, false), (15, false), (16, true), (17, true), (18, true), (19, true), (20, true), (21, true), (22, true), (23, true), (24, true), (25, true)] else RM.quiet
def lParts_c3 (Q : Exit → F → Heap → Prop) (f : F) (h : Heap) : Prop :=
  run P (X.builtin .len #[22] 3 [false] [(f 13)]) (fun v218 h =>
  run P (X.builtin .len #[22] 3 [false] [(f 0)]) (fun v220 h =>
  run P (X.bin .eql 3 false false v218 v220) (fun v221 h =>
  Q .ret (U f [(217, (f 13)), (218, v218), (219, (f 0)), (220, v220), (221, v221), (4, v221)]) h
  ) h
  ) h
  ) h

def lParts_c5 (Q : Exit → F → Heap → Prop) (f : F) (h : Heap) : Prop :=
  run P (X.bin .add 3 false true (f 18) (Value.int .i64 1)) (fun v201 h =>
  Q .normal (U f [(200, (f 18)), (201, v201), (18, v201)]) h
  ) h

def lParts_L6 (Q : Exit → F → Heap → Prop) (f : F) (h : Heap) : Prop :=
  run P (X.bin .leq 3 false false (f 19) (f 18)) (fun v204 h =>
  br v204 (
    still P (X.move (f 1)) (fun v207 =>
    still P (X.move (f 13)) (fun v208 =>
    still P (X.move (f 18)) (fun v209 =>
    still P (X.indexAddr 22 v208 v209) (fun v210 =>
    still P (X.load 41 v210) (fun v211 =>
    still P (X.move (f 13)) (fun v212 =>
    still P (X.move (f 19)) (fun v213 =>
    still P (X.indexAddr 22 v212 v213) (fun v214 =>
    still P (X.load 41 v214) (fun v215 =>
    still P (X.callF 17 [v207, v211, v215]) (fun v216 =>
    br v216 (
      Q .ret (U f [(202, (f 19)), (203, (f 18)), (204, v204), (207, v207), (208, v208), (209, v209), (210, v210), (211, v211), (212, v212), (213, v213), (214, v214), (215, v215), (216, v216), (4, (Value.bool false))]) h
    ) (
      run P (X.bin .add 3 false true (f 19) (Value.int .i64 1)) (fun v206 h =>
      Q .normal (U f [(202, (f 19)), (203, (f 18)), (204, v204), (207, v207), (208, v208), (209, v209), (210, v210), (211, v211), (212, v212), (213, v213), (214, v214), (215, v215), (216, v216), (205, (f 19)), (206, v206), (19, v206)]) h
      ) h
    )
    ) h
    ) h
    ) h
    ) h
    ) h
    ) h
    ) h
    ) h
    ) h
    ) h
  ) (
    Q (.exit 8) (U f [(202, (f 19)), (203, (f 18)), (204, v204)]) h
  )
  ) h

def lParts_L4 (Q : Exit → F → Heap → Prop) (f : F) (h : Heap) : Prop :=
  run P (X.builtin .len #[22] 3 [false] [(f 13)]) (fun v198 h =>
  run P (X.bin .lss 3 false false (f 18) v198) (fun v199 h =>
  br v199 (
    lp lParts_L6 (inB 8 (inB 7 (thenQ (lParts_c5 Q) Q))) (U f [(196, (f 18)), (197, (f 13)), (198, v198), (199, v199), (19, (Value.int .i64 0))]) h
  ) (
    Q (.exit 6) (U f [(196, (f 18)), (197, (f 13)), (198, v198), (199, v199)]) h
  )
  ) h
  ) h

def lParts_c2 (Q : Exit → F → Heap → Prop) (f : F) (h : Heap) : Prop :=
  run P (X.bin .neq 33 false true (f 14) (Value.int .i64 0)) (fun v192 h =>
  br v192 (
    run P (X.builtin .len #[22] 3 [false] [(f 13)]) (fun v194 h =>
    run P (X.bin .eql 3 false true v194 (Value.int .i64 0)) (fun v195 h =>
    Q .ret (U f [(191, (f 14)), (192, v192), (193, (f 13)), (194, v194), (195, v195), (4, v195)]) h
    ) h
    ) h
  ) (
    lp lParts_L4 (inB 6 (thenQ (lParts_c3 Q) Q)) (U f [(191, (f 14)), (192, v192), (18, (Value.int .i64 0))]) h
  )
  ) h

def lParts_L7 (Q : Exit → F → Heap → Prop) (f : F) (h : Heap) : Prop :=
  run P (X.builtin .len #[22] 3 [false] [(f 15)]) (fun v162 h =>
  run P (X.bin .lss 3 false false (f 17) v162) (fun v163 h =>
  br v163 (
    still P (X.move (f 1)) (fun v166 =>
    still P (X.move (f 15)) (fun v167 =>
    still P (X.move (f 17)) (fun v168 =>
    still P (X.indexAddr 22 v167 v168) (fun v169 =>
    still P (X.load 41 v169) (fun v170 =>
    still P (X.move (f 15)) (fun v171 =>
    still P (X.move (f 17)) (fun v172 =>
    still P (X.bin .add 3 false true v172 (Value.int .i64 1)) (fun v173 =>
    still P (X.move (f 15)) (fun v174 =>
    still P (X.builtin .len #[22] 3 [false] [v174]) (fun v175 =>
    still P (X.bin .rem 3 false false v173 v175) (fun v176 =>
    still P (X.indexAddr 22 v171 v176) (fun v177 =>
    still P (X.load 41 v177) (fun v178 =>
    still P (X.callF 17 [v166, v170, v178]) (fun v179 =>
    still P (X.un .not v179) (fun v180 =>
    still P (X.move v180) (fun v181 =>
    whenq (gw v181 false) (still P (X.move (f 15))) (fun v182 =>
    whenq (gw v181 false) (still P (X.move (f 17))) (fun v183 =>
    whenq (gw v181 false) (still P (X.slice 22 v182 none (some v183) none)) (fun v184 =>
    whenq (gw v181 false) (still P (X.move (f 15))) (fun v185 =>
    whenq (gw v181 false) (still P (X.move (f 17))) (fun v186 =>
    whenq (gw v181 false) (still P (X.indexAddr 22 v185 v186)) (fun v187 =>
    whenq (gw v181 false) (still P (X.load 41 v187)) (fun v188 =>
    whenq (gw v181 false) (still P (X.callF 18 [v184, v188])) (fun v189 =>
    still P (X.pick v181 (Value.bool true) v189) (fun v190 =>
    br v190 (
      Q .ret (U f [(160, (f 17)), (161, (f 15)), (162, v162), (163, v163), (166, v166), (167, v167), (168, v168), (169, v169), (170, v170), (171, v171), (172, v172), (173, v173), (174, v174), (175, v175), (176, v176), (177, v177), (178, v178), (179, v179), (180, v180), (181, v181), (182, v182), (183, v183), (184, v184), (185, v185), (186, v186), (187, v187), (188, v188), (189, v189), (190, v190), (4, (Value.bool false))]) h
    ) (
      run P (X.bin .add 3 false true (f 17) (Value.int .i64 1)) (fun v165 h =>
      Q .normal (U f [(160, (f 17)), (161, (f 15)), (162, v162), (163, v163), (166, v166), (167, v167), (168, v168), (169, v169), (170, v170), (171, v171), (172, v172), (173, v173), (174, v174), (175, v175), (176, v176), (177, v177), (178, v178), (179, v179), (180, v180), (181, v181), (182, v182), (183, v183), (184, v184), (185, v185), (186, v186), (187, v187), (188, v188), (189, v189), (190, v190), (164, (f 17)), (165, v165), (17, v165)]) h
      ) h
    )
    ) h
    ) h
    ) h
    ) h
    ) h
    ) h
    ) h
    ) h
    ) h
    ) h
    ) h
    ) h
    ) h
    ) h
    ) h
    ) h
    ) h
    ) h
    ) h
    ) h
    ) h
    ) h
    ) h
    ) h
    ) h
  ) (
    Q (.exit 4) (U f [(160, (f 17)), (161, (f 15)), (162, v162), (163, v163)]) h
  )
  ) h
  ) h

def lParts_c1 (Q : Exit → F → Heap → Prop) (f : F) (h : Heap) : Prop :=
  run P (X.callF 19 [(f 5)]) (fun v129 h =>
  run P (X.extract v129 0) (fun v130 h =>
  run P (X.extract v129 1) (fun v131 h =>
  run P (X.callF 20 [(f 5)]) (fun v134 h =>
  run P (X.extract v134 0) (fun v135 h =>
  run P (X.extract v134 1) (fun v136 h =>
  run P (X.builtin .len #[22] 3 [false] [(f 9)]) (fun v138 h =>
  run P (X.builtin .len #[22] 3 [false] [(f 0)]) (fun v140 h =>
  run P (X.bin .neq 3 false false v138 v140) (fun v141 h =>
  when (gw v141 false) (run P (X.move (f 8))) (fun v143 h =>
  when (gw v141 false) (run P (X.builtin .len #[36] 3 [false] [v143])) (fun v144 h =>
  when (gw v141 false) (run P (X.move (f 7))) (fun v145 h =>
  when (gw v141 false) (run P (X.builtin .len #[36] 3 [false] [v145])) (fun v146 h =>
  when (gw v141 false) (run P (X.bin .neq 3 false false v144 v146)) (fun v147 h =>
  run P (X.pick v141 (Value.bool true) v147) (fun v148 h =>
  when (gw v148 false) (run P (X.move (f 10))) (fun v150 h =>
  when (gw v148 false) (run P (X.move v131)) (fun v151 h =>
  when (gw v148 false) (run P (X.bin .eql 33 false true v151 (Value.int .i64 0))) (fun v152 h =>
  when (gw v148 false) (run P (X.bin .neq 4 false false v150 v152)) (fun v153 h =>
  run P (X.pick v148 (Value.bool true) v153) (fun v154 h =>
  when (gw v154 false) (run P (X.move v136)) (fun v156 h =>
  when (gw v154 false) (run P (X.move (f 10))) (fun v157 h =>
  when (gw v154 false) (run P (X.bin .eql 4 false false v156 v157)) (fun v158 h =>
  run P (X.pick v154 (Value.bool true) v158) (fun v159 h =>
  br v159 (
    Q .ret (U f [(128, (f 5)), (129, v129), (127, v129), (130, v130), (131, v131), (13, v130), (14, v131), (133, (f 5)), (134, v134), (132, v134), (135, v135), (136, v136), (15, v135), (16, v136), (137, (f 9)), (138, v138), (139, (f 0)), (140, v140), (141, v141), (142, v141), (143, v143), (144, v144), (145, v145), (146, v146), (147, v147), (148, v148), (149, v148), (150, v150), (151, v151), (152, v152), (153, v153), (154, v154), (155, v154), (156, v156), (157, v157), (158, v158), (159, v159), (4, (Value.bool false))]) h
  ) (
    lp lParts_L7 (inB 4 (thenQ (lParts_c2 Q) Q)) (U f [(128, (f 5)), (129, v129), (127, v129), (130, v130), (131, v131), (13, v130), (14, v131), (133, (f 5)), (134, v134), (132, v134), (135, v135), (136, v136), (15, v135), (16, v136), (137, (f 9)), (138, v138), (139, (f 0)), (140, v140), (141, v141), (142, v141), (143, v143), (144, v144), (145, v145), (146, v146), (147, v147), (148, v148), (149, v148), (150, v150), (151, v151), (152, v152), (153, v153), (154, v154), (155, v154), (156, v156), (157, v157), (158, v158), (159, v159), (17, (Value.int .i64 0))]) h
  )
  ) h
  ) h
  ) h
  ) h
  ) h
  ) h
  ) h
  ) h
  ) h
  ) h
  ) h
  ) h
  ) h
  ) h
  ) h
  ) h
  ) h
  ) h
  ) h
  ) h
  ) h
  ) h
  ) h
  ) h

def lParts_c9 (Q : Exit → F → Heap → Prop) (f : F) (h : Heap) : Prop :=
  run P (X.bin .add 3 false true (f 11) (Value.int .i64 1)) (fun v46 h =>
  Q .normal (U f [(45, (f 11)), (46, v46), (11, v46)]) h
  ) h

def lParts_L10 (Q : Exit → F → Heap → Prop) (f : F) (h : Heap) : Prop :=
  run P (X.indexAddr 36 (f 7) (f 11)) (fun v102 h =>
  run P (X.load 22 v102) (fun v103 h =>
  run P (X.builtin .len #[22] 3 [false] [v103]) (fun v104 h =>
  run P (X.bin .lss 3 false false (f 12) v104) (fun v105 h =>
  br v105 (
    run P (X.indexAddr 36 (f 7) (f 11)) (fun v111 h =>
    run P (X.load 22 v111) (fun v112 h =>
    run P (X.indexAddr 22 v112 (f 12)) (fun v114 h =>
    run P (X.load 41 v114) (fun v115 h =>
    run P (X.callF 18 [(f 9), v115]) (fun v116 h =>
    br v116 (
      Q .ret (U f [(99, (f 12)), (100, (f 7)), (101, (f 11)), (102, v102), (103, v103), (104, v104), (105, v105), (108, (f 9)), (109, (f 7)), (110, (f 11)), (111, v111), (112, v112), (113, (f 12)), (114, v114), (115, v115), (116, v116), (4, (Value.bool false))]) h
    ) (
      run P (X.indexAddr 36 (f 7) (f 11)) (fun v120 h =>
      run P (X.load 22 v120) (fun v121 h =>
      run P (X.indexAddr 22 v121 (f 12)) (fun v123 h =>
      run P (X.load 41 v123) (fun v124 h =>
      run P (X.buildSlice 22 1 [(0, v124)]) (fun v125 h =>
      run P (X.builtin .append #[22, 22] 22 [false, false] [(f 9), v125]) (fun v126 h =>
      run P (X.bin .add 3 false true (f 12) (Value.int .i64 1)) (fun v107 h =>
      Q .normal (U f [(99, (f 12)), (100, (f 7)), (101, (f 11)), (102, v102), (103, v103), (104, v104), (105, v105), (108, (f 9)), (109, (f 7)), (110, (f 11)), (111, v111), (112, v112), (113, (f 12)), (114, v114), (115, v115), (116, v116), (117, (f 9)), (118, (f 7)), (119, (f 11)), (120, v120), (121, v121), (122, (f 12)), (123, v123), (124, v124), (125, v125), (126, v126), (9, v126), (106, (f 12)), (107, v107), (12, v107)]) h
      ) h
      ) h
      ) h
      ) h
      ) h
      ) h
      ) h
    )
    ) h
    ) h
    ) h
    ) h
    ) h
  ) (
    Q (.exit 2) (U f [(99, (f 12)), (100, (f 7)), (101, (f 11)), (102, v102), (103, v103), (104, v104), (105, v105)]) h
  )
  ) h
  ) h
  ) h
  ) h

def lParts_L8 (Q : Exit → F → Heap → Prop) (f : F) (h : Heap) : Prop :=
  run P (X.builtin .len #[36] 3 [false] [(f 7)]) (fun v43 h =>
  run P (X.bin .lss 3 false false (f 11) v43) (fun v44 h =>
  br v44 (
    ∃ St : Heap → Prop,
    tk P St (X.move (f 11)) (fun v47 =>
    tk P St (X.move (f 8)) (fun v48 =>
    tk P St (X.builtin .len #[36] 3 [false] [v48]) (fun v49 =>
    tk P St (X.bin .geq 3 false false v47 v49) (fun v50 =>
    tk P St (X.move v50) (fun v51 =>
    whent (gw v51 false) (tk P St (X.move (f 7))) (fun v53 =>
    whent (gw v51 false) (tk P St (X.move (f 11))) (fun v54 =>
    whent (gw v51 false) (tk P St (X.indexAddr 36 v53 v54)) (fun v55 =>
    whent (gw v51 false) (tk P St (X.load 22 v55)) (fun v56 =>
    whent (gw v51 false) (tk P St (X.move (f 8))) (fun v58 =>
    whent (gw v51 false) (tk P St (X.move (f 11))) (fun v59 =>
    whent (gw v51 false) (tk P St (X.indexAddr 36 v58 v59)) (fun v60 =>
    whent (gw v51 false) (tk P St (X.load 22 v60)) (fun v61 =>
    when (gw v51 false) (run P (X.buildSlice 22 0 [])) (fun v52 h => St h ∧ (
    when (gw v51 false) (run P (X.builtin .append #[22, 22] 22 [false, false] [v52, v56])) (fun v57 h => St h ∧ (
    when (gw v51 false) (run P (X.callF 16 [v57, v61])) (fun v62 h => St h ∧ (
    whent (gw v51 false) (tk P St (X.un .not v62)) (fun v63 =>
    tk P St (X.pick v51 (Value.bool true) v63) (fun v64 =>
    tk P St (X.move v64) (fun v65 =>
    whent (gw v65 false) (tk P St (X.move (f 7))) (fun v66 =>
    whent (gw v65 false) (tk P St (X.move (f 11))) (fun v67 =>
    whent (gw v65 false) (tk P St (X.indexAddr 36 v66 v67)) (fun v68 =>
    whent (gw v65 false) (tk P St (X.load 22 v68)) (fun v69 =>
    whent (gw v65 false) (tk P St (X.builtin .len #[22] 3 [false] [v69])) (fun v70 =>
    whent (gw v65 false) (tk P St (X.bin .eql 3 false true v70 (Value.int .i64 0))) (fun v71 =>
    tk P St (X.pick v65 (Value.bool true) v71) (fun v72 =>
    br v72 (
      Q .ret (U f [(41, (f 11)), (42, (f 7)), (43, v43), (44, v44), (47, v47), (48, v48), (49, v49), (50, v50), (51, v51), (53, v53), (54, v54), (55, v55), (56, v56), (58, v58), (59, v59), (60, v60), (61, v61), (52, v52), (57, v57), (62, v62), (63, v63), (64, v64), (65, v65), (66, v66), (67, v67), (68, v68), (69, v69), (70, v70), (71, v71), (72, v72), (4, (Value.bool false))]) h
    ) (
      still P (X.move (f 10)) (fun v73 =>
      still P (X.move v73) (fun v74 =>
      whenq (gw v74 true) (still P (X.move (f 7))) (fun v75 =>
      whenq (gw v74 true) (still P (X.move (f 11))) (fun v76 =>
      whenq (gw v74 true) (still P (X.indexAddr 36 v75 v76)) (fun v77 =>
      whenq (gw v74 true) (still P (X.load 22 v77)) (fun v78 =>
      whenq (gw v74 true) (still P (X.builtin .len #[22] 3 [false] [v78])) (fun v79 =>
      whenq (gw v74 true) (still P (X.bin .eql 3 false true v79 (Value.int .i64 1))) (fun v80 =>
      still P (X.pick v74 v80 (Value.bool false)) (fun v81 =>
      still P (X.move v81) (fun v82 =>
      whenq (gw v82 true) (still P (X.move (f 1))) (fun v83 =>
      whenq (gw v82 true) (still P (X.move (f 7))) (fun v84 =>
      whenq (gw v82 true) (still P (X.move (f 11))) (fun v85 =>
      whenq (gw v82 true) (still P (X.indexAddr 36 v84 v85)) (fun v86 =>
      whenq (gw v82 true) (still P (X.load 22 v86)) (fun v87 =>
      whenq (gw v82 true) (still P (X.indexAddr 22 v87 (Value.int .i64 0))) (fun v88 =>
      whenq (gw v82 true) (still P (X.load 41 v88)) (fun v89 =>
      whenq (gw v82 true) (still P (X.move (f 7))) (fun v90 =>
      whenq (gw v82 true) (still P (X.move (f 11))) (fun v91 =>
      whenq (gw v82 true) (still P (X.indexAddr 36 v90 v91)) (fun v92 =>
      whenq (gw v82 true) (still P (X.load 22 v92)) (fun v93 =>
      whenq (gw v82 true) (still P (X.indexAddr 22 v93 (Value.int .i64 0))) (fun v94 =>
      whenq (gw v82 true) (still P (X.load 41 v94)) (fun v95 =>
      whenq (gw v82 true) (still P (X.callF 17 [v83, v89, v95])) (fun v96 =>
      whenq (gw v82 true) (still P (X.un .not v96)) (fun v97 =>
      still P (X.pick v82 v97 (Value.bool false)) (fun v98 =>
      still P (X.move v98) (fun v10 =>
      lp lParts_L10 (inB 2 (inB 1 (thenQ (lParts_c9 Q) Q))) (U f [(41, (f 11)), (42, (f 7)), (43, v43), (44, v44), (47, v47), (48, v48), (49, v49), (50, v50), (51, v51), (53, v53), (54, v54), (55, v55), (56, v56), (58, v58), (59, v59), (60, v60), (61, v61), (52, v52), (57, v57), (62, v62), (63, v63), (64, v64), (65, v65), (66, v66), (67, v67), (68, v68), (69, v69), (70, v70), (71, v71), (72, v72), (73, v73), (74, v74), (75, v75), (76, v76), (77, v77), (78, v78), (79, v79), (80, v80), (81, v81), (82, v82), (83, v83), (84, v84), (85, v85), (86, v86), (87, v87), (88, v88), (89, v89), (90, v90), (91, v91), (92, v92), (93, v93), (94, v94), (95, v95), (96, v96), (97, v97), (98, v98), (10, v10), (12, (Value.int .i64 0))]) h
      ) h
      ) h
      ) h
      ) h
      ) h
      ) h
      ) h
      ) h
      ) h
      ) h
      ) h
      ) h
      ) h
      ) h
      ) h
      ) h
      ) h
      ) h
      ) h
      ) h
      ) h
      ) h
      ) h
      ) h
      ) h
      ) h
      ) h
    )
    ) h
    ) St h
    ) St h
    ) St h
    ) St h
    ) St h
    ) St h
    ) h
    ) h
    ) St h
    )) h
    )) h
    )) h
    ) St h
    ) St h
    ) St h
    ) St h
    ) St h
    ) St h
    ) St h
    ) St h
    ) h
    ) h
    ) h
    ) h
    ) h
  ) (
    Q (.exit 0) (U f [(41, (f 11)), (42, (f 7)), (43, v43), (44, v44)]) h
  )
  ) h
  ) h

def lParts_c0 (Q : Exit → F → Heap → Prop) (f : F) (h : Heap) : Prop :=
  run P (X.callF 13 []) (fun v20 h =>
  run P (X.un .not v20) (fun v21 h =>
  br v21 (
    Q .ret (U f [(4, (Value.bool false)), (20, v20), (21, v21), (4, (Value.bool false))]) h
  ) (
    run P (X.callF 14 [(f 0), (f 1)]) (fun v25 h =>
    run P (X.extract v25 0) (fun v26 h =>
    run P (X.extract v25 1) (fun v27 h =>
    run P (X.bin .neq 33 false true v27 (Value.int .i64 0)) (fun v29 h =>
    when (gw v29 false) (run P (X.move v26)) (fun v31 h =>
    when (gw v29 false) (run P (X.bin .eql 24 false true v31 (Value.pointer none))) (fun v32 h =>
    run P (X.pick v29 (Value.bool true) v32) (fun v33 h =>
    br v33 (
      run P (X.bin .eql 24 false true v26 (Value.pointer none)) (fun v35 h =>
      Q .ret (U f [(4, (Value.bool false)), (20, v20), (21, v21), (23, (f 0)), (24, (f 1)), (25, v25), (22, v25), (26, v26), (27, v27), (5, v26), (6, v27), (28, v27), (29, v29), (30, v29), (31, v31), (32, v32), (33, v33), (34, v26), (35, v35), (4, v35)]) h
      ) h
    ) (
      run P (X.callF 15 [v26]) (fun v37 h =>
      run P (X.callF 10 [v26]) (fun v39 h =>
      run P (X.callF 15 [v39]) (fun v40 h =>
      lp lParts_L8 (inB 0 (thenQ (lParts_c1 Q) Q)) (U f [(4, (Value.bool false)), (20, v20), (21, v21), (23, (f 0)), (24, (f 1)), (25, v25), (22, v25), (26, v26), (27, v27), (5, v26), (6, v27), (28, v27), (29, v29), (30, v29), (31, v31), (32, v32), (33, v33), (36, v26), (37, v37), (38, v26), (39, v39), (40, v40), (7, v37), (8, v40), (9, (Value.slice none 0 0)), (10, (Value.bool true)), (11, (Value.int .i64 0))]) h
      ) h
      ) h
      ) h
    )
    ) h
    ) h
    ) h
    ) h
    ) h
    ) h
    ) h
  )
  ) h
  ) h
theorem lParts_code : lParts_c0 = hcode P lParts_md (Try.f4.body.getD .skip) := by kernel_rfl
theorem lParts_ok {a0 a1 : Value} {h : Heap} {R : Value → Heap → Prop} (hh : lParts_c0 (post [.tmp 4] R) (frame0 #[a0, a1]) h) : HCalls P 4 #[a0, a1] h R :=
  hcalls_gen (md := lParts_md) follows Try.func4 lParts_code (by kernel_rfl) (by kernel_rfl) (by kernel_rfl) (by kernel_rfl) (by kernel_rfl) hh

/-- tenon/tenonlaw14.GraphKept: parameters [a0, a1, a2, a3]; results [.tmp 8]; slots [0:nodes, 1:edges, 2:from, 3:node, 4:nodes, 5:edges, 6:from, 7:node, 9:g, 10:e, 11:kept, 12:f, 13:k, 14:is, 15:h, 16:n, 17:m, 18:x, 19:i, 20:roots, 21:i, 22:was, 23:_, 24:now, 25:_, 26:i, 27:up, 28:j]; draws [27] -/
def lKept_md : Nat → RM := fun _ => RM.quiet
def lKept_c2 (Q : Exit → F → Heap → Prop) (f : F) (h : Heap) : Prop :=
  run P (X.builtin .len #[22] 3 [false] [(f 11)]) (fun v155 h =>
  run P (X.builtin .len #[22] 3 [false] [(f 22)]) (fun v157 h =>
  run P (X.builtin .len #[22] 3 [false] [(f 24)]) (fun v159 h =>
  run P (X.bin .sub 3 false false v157 v159) (fun v160 h =>
  run P (X.bin .neq 3 false false v155 v160) (fun v161 h =>
  when (gw v161 false) (run P (X.move (f 15))) (fun v163 h =>
  when (gw v161 false) (run P (X.bin .neq 33 false true v163 (Value.int .i64 0))) (fun v164 h =>
  run P (X.pick v161 (Value.bool true) v164) (fun v165 h =>
  br v165 (
    Q .ret (U f [(154, (f 11)), (155, v155), (156, (f 22)), (157, v157), (158, (f 24)), (159, v159), (160, v160), (161, v161), (162, v161), (163, v163), (164, v164), (165, v165), (8, (Value.bool false))]) h
  ) (
    run P (X.un .not (f 14)) (fun v167 h =>
    br v167 (
      run P (X.bin .eql 41 false true (f 13) (Value.int .u64 0)) (fun v169 h =>
      Q .ret (U f [(154, (f 11)), (155, v155), (156, (f 22)), (157, v157), (158, (f 24)), (159, v159), (160, v160), (161, v161), (162, v161), (163, v163), (164, v164), (165, v165), (166, (f 14)), (167, v167), (168, (f 13)), (169, v169), (8, v169)]) h
      ) h
    ) (
      run P (X.callF 21 [(f 9), (f 2), (f 13)]) (fun v174 h =>
      run P (X.extract v174 0) (fun v175 h =>
      run P (X.extract v174 1) (fun v176 h =>
      run P (X.bin .eql 33 false true v176 (Value.int .i64 0)) (fun v178 h =>
      when (gw v178 true) (run P (X.move (f 13))) (fun v180 h =>
      when (gw v178 true) (run P (X.move (f 3))) (fun v181 h =>
      when (gw v178 true) (run P (X.bin .neq 41 false false v180 v181)) (fun v182 h =>
      run P (X.pick v178 v182 (Value.bool false)) (fun v183 h =>
      when (gw v183 true) (run P (X.move v175)) (fun v185 h =>
      when (gw v183 true) (run P (X.move (f 3))) (fun v186 h =>
      when (gw v183 true) (run P (X.callF 18 [v185, v186])) (fun v187 h =>
      run P (X.pick v183 v187 (Value.bool false)) (fun v188 h =>
      when (gw v188 true) (run P (X.move (f 11))) (fun v190 h =>
      when (gw v188 true) (run P (X.move (f 13))) (fun v191 h =>
      when (gw v188 true) (run P (X.callF 18 [v190, v191])) (fun v192 h =>
      when (gw v188 true) (run P (X.un .not v192)) (fun v193 h =>
      run P (X.pick v188 v193 (Value.bool false)) (fun v194 h =>
      Q .ret (U f [(154, (f 11)), (155, v155), (156, (f 22)), (157, v157), (158, (f 24)), (159, v159), (160, v160), (161, v161), (162, v161), (163, v163), (164, v164), (165, v165), (166, (f 14)), (167, v167), (171, (f 9)), (172, (f 2)), (173, (f 13)), (174, v174), (170, v174), (175, v175), (176, v176), (27, v175), (28, v176), (177, v176), (178, v178), (179, v178), (180, v180), (181, v181), (182, v182), (183, v183), (184, v183), (185, v185), (186, v186), (187, v187), (188, v188), (189, v188), (190, v190), (191, v191), (192, v192), (193, v193), (194, v194), (8, v194)]) h
      ) h
      ) h
      ) h
      ) h
      ) h
      ) h
      ) h
      ) h
      ) h
      ) h
      ) h
      ) h
      ) h
      ) h
      ) h
      ) h
      ) h
    )
    ) h
  )
  ) h
  ) h
  ) h
  ) h
  ) h
  ) h
  ) h
  ) h

def lKept_L3 (Q : Exit → F → Heap → Prop) (f : F) (h : Heap) : Prop :=
  run P (X.builtin .len #[22] 3 [false] [(f 22)]) (fun v137 h =>
  run P (X.bin .lss 3 false false (f 26) v137) (fun v138 h =>
  br v138 (
    still P (X.move (f 11)) (fun v141 =>
    still P (X.move (f 22)) (fun v142 =>
    still P (X.move (f 26)) (fun v143 =>
    still P (X.indexAddr 22 v142 v143) (fun v144 =>
    still P (X.load 41 v144) (fun v145 =>
    still P (X.callF 18 [v141, v145]) (fun v146 =>
    still P (X.move (f 24)) (fun v147 =>
    still P (X.move (f 22)) (fun v148 =>
    still P (X.move (f 26)) (fun v149 =>
    still P (X.indexAddr 22 v148 v149) (fun v150 =>
    still P (X.load 41 v150) (fun v151 =>
    still P (X.callF 18 [v147, v151]) (fun v152 =>
    still P (X.bin .eql 4 false false v146 v152) (fun v153 =>
    br v153 (
      Q .ret (U f [(135, (f 26)), (136, (f 22)), (137, v137), (138, v138), (141, v141), (142, v142), (143, v143), (144, v144), (145, v145), (146, v146), (147, v147), (148, v148), (149, v149), (150, v150), (151, v151), (152, v152), (153, v153), (8, (Value.bool false))]) h
    ) (
      run P (X.bin .add 3 false true (f 26) (Value.int .i64 1)) (fun v140 h =>
      Q .normal (U f [(135, (f 26)), (136, (f 22)), (137, v137), (138, v138), (141, v141), (142, v142), (143, v143), (144, v144), (145, v145), (146, v146), (147, v147), (148, v148), (149, v149), (150, v150), (151, v151), (152, v152), (153, v153), (139, (f 26)), (140, v140), (26, v140)]) h
      ) h
    )
    ) h
    ) h
    ) h
    ) h
    ) h
    ) h
    ) h
    ) h
    ) h
    ) h
    ) h
    ) h
    ) h
  ) (
    Q (.exit 2) (U f [(135, (f 26)), (136, (f 22)), (137, v137), (138, v138)]) h
  )
  ) h
  ) h

def lKept_c1 (Q : Exit → F → Heap → Prop) (f : F) (h : Heap) : Prop :=
  run P (X.callF 24 [(f 9), (f 2)]) (fun v115 h =>
  run P (X.extract v115 0) (fun v116 h =>
  run P (X.extract v115 1) (fun v117 h =>
  run P (X.callF 24 [(f 18), (f 20)]) (fun v121 h =>
  run P (X.extract v121 0) (fun v122 h =>
  run P (X.extract v121 1) (fun v123 h =>
  run P (X.callF 18 [v116, (f 3)]) (fun v126 h =>
  run P (X.un .not v126) (fun v127 h =>
  br v127 (
    run P (X.builtin .len #[22] 3 [false] [(f 11)]) (fun v129 h =>
    run P (X.bin .eql 3 false true v129 (Value.int .i64 0)) (fun v130 h =>
    when (gw v130 true) (run P (X.move (f 15))) (fun v132 h =>
    when (gw v130 true) (run P (X.bin .eql 33 false true v132 (Value.int .i64 142))) (fun v133 h =>
    run P (X.pick v130 v133 (Value.bool false)) (fun v134 h =>
    Q .ret (U f [(113, (f 9)), (114, (f 2)), (115, v115), (112, v115), (116, v116), (117, v117), (22, v116), (23, v117), (119, (f 18)), (120, (f 20)), (121, v121), (118, v121), (122, v122), (123, v123), (24, v122), (25, v123), (124, v116), (125, (f 3)), (126, v126), (127, v127), (128, (f 11)), (129, v129), (130, v130), (131, v130), (132, v132), (133, v133), (134, v134), (8, v134)]) h
    ) h
    ) h
    ) h
    ) h
    ) h
  ) (
    lp lKept_L3 (inB 2 (thenQ (lKept_c2 Q) Q)) (U f [(113, (f 9)), (114, (f 2)), (115, v115), (112, v115), (116, v116), (117, v117), (22, v116), (23, v117), (119, (f 18)), (120, (f 20)), (121, v121), (118, v121), (122, v122), (123, v123), (24, v122), (25, v123), (124, v116), (125, (f 3)), (126, v126), (127, v127), (26, (Value.int .i64 0))]) h
  )
  ) h
  ) h
  ) h
  ) h
  ) h
  ) h
  ) h
  ) h

def lKept_c5 (Q : Exit → F → Heap → Prop) (f : F) (h : Heap) : Prop :=
  run P (X.bin .add 3 false true (f 21) (Value.int .i64 1)) (fun v98 h =>
  Q .normal (U f [(97, (f 21)), (98, v98), (21, v98)]) h
  ) h

def lKept_L4 (Q : Exit → F → Heap → Prop) (f : F) (h : Heap) : Prop :=
  run P (X.builtin .len #[22] 3 [false] [(f 2)]) (fun v95 h =>
  run P (X.bin .lss 3 false false (f 21) v95) (fun v96 h =>
  br v96 (
    run P (X.indexAddr 22 (f 2) (f 21)) (fun v101 h =>
    run P (X.load 41 v101) (fun v102 h =>
    run P (X.bin .neq 41 false false v102 (f 3)) (fun v104 h =>
    br v104 (
      run P (X.indexAddr 22 (f 2) (f 21)) (fun v108 h =>
      run P (X.load 41 v108) (fun v109 h =>
      run P (X.buildSlice 22 1 [(0, v109)]) (fun v110 h =>
      run P (X.builtin .append #[22, 22] 22 [false, false] [(f 20), v110]) (fun v111 h =>
      lKept_c5 Q (U f [(93, (f 21)), (94, (f 2)), (95, v95), (96, v96), (99, (f 2)), (100, (f 21)), (101, v101), (102, v102), (103, (f 3)), (104, v104), (105, (f 20)), (106, (f 2)), (107, (f 21)), (108, v108), (109, v109), (110, v110), (111, v111), (20, v111)]) h
      ) h
      ) h
      ) h
      ) h
    ) (
      lKept_c5 Q (U f [(93, (f 21)), (94, (f 2)), (95, v95), (96, v96), (99, (f 2)), (100, (f 21)), (101, v101), (102, v102), (103, (f 3)), (104, v104)]) h
    )
    ) h
    ) h
    ) h
  ) (
    Q (.exit 0) (U f [(93, (f 21)), (94, (f 2)), (95, v95), (96, v96)]) h
  )
  ) h
  ) h

def lKept_c0 (Q : Exit → F → Heap → Prop) (f : F) (h : Heap) : Prop :=
  run P (X.callF 13 []) (fun v29 h =>
  run P (X.un .not v29) (fun v30 h =>
  br v30 (
    Q .ret (U f [(8, (Value.bool false)), (29, v29), (30, v30), (8, (Value.bool false))]) h
  ) (
    run P (X.callF 14 [(f 0), (f 1)]) (fun v34 h =>
    run P (X.extract v34 0) (fun v35 h =>
    run P (X.extract v34 1) (fun v36 h =>
    run P (X.bin .neq 33 false true v36 (Value.int .i64 0)) (fun v38 h =>
    when (gw v38 false) (run P (X.move v35)) (fun v40 h =>
    when (gw v38 false) (run P (X.bin .eql 24 false true v40 (Value.pointer none))) (fun v41 h =>
    run P (X.pick v38 (Value.bool true) v41) (fun v42 h =>
    br v42 (
      run P (X.bin .eql 24 false true v35 (Value.pointer none)) (fun v44 h =>
      Q .ret (U f [(8, (Value.bool false)), (29, v29), (30, v30), (32, (f 0)), (33, (f 1)), (34, v34), (31, v34), (35, v35), (36, v36), (9, v35), (10, v36), (37, v36), (38, v38), (39, v38), (40, v40), (41, v41), (42, v42), (43, v35), (44, v44), (8, v44)]) h
      ) h
    ) (
      run P (X.callF 21 [v35, (f 2), (f 3)]) (fun v49 h =>
      run P (X.extract v49 0) (fun v50 h =>
      run P (X.extract v49 1) (fun v51 h =>
      run P (X.callF 22 [v35, (f 2), (f 3)]) (fun v56 h =>
      run P (X.extract v56 0) (fun v57 h =>
      run P (X.extract v56 1) (fun v58 h =>
      run P (X.extract v56 2) (fun v59 h =>
      run P (X.bin .neq 33 false true v51 (Value.int .i64 0)) (fun v61 h =>
      br v61 (
        run P (X.builtin .len #[22] 3 [false] [v50]) (fun v63 h =>
        run P (X.bin .eql 3 false true v63 (Value.int .i64 0)) (fun v64 h =>
        when (gw v64 true) (run P (X.move v59)) (fun v66 h =>
        when (gw v64 true) (run P (X.move v51)) (fun v67 h =>
        when (gw v64 true) (run P (X.bin .eql 33 false false v66 v67)) (fun v68 h =>
        run P (X.pick v64 v68 (Value.bool false)) (fun v69 h =>
        when (gw v69 true) (run P (X.move v58)) (fun v71 h =>
        when (gw v69 true) (run P (X.un .not v71)) (fun v72 h =>
        run P (X.pick v69 v72 (Value.bool false)) (fun v73 h =>
        Q .ret (U f [(8, (Value.bool false)), (29, v29), (30, v30), (32, (f 0)), (33, (f 1)), (34, v34), (31, v34), (35, v35), (36, v36), (9, v35), (10, v36), (37, v36), (38, v38), (39, v38), (40, v40), (41, v41), (42, v42), (46, v35), (47, (f 2)), (48, (f 3)), (49, v49), (45, v49), (50, v50), (51, v51), (11, v50), (12, v51), (53, v35), (54, (f 2)), (55, (f 3)), (56, v56), (52, v56), (57, v57), (58, v58), (59, v59), (13, v57), (14, v58), (15, v59), (60, v51), (61, v61), (62, v50), (63, v63), (64, v64), (65, v64), (66, v66), (67, v67), (68, v68), (69, v69), (70, v69), (71, v71), (72, v72), (73, v73), (8, v73)]) h
        ) h
        ) h
        ) h
        ) h
        ) h
        ) h
        ) h
        ) h
        ) h
      ) (
        run P (X.callF 23 [(f 0), (f 1), (f 3)]) (fun v78 h =>
        run P (X.extract v78 0) (fun v79 h =>
        run P (X.extract v78 1) (fun v80 h =>
        run P (X.callF 14 [v79, v80]) (fun v84 h =>
        run P (X.extract v84 0) (fun v85 h =>
        run P (X.extract v84 1) (fun v86 h =>
        run P (X.bin .neq 33 false true v86 (Value.int .i64 0)) (fun v88 h =>
        when (gw v88 false) (run P (X.move v85)) (fun v90 h =>
        when (gw v88 false) (run P (X.bin .eql 24 false true v90 (Value.pointer none))) (fun v91 h =>
        run P (X.pick v88 (Value.bool true) v91) (fun v92 h =>
        br v92 (
          Q .ret (U f [(8, (Value.bool false)), (29, v29), (30, v30), (32, (f 0)), (33, (f 1)), (34, v34), (31, v34), (35, v35), (36, v36), (9, v35), (10, v36), (37, v36), (38, v38), (39, v38), (40, v40), (41, v41), (42, v42), (46, v35), (47, (f 2)), (48, (f 3)), (49, v49), (45, v49), (50, v50), (51, v51), (11, v50), (12, v51), (53, v35), (54, (f 2)), (55, (f 3)), (56, v56), (52, v56), (57, v57), (58, v58), (59, v59), (13, v57), (14, v58), (15, v59), (60, v51), (61, v61), (75, (f 0)), (76, (f 1)), (77, (f 3)), (78, v78), (74, v78), (79, v79), (80, v80), (16, v79), (17, v80), (82, v79), (83, v80), (84, v84), (81, v84), (85, v85), (86, v86), (18, v85), (19, v86), (87, v86), (88, v88), (89, v88), (90, v90), (91, v91), (92, v92), (8, (Value.bool false))]) h
        ) (
          lp lKept_L4 (inB 0 (thenQ (lKept_c1 Q) Q)) (U f [(8, (Value.bool false)), (29, v29), (30, v30), (32, (f 0)), (33, (f 1)), (34, v34), (31, v34), (35, v35), (36, v36), (9, v35), (10, v36), (37, v36), (38, v38), (39, v38), (40, v40), (41, v41), (42, v42), (46, v35), (47, (f 2)), (48, (f 3)), (49, v49), (45, v49), (50, v50), (51, v51), (11, v50), (12, v51), (53, v35), (54, (f 2)), (55, (f 3)), (56, v56), (52, v56), (57, v57), (58, v58), (59, v59), (13, v57), (14, v58), (15, v59), (60, v51), (61, v61), (75, (f 0)), (76, (f 1)), (77, (f 3)), (78, v78), (74, v78), (79, v79), (80, v80), (16, v79), (17, v80), (82, v79), (83, v80), (84, v84), (81, v84), (85, v85), (86, v86), (18, v85), (19, v86), (87, v86), (88, v88), (89, v88), (90, v90), (91, v91), (92, v92), (20, (Value.slice none 0 0)), (21, (Value.int .i64 0))]) h
        )
        ) h
        ) h
        ) h
        ) h
        ) h
        ) h
        ) h
        ) h
        ) h
        ) h
      )
      ) h
      ) h
      ) h
      ) h
      ) h
      ) h
      ) h
      ) h
    )
    ) h
    ) h
    ) h
    ) h
    ) h
    ) h
    ) h
  )
  ) h
  ) h
theorem lKept_code : lKept_c0 = hcode P lKept_md (Try.f5.body.getD .skip) := by kernel_rfl
theorem lKept_ok {a0 a1 a2 a3 : Value} {h : Heap} {R : Value → Heap → Prop} (hh : lKept_c0 (post [.tmp 8] R) (frame0 #[a0, a1, a2, a3]) h) : HCalls P 5 #[a0, a1, a2, a3] h R :=
  hcalls_gen (md := lKept_md) follows Try.func5 lKept_code (by kernel_rfl) (by kernel_rfl) (by kernel_rfl) (by kernel_rfl) (by kernel_rfl) hh

/-- tenon/tenonlaw14.GraphShort: parameters [a0, a1]; results [.tmp 4]; slots [0:nodes, 1:edges, 2:nodes, 3:edges, 5:g, 6:e, 7:r, 8:is, 9:all, 10:i, 11:w, 12:f, 13:i, 14:w, 15:f]; draws [11, 17] -/
def lShort_md : Nat → RM := fun i => if i = 11 then RM.sync [(0, 1), (1, 0), (2, 0), (3, 0), (4, 0), (5, 1), (6, 0), (7, 0), (8, 0), (9, 0), (10, 1), (11, 2), (12, 1), (13, 0), (14, 0), (15, 1), (16, 1)] else if i = 17 then RM.sync [(0, 1), (1, 0), (2, 0), (3, 0), (4, 0), (5, 0), (6, 0), (7, 0), (8, 1), (9, 0), (10, 0), (11, 0), (12, 1), (13, 2), (14, 1), (15, 0), (16, 0), (17, 1), (18, 1)] else RM.quiet
def lShort_c2 (Q : Exit → F → Heap → Prop) (f : F) (h : Heap) : Prop :=
  run P (X.builtin .len #[22] 3 [false] [(f 7)]) (fun v107 h =>
  run P (X.bin .gtr 3 false true v107 (Value.int .i64 0)) (fun v108 h =>
  run P (X.bin .eql 4 false false (f 8) v108) (fun v109 h =>
  Q .ret (U f [(105, (f 8)), (106, (f 7)), (107, v107), (108, v108), (109, v109), (4, v109)]) h
  ) h
  ) h
  ) h

def lShort_L3 (Q : Exit → F → Heap → Prop) (f : F) (h : Heap) : Prop :=
  run P (X.builtin .len #[22] 3 [false] [(f 7)]) (fun v75 h =>
  run P (X.bin .lss 3 false false (f 13) v75) (fun v76 h =>
  br v76 (
    headq P (X.move (f 5)) (fun v80 =>
    tf P (X.move (f 7)) (fun v81 =>
    tf P (X.move (f 13)) (fun v82 =>
    tf P (X.bin .add 3 false true v82 (Value.int .i64 1)) (fun v83 =>
    tf P (X.move (f 7)) (fun v84 =>
    tf P (X.builtin .len #[22] 3 [false] [v84]) (fun v85 =>
    tf P (X.bin .rem 3 false false v83 v85) (fun v86 =>
    tf P (X.indexAddr 22 v81 v86) (fun v87 =>
    headq P (X.load 41 v87) (fun v88 =>
    tf P (X.move (f 7)) (fun v89 =>
    tf P (X.move (f 13)) (fun v90 =>
    tf P (X.indexAddr 22 v89 v90) (fun v91 =>
    headq P (X.load 41 v91) (fun v92 =>
    run P (X.callF 26 [v80, v88, v92]) (fun v93 h =>
    headq P (X.move v93) (fun v79 =>
    tf P (X.extract v79 0) (fun v94 =>
    tf P (X.extract v79 1) (fun v95 =>
    headq P (X.move v94) (fun v14 =>
    headq P (X.move v95) (fun v15 =>
    run P (X.bin .neq 33 false true v15 (Value.int .i64 0)) (fun v97 h =>
    when (gw v97 false) (run P (X.move v14)) (fun v99 h =>
    when (gw v97 false) (run P (X.builtin .len #[22] 3 [false] [v99])) (fun v100 h =>
    when (gw v97 false) (run P (X.move (f 7))) (fun v101 h =>
    when (gw v97 false) (run P (X.builtin .len #[22] 3 [false] [v101])) (fun v102 h =>
    when (gw v97 false) (run P (X.bin .neq 3 false false v100 v102)) (fun v103 h =>
    run P (X.pick v97 (Value.bool true) v103) (fun v104 h =>
    br v104 (
      Q .ret (U f [(73, (f 13)), (74, (f 7)), (75, v75), (76, v76), (80, v80), (81, v81), (82, v82), (83, v83), (84, v84), (85, v85), (86, v86), (87, v87), (88, v88), (89, v89), (90, v90), (91, v91), (92, v92), (93, v93), (79, v79), (94, v94), (95, v95), (14, v14), (15, v15), (96, v15), (97, v97), (98, v97), (99, v99), (100, v100), (101, v101), (102, v102), (103, v103), (104, v104), (4, (Value.bool false))]) h
    ) (
      run P (X.bin .add 3 false true (f 13) (Value.int .i64 1)) (fun v78 h =>
      Q .normal (U f [(73, (f 13)), (74, (f 7)), (75, v75), (76, v76), (80, v80), (81, v81), (82, v82), (83, v83), (84, v84), (85, v85), (86, v86), (87, v87), (88, v88), (89, v89), (90, v90), (91, v91), (92, v92), (93, v93), (79, v79), (94, v94), (95, v95), (14, v14), (15, v15), (96, v15), (97, v97), (98, v97), (99, v99), (100, v100), (101, v101), (102, v102), (103, v103), (104, v104), (77, (f 13)), (78, v78), (13, v78)]) h
      ) h
    )
    ) h
    ) h
    ) h
    ) h
    ) h
    ) h
    ) h
    ) h
    ) h
    )
    )
    ) h
    ) h
    ) h
    )
    )
    )
    ) h
    )
    )
    )
    )
    )
    )
    )
    ) h
  ) (
    Q (.exit 2) (U f [(73, (f 13)), (74, (f 7)), (75, v75), (76, v76)]) h
  )
  ) h
  ) h

def lShort_c1 (Q : Exit → F → Heap → Prop) (f : F) (h : Heap) : Prop :=
  lp lShort_L3 (inB 2 (thenQ (lShort_c2 Q) Q)) (U f [(13, (Value.int .i64 0))]) h

def lShort_L4 (Q : Exit → F → Heap → Prop) (f : F) (h : Heap) : Prop :=
  run P (X.builtin .len #[23] 3 [false] [(f 9)]) (fun v41 h =>
  run P (X.bin .lss 3 false false (f 10) v41) (fun v42 h =>
  br v42 (
    headq P (X.move (f 5)) (fun v46 =>
    tf P (X.move (f 9)) (fun v47 =>
    tf P (X.move (f 10)) (fun v48 =>
    tf P (X.indexAddr 23 v47 v48) (fun v49 =>
    tf P (X.fieldAddr 57 v49 1) (fun v50 =>
    headq P (X.load 41 v50) (fun v51 =>
    tf P (X.move (f 9)) (fun v52 =>
    tf P (X.move (f 10)) (fun v53 =>
    tf P (X.indexAddr 23 v52 v53) (fun v54 =>
    tf P (X.fieldAddr 57 v54 0) (fun v55 =>
    headq P (X.load 41 v55) (fun v56 =>
    run P (X.callF 26 [v46, v51, v56]) (fun v57 h =>
    headq P (X.move v57) (fun v45 =>
    tf P (X.extract v45 0) (fun v58 =>
    tf P (X.extract v45 1) (fun v59 =>
    headq P (X.move v58) (fun v11 =>
    headq P (X.move v59) (fun v12 =>
    run P (X.bin .eql 33 false true v12 (Value.int .i64 0)) (fun v61 h =>
    when (gw v61 true) (run P (X.move (f 8))) (fun v63 h =>
    when (gw v61 true) (run P (X.un .not v63)) (fun v64 h =>
    when (gw v61 true) (run P (X.move v64)) (fun v65 h =>
    when (gw v65 false) (run P (X.move v11)) (fun v66 h =>
    when (gw v65 false) (run P (X.builtin .len #[22] 3 [false] [v66])) (fun v67 h =>
    when (gw v65 false) (run P (X.move (f 7))) (fun v68 h =>
    when (gw v65 false) (run P (X.builtin .len #[22] 3 [false] [v68])) (fun v69 h =>
    when (gw v65 false) (run P (X.bin .lss 3 false false v67 v69)) (fun v70 h =>
    when (gw v61 true) (run P (X.pick v65 (Value.bool true) v70)) (fun v71 h =>
    run P (X.pick v61 v71 (Value.bool false)) (fun v72 h =>
    br v72 (
      Q .ret (U f [(39, (f 10)), (40, (f 9)), (41, v41), (42, v42), (46, v46), (47, v47), (48, v48), (49, v49), (50, v50), (51, v51), (52, v52), (53, v53), (54, v54), (55, v55), (56, v56), (57, v57), (45, v45), (58, v58), (59, v59), (11, v11), (12, v12), (60, v12), (61, v61), (62, v61), (63, v63), (64, v64), (65, v65), (66, v66), (67, v67), (68, v68), (69, v69), (70, v70), (71, v71), (72, v72), (4, (Value.bool false))]) h
    ) (
      run P (X.bin .add 3 false true (f 10) (Value.int .i64 1)) (fun v44 h =>
      Q .normal (U f [(39, (f 10)), (40, (f 9)), (41, v41), (42, v42), (46, v46), (47, v47), (48, v48), (49, v49), (50, v50), (51, v51), (52, v52), (53, v53), (54, v54), (55, v55), (56, v56), (57, v57), (45, v45), (58, v58), (59, v59), (11, v11), (12, v12), (60, v12), (61, v61), (62, v61), (63, v63), (64, v64), (65, v65), (66, v66), (67, v67), (68, v68), (69, v69), (70, v70), (71, v71), (72, v72), (43, (f 10)), (44, v44), (10, v44)]) h
      ) h
    )
    ) h
    ) h
    ) h
    ) h
    ) h
    ) h
    ) h
    ) h
    ) h
    ) h
    ) h
    ) h
    ) h
    )
    )
    ) h
    ) h
    ) h
    )
    )
    )
    )
    ) h
    )
    )
    )
    )
    ) h
  ) (
    Q (.exit 0) (U f [(39, (f 10)), (40, (f 9)), (41, v41), (42, v42)]) h
  )
  ) h
  ) h

def lShort_c0 (Q : Exit → F → Heap → Prop) (f : F) (h : Heap) : Prop :=
  run P (X.callF 13 []) (fun v16 h =>
  run P (X.un .not v16) (fun v17 h =>
  br v17 (
    Q .ret (U f [(4, (Value.bool false)), (16, v16), (17, v17), (4, (Value.bool false))]) h
  ) (
    run P (X.callF 14 [(f 0), (f 1)]) (fun v21 h =>
    run P (X.extract v21 0) (fun v22 h =>
    run P (X.extract v21 1) (fun v23 h =>
    run P (X.bin .neq 33 false true v23 (Value.int .i64 0)) (fun v25 h =>
    when (gw v25 false) (run P (X.move v22)) (fun v27 h =>
    when (gw v25 false) (run P (X.bin .eql 24 false true v27 (Value.pointer none))) (fun v28 h =>
    run P (X.pick v25 (Value.bool true) v28) (fun v29 h =>
    br v29 (
      run P (X.bin .eql 24 false true v22 (Value.pointer none)) (fun v31 h =>
      Q .ret (U f [(4, (Value.bool false)), (16, v16), (17, v17), (19, (f 0)), (20, (f 1)), (21, v21), (18, v21), (22, v22), (23, v23), (5, v22), (6, v23), (24, v23), (25, v25), (26, v25), (27, v27), (28, v28), (29, v29), (30, v22), (31, v31), (4, v31)]) h
      ) h
    ) (
      run P (X.callF 20 [v22]) (fun v34 h =>
      run P (X.extract v34 0) (fun v35 h =>
      run P (X.extract v34 1) (fun v36 h =>
      run P (X.callF 25 [v22]) (fun v38 h =>
      lp lShort_L4 (inB 0 (thenQ (lShort_c1 Q) Q)) (U f [(4, (Value.bool false)), (16, v16), (17, v17), (19, (f 0)), (20, (f 1)), (21, v21), (18, v21), (22, v22), (23, v23), (5, v22), (6, v23), (24, v23), (25, v25), (26, v25), (27, v27), (28, v28), (29, v29), (33, v22), (34, v34), (32, v34), (35, v35), (36, v36), (7, v35), (8, v36), (37, v22), (38, v38), (9, v38), (10, (Value.int .i64 0))]) h
      ) h
      ) h
      ) h
      ) h
    )
    ) h
    ) h
    ) h
    ) h
    ) h
    ) h
    ) h
  )
  ) h
  ) h
theorem lShort_code : lShort_c0 = hcode P lShort_md (Try.f6.body.getD .skip) := by kernel_rfl
theorem lShort_ok {a0 a1 : Value} {h : Heap} {R : Value → Heap → Prop} (hh : lShort_c0 (post [.tmp 4] R) (frame0 #[a0, a1]) h) : HCalls P 6 #[a0, a1] h R :=
  hcalls_gen (md := lShort_md) follows Try.func6 lShort_code (by kernel_rfl) (by kernel_rfl) (by kernel_rfl) (by kernel_rfl) (by kernel_rfl) hh

/-- tenon/tenonlaw14.GraphWays: parameters [a0, a1, a2, a3]; results [.tmp 8]; slots [0:nodes, 1:edges, 2:from, 3:to, 4:nodes, 5:edges, 6:from, 7:to, 9:g, 10:e, 11:l, 12:f, 13:w, 14:h, 15:i, 16:x, 17:k, 18:all, 19:i, 20:x, 21:k]; draws [16] -/
def lWays_md : Nat → RM := fun _ => RM.quiet
def lWays_c2 (Q : Exit → F → Heap → Prop) (f : F) (h : Heap) : Prop :=
  Q .ret (U f [(8, (Value.bool true))]) h

def lWays_c4 (Q : Exit → F → Heap → Prop) (f : F) (h : Heap) : Prop :=
  run P (X.bin .add 3 false true (f 19) (Value.int .i64 1)) (fun v158 h =>
  Q .normal (U f [(157, (f 19)), (158, v158), (19, v158)]) h
  ) h

def lWays_L3 (Q : Exit → F → Heap → Prop) (f : F) (h : Heap) : Prop :=
  run P (X.builtin .len #[23] 3 [false] [(f 18)]) (fun v155 h =>
  run P (X.bin .lss 3 false false (f 19) v155) (fun v156 h =>
  br v156 (
    run P (X.indexAddr 23 (f 18) (f 19)) (fun v161 h =>
    run P (X.fieldAddr 57 v161 0) (fun v162 h =>
    run P (X.load 41 v162) (fun v163 h =>
    run P (X.bin .eql 41 false false v163 (f 2)) (fun v165 h =>
    br v165 (
      run P (X.indexAddr 23 (f 18) (f 19)) (fun v170 h =>
      run P (X.fieldAddr 57 v170 1) (fun v171 h =>
      run P (X.load 41 v171) (fun v172 h =>
      run P (X.callF 26 [(f 9), v172, (f 3)]) (fun v174 h =>
      run P (X.extract v174 0) (fun v175 h =>
      run P (X.extract v174 1) (fun v176 h =>
      run P (X.bin .eql 33 false true v176 (Value.int .i64 0)) (fun v178 h =>
      when (gw v178 true) (run P (X.move v175)) (fun v180 h =>
      when (gw v178 true) (run P (X.builtin .len #[22] 3 [false] [v180])) (fun v181 h =>
      when (gw v178 true) (run P (X.bin .add 3 false true v181 (Value.int .i64 1))) (fun v182 h =>
      when (gw v178 true) (run P (X.move (f 13))) (fun v183 h =>
      when (gw v178 true) (run P (X.builtin .len #[22] 3 [false] [v183])) (fun v184 h =>
      when (gw v178 true) (run P (X.bin .lss 3 false false v182 v184)) (fun v185 h =>
      run P (X.pick v178 v185 (Value.bool false)) (fun v186 h =>
      br v186 (
        Q .ret (U f [(153, (f 19)), (154, (f 18)), (155, v155), (156, v156), (159, (f 18)), (160, (f 19)), (161, v161), (162, v162), (163, v163), (164, (f 2)), (165, v165), (167, (f 9)), (168, (f 18)), (169, (f 19)), (170, v170), (171, v171), (172, v172), (173, (f 3)), (174, v174), (166, v174), (175, v175), (176, v176), (20, v175), (21, v176), (177, v176), (178, v178), (179, v178), (180, v180), (181, v181), (182, v182), (183, v183), (184, v184), (185, v185), (186, v186), (8, (Value.bool false))]) h
      ) (
        lWays_c4 Q (U f [(153, (f 19)), (154, (f 18)), (155, v155), (156, v156), (159, (f 18)), (160, (f 19)), (161, v161), (162, v162), (163, v163), (164, (f 2)), (165, v165), (167, (f 9)), (168, (f 18)), (169, (f 19)), (170, v170), (171, v171), (172, v172), (173, (f 3)), (174, v174), (166, v174), (175, v175), (176, v176), (20, v175), (21, v176), (177, v176), (178, v178), (179, v178), (180, v180), (181, v181), (182, v182), (183, v183), (184, v184), (185, v185), (186, v186)]) h
      )
      ) h
      ) h
      ) h
      ) h
      ) h
      ) h
      ) h
      ) h
      ) h
      ) h
      ) h
      ) h
      ) h
      ) h
    ) (
      lWays_c4 Q (U f [(153, (f 19)), (154, (f 18)), (155, v155), (156, v156), (159, (f 18)), (160, (f 19)), (161, v161), (162, v162), (163, v163), (164, (f 2)), (165, v165)]) h
    )
    ) h
    ) h
    ) h
    ) h
  ) (
    Q (.exit 2) (U f [(153, (f 19)), (154, (f 18)), (155, v155), (156, v156)]) h
  )
  ) h
  ) h

def lWays_c1 (Q : Exit → F → Heap → Prop) (f : F) (h : Heap) : Prop :=
  run P (X.callF 25 [(f 9)]) (fun v152 h =>
  lp lWays_L3 (inB 2 (thenQ (lWays_c2 Q) Q)) (U f [(151, (f 9)), (152, v152), (18, v152), (19, (Value.int .i64 0))]) h
  ) h

def lWays_L5 (Q : Exit → F → Heap → Prop) (f : F) (h : Heap) : Prop :=
  run P (X.bin .add 3 false true (f 15) (Value.int .i64 1)) (fun v98 h =>
  run P (X.builtin .len #[22] 3 [false] [(f 13)]) (fun v100 h =>
  run P (X.bin .lss 3 false false v98 v100) (fun v101 h =>
  br v101 (
    run P (X.bin .add 3 false true (f 15) (Value.int .i64 1)) (fun v108 h =>
    run P (X.indexAddr 22 (f 13) v108) (fun v109 h =>
    run P (X.load 41 v109) (fun v110 h =>
    run P (X.callF 26 [(f 9), v110, (f 3)]) (fun v112 h =>
    run P (X.extract v112 0) (fun v113 h =>
    run P (X.extract v112 1) (fun v114 h =>
    still P (X.move (f 1)) (fun v115 =>
    still P (X.move (f 13)) (fun v116 =>
    still P (X.move (f 15)) (fun v117 =>
    still P (X.indexAddr 22 v116 v117) (fun v118 =>
    still P (X.load 41 v118) (fun v119 =>
    still P (X.move (f 13)) (fun v120 =>
    still P (X.move (f 15)) (fun v121 =>
    still P (X.bin .add 3 false true v121 (Value.int .i64 1)) (fun v122 =>
    still P (X.indexAddr 22 v120 v122) (fun v123 =>
    still P (X.load 41 v123) (fun v124 =>
    still P (X.callF 17 [v115, v119, v124]) (fun v125 =>
    still P (X.un .not v125) (fun v126 =>
    still P (X.move v126) (fun v127 =>
    whenq (gw v127 false) (still P (X.move v114)) (fun v128 =>
    whenq (gw v127 false) (still P (X.bin .neq 33 false true v128 (Value.int .i64 0))) (fun v129 =>
    still P (X.pick v127 (Value.bool true) v129) (fun v130 =>
    still P (X.move v130) (fun v131 =>
    whenq (gw v131 false) (still P (X.move v113)) (fun v132 =>
    whenq (gw v131 false) (still P (X.builtin .len #[22] 3 [false] [v132])) (fun v133 =>
    whenq (gw v131 false) (still P (X.move (f 13))) (fun v134 =>
    whenq (gw v131 false) (still P (X.builtin .len #[22] 3 [false] [v134])) (fun v135 =>
    whenq (gw v131 false) (still P (X.move (f 15))) (fun v136 =>
    whenq (gw v131 false) (still P (X.bin .sub 3 false false v135 v136)) (fun v137 =>
    whenq (gw v131 false) (still P (X.bin .sub 3 false true v137 (Value.int .i64 1))) (fun v138 =>
    whenq (gw v131 false) (still P (X.bin .neq 3 false false v133 v138)) (fun v139 =>
    still P (X.pick v131 (Value.bool true) v139) (fun v140 =>
    still P (X.move v140) (fun v141 =>
    whenq (gw v141 false) (still P (X.move (f 13))) (fun v142 =>
    whenq (gw v141 false) (still P (X.move (f 15))) (fun v143 =>
    whenq (gw v141 false) (still P (X.slice 22 v142 none (some v143) none)) (fun v144 =>
    whenq (gw v141 false) (still P (X.move (f 13))) (fun v145 =>
    whenq (gw v141 false) (still P (X.move (f 15))) (fun v146 =>
    whenq (gw v141 false) (still P (X.indexAddr 22 v145 v146)) (fun v147 =>
    whenq (gw v141 false) (still P (X.load 41 v147)) (fun v148 =>
    whenq (gw v141 false) (still P (X.callF 18 [v144, v148])) (fun v149 =>
    still P (X.pick v141 (Value.bool true) v149) (fun v150 =>
    br v150 (
      Q .ret (U f [(97, (f 15)), (98, v98), (99, (f 13)), (100, v100), (101, v101), (105, (f 9)), (106, (f 13)), (107, (f 15)), (108, v108), (109, v109), (110, v110), (111, (f 3)), (112, v112), (104, v112), (113, v113), (114, v114), (16, v113), (17, v114), (115, v115), (116, v116), (117, v117), (118, v118), (119, v119), (120, v120), (121, v121), (122, v122), (123, v123), (124, v124), (125, v125), (126, v126), (127, v127), (128, v128), (129, v129), (130, v130), (131, v131), (132, v132), (133, v133), (134, v134), (135, v135), (136, v136), (137, v137), (138, v138), (139, v139), (140, v140), (141, v141), (142, v142), (143, v143), (144, v144), (145, v145), (146, v146), (147, v147), (148, v148), (149, v149), (150, v150), (8, (Value.bool false))]) h
    ) (
      run P (X.bin .add 3 false true (f 15) (Value.int .i64 1)) (fun v103 h =>
      Q .normal (U f [(97, (f 15)), (98, v98), (99, (f 13)), (100, v100), (101, v101), (105, (f 9)), (106, (f 13)), (107, (f 15)), (108, v108), (109, v109), (110, v110), (111, (f 3)), (112, v112), (104, v112), (113, v113), (114, v114), (16, v113), (17, v114), (115, v115), (116, v116), (117, v117), (118, v118), (119, v119), (120, v120), (121, v121), (122, v122), (123, v123), (124, v124), (125, v125), (126, v126), (127, v127), (128, v128), (129, v129), (130, v130), (131, v131), (132, v132), (133, v133), (134, v134), (135, v135), (136, v136), (137, v137), (138, v138), (139, v139), (140, v140), (141, v141), (142, v142), (143, v143), (144, v144), (145, v145), (146, v146), (147, v147), (148, v148), (149, v149), (150, v150), (102, (f 15)), (103, v103), (15, v103)]) h
      ) h
    )
    ) h
    ) h
    ) h
    ) h
    ) h
    ) h
    ) h
    ) h
    ) h
    ) h
    ) h
    ) h
    ) h
    ) h
    ) h
    ) h
    ) h
    ) h
    ) h
    ) h
    ) h
    ) h
    ) h
    ) h
    ) h
    ) h
    ) h
    ) h
    ) h
    ) h
    ) h
    ) h
    ) h
    ) h
    ) h
    ) h
    ) h
    ) h
    ) h
    ) h
    ) h
    ) h
  ) (
    Q (.exit 0) (U f [(97, (f 15)), (98, v98), (99, (f 13)), (100, v100), (101, v101)]) h
  )
  ) h
  ) h
  ) h

def lWays_c0 (Q : Exit → F → Heap → Prop) (f : F) (h : Heap) : Prop :=
  run P (X.callF 13 []) (fun v22 h =>
  run P (X.un .not v22) (fun v23 h =>
  br v23 (
    Q .ret (U f [(8, (Value.bool false)), (22, v22), (23, v23), (8, (Value.bool false))]) h
  ) (
    run P (X.callF 14 [(f 0), (f 1)]) (fun v27 h =>
    run P (X.extract v27 0) (fun v28 h =>
    run P (X.extract v27 1) (fun v29 h =>
    run P (X.bin .neq 33 false true v29 (Value.int .i64 0)) (fun v31 h =>
    when (gw v31 false) (run P (X.move v28)) (fun v33 h =>
    when (gw v31 false) (run P (X.bin .eql 24 false true v33 (Value.pointer none))) (fun v34 h =>
    run P (X.pick v31 (Value.bool true) v34) (fun v35 h =>
    br v35 (
      run P (X.bin .eql 24 false true v28 (Value.pointer none)) (fun v37 h =>
      Q .ret (U f [(8, (Value.bool false)), (22, v22), (23, v23), (25, (f 0)), (26, (f 1)), (27, v27), (24, v27), (28, v28), (29, v29), (9, v28), (10, v29), (30, v29), (31, v31), (32, v31), (33, v33), (34, v34), (35, v35), (36, v28), (37, v37), (8, v37)]) h
      ) h
    ) (
      run P (X.buildSlice 22 1 [(0, (f 2))]) (fun v41 h =>
      run P (X.callF 24 [v28, v41]) (fun v42 h =>
      run P (X.extract v42 0) (fun v43 h =>
      run P (X.extract v42 1) (fun v44 h =>
      run P (X.callF 26 [v28, (f 2), (f 3)]) (fun v49 h =>
      run P (X.extract v49 0) (fun v50 h =>
      run P (X.extract v49 1) (fun v51 h =>
      run P (X.bin .neq 33 false true v51 (Value.int .i64 0)) (fun v53 h =>
      br v53 (
        run P (X.builtin .len #[22] 3 [false] [v50]) (fun v55 h =>
        run P (X.bin .eql 3 false true v55 (Value.int .i64 0)) (fun v56 h =>
        when (gw v56 true) (run P (X.move v44)) (fun v58 h =>
        when (gw v56 true) (run P (X.bin .neq 33 false true v58 (Value.int .i64 0))) (fun v59 h =>
        when (gw v56 true) (run P (X.move v59)) (fun v60 h =>
        when (gw v60 false) (run P (X.move v43)) (fun v61 h =>
        when (gw v60 false) (run P (X.move (f 3))) (fun v62 h =>
        when (gw v60 false) (run P (X.callF 18 [v61, v62])) (fun v63 h =>
        when (gw v60 false) (run P (X.un .not v63)) (fun v64 h =>
        when (gw v56 true) (run P (X.pick v60 (Value.bool true) v64)) (fun v65 h =>
        run P (X.pick v56 v65 (Value.bool false)) (fun v66 h =>
        Q .ret (U f [(8, (Value.bool false)), (22, v22), (23, v23), (25, (f 0)), (26, (f 1)), (27, v27), (24, v27), (28, v28), (29, v29), (9, v28), (10, v29), (30, v29), (31, v31), (32, v31), (33, v33), (34, v34), (35, v35), (39, v28), (40, (f 2)), (41, v41), (42, v42), (38, v42), (43, v43), (44, v44), (11, v43), (12, v44), (46, v28), (47, (f 2)), (48, (f 3)), (49, v49), (45, v49), (50, v50), (51, v51), (13, v50), (14, v51), (52, v51), (53, v53), (54, v50), (55, v55), (56, v56), (57, v56), (58, v58), (59, v59), (60, v60), (61, v61), (62, v62), (63, v63), (64, v64), (65, v65), (66, v66), (8, v66)]) h
        ) h
        ) h
        ) h
        ) h
        ) h
        ) h
        ) h
        ) h
        ) h
        ) h
        ) h
      ) (
        run P (X.bin .neq 33 false true v44 (Value.int .i64 0)) (fun v68 h =>
        when (gw v68 false) (run P (X.move v43)) (fun v70 h =>
        when (gw v68 false) (run P (X.move (f 3))) (fun v71 h =>
        when (gw v68 false) (run P (X.callF 18 [v70, v71])) (fun v72 h =>
        when (gw v68 false) (run P (X.un .not v72)) (fun v73 h =>
        run P (X.pick v68 (Value.bool true) v73) (fun v74 h =>
        when (gw v74 false) (run P (X.move v50)) (fun v76 h =>
        when (gw v74 false) (run P (X.builtin .len #[22] 3 [false] [v76])) (fun v77 h =>
        when (gw v74 false) (run P (X.bin .eql 3 false true v77 (Value.int .i64 0))) (fun v78 h =>
        run P (X.pick v74 (Value.bool true) v78) (fun v79 h =>
        when (gw v79 false) (run P (X.move v50)) (fun v81 h =>
        when (gw v79 false) (run P (X.indexAddr 22 v81 (Value.int .i64 0))) (fun v82 h =>
        when (gw v79 false) (run P (X.load 41 v82)) (fun v83 h =>
        when (gw v79 false) (run P (X.move (f 2))) (fun v84 h =>
        when (gw v79 false) (run P (X.bin .neq 41 false false v83 v84)) (fun v85 h =>
        run P (X.pick v79 (Value.bool true) v85) (fun v86 h =>
        when (gw v86 false) (run P (X.move v50)) (fun v88 h =>
        when (gw v86 false) (run P (X.move v50)) (fun v89 h =>
        when (gw v86 false) (run P (X.builtin .len #[22] 3 [false] [v89])) (fun v90 h =>
        when (gw v86 false) (run P (X.bin .sub 3 false true v90 (Value.int .i64 1))) (fun v91 h =>
        when (gw v86 false) (run P (X.indexAddr 22 v88 v91)) (fun v92 h =>
        when (gw v86 false) (run P (X.load 41 v92)) (fun v93 h =>
        when (gw v86 false) (run P (X.move (f 3))) (fun v94 h =>
        when (gw v86 false) (run P (X.bin .neq 41 false false v93 v94)) (fun v95 h =>
        run P (X.pick v86 (Value.bool true) v95) (fun v96 h =>
        br v96 (
          Q .ret (U f [(8, (Value.bool false)), (22, v22), (23, v23), (25, (f 0)), (26, (f 1)), (27, v27), (24, v27), (28, v28), (29, v29), (9, v28), (10, v29), (30, v29), (31, v31), (32, v31), (33, v33), (34, v34), (35, v35), (39, v28), (40, (f 2)), (41, v41), (42, v42), (38, v42), (43, v43), (44, v44), (11, v43), (12, v44), (46, v28), (47, (f 2)), (48, (f 3)), (49, v49), (45, v49), (50, v50), (51, v51), (13, v50), (14, v51), (52, v51), (53, v53), (67, v44), (68, v68), (69, v68), (70, v70), (71, v71), (72, v72), (73, v73), (74, v74), (75, v74), (76, v76), (77, v77), (78, v78), (79, v79), (80, v79), (81, v81), (82, v82), (83, v83), (84, v84), (85, v85), (86, v86), (87, v86), (88, v88), (89, v89), (90, v90), (91, v91), (92, v92), (93, v93), (94, v94), (95, v95), (96, v96), (8, (Value.bool false))]) h
        ) (
          lp lWays_L5 (inB 0 (thenQ (lWays_c1 Q) Q)) (U f [(8, (Value.bool false)), (22, v22), (23, v23), (25, (f 0)), (26, (f 1)), (27, v27), (24, v27), (28, v28), (29, v29), (9, v28), (10, v29), (30, v29), (31, v31), (32, v31), (33, v33), (34, v34), (35, v35), (39, v28), (40, (f 2)), (41, v41), (42, v42), (38, v42), (43, v43), (44, v44), (11, v43), (12, v44), (46, v28), (47, (f 2)), (48, (f 3)), (49, v49), (45, v49), (50, v50), (51, v51), (13, v50), (14, v51), (52, v51), (53, v53), (67, v44), (68, v68), (69, v68), (70, v70), (71, v71), (72, v72), (73, v73), (74, v74), (75, v74), (76, v76), (77, v77), (78, v78), (79, v79), (80, v79), (81, v81), (82, v82), (83, v83), (84, v84), (85, v85), (86, v86), (87, v86), (88, v88), (89, v89), (90, v90), (91, v91), (92, v92), (93, v93), (94, v94), (95, v95), (96, v96), (15, (Value.int .i64 0))]) h
        )
        ) h
        ) h
        ) h
        ) h
        ) h
        ) h
        ) h
        ) h
        ) h
        ) h
        ) h
        ) h
        ) h
        ) h
        ) h
        ) h
        ) h
        ) h
        ) h
        ) h
        ) h
        ) h
        ) h
        ) h
        ) h
      )
      ) h
      ) h
      ) h
      ) h
      ) h
      ) h
      ) h
      ) h
    )
    ) h
    ) h
    ) h
    ) h
    ) h
    ) h
    ) h
  )
  ) h
  ) h
theorem lWays_code : lWays_c0 = hcode P lWays_md (Try.f7.body.getD .skip) := by kernel_rfl
theorem lWays_ok {a0 a1 a2 a3 : Value} {h : Heap} {R : Value → Heap → Prop} (hh : lWays_c0 (post [.tmp 8] R) (frame0 #[a0, a1, a2, a3]) h) : HCalls P 7 #[a0, a1, a2, a3] h R :=
  hcalls_gen (md := lWays_md) follows Try.func7 lWays_code (by kernel_rfl) (by kernel_rfl) (by kernel_rfl) (by kernel_rfl) (by kernel_rfl) hh

/-- tenon/tenonlaw14.made: parameters [a0, a1]; results [.tmp 4, .tmp 5, .tmp 6]; slots [0:nodes, 1:edges, 2:nodes, 3:edges, 7:n, 8:e, 9:p, 10:f, 11:d, 12:g, 13:i, 14:i]; draws [3, 10] -/
def lmade_md : Nat → RM := fun i => if i = 3 then RM.sync [(0, 0), (1, 0), (2, 0), (3, 1), (4, 0), (5, 0), (6, 0), (7, 1), (8, 2), (9, 1), (10, 0), (11, 0), (12, 1), (13, 1)] else RM.quiet
def lmade_c2 (Q : Exit → F → Heap → Prop) (f : F) (h : Heap) : Prop :=
  Q .ret (U f [(94, (f 9)), (95, (f 11)), (4, (f 9)), (5, (f 11)), (6, (Value.bool true))]) h

def lmade_L3 (Q : Exit → F → Heap → Prop) (f : F) (h : Heap) : Prop :=
  run P (X.builtin .len #[22] 3 [false] [(f 0)]) (fun v87 h =>
  run P (X.bin .lss 3 false false (f 14) v87) (fun v88 h =>
  br v88 (
    run P (X.indexAddr 22 (f 7) (f 14)) (fun v93 h =>
    run P (X.store 41 v93 (Value.int .u64 4711)) (fun _ h =>
    run P (X.bin .add 3 false true (f 14) (Value.int .i64 1)) (fun v90 h =>
    Q .normal (U f [(85, (f 14)), (86, (f 0)), (87, v87), (88, v88), (91, (f 7)), (92, (f 14)), (93, v93), (89, (f 14)), (90, v90), (14, v90)]) h
    ) h
    ) h
    ) h
  ) (
    Q (.exit 2) (U f [(85, (f 14)), (86, (f 0)), (87, v87), (88, v88)]) h
  )
  ) h
  ) h

def lmade_c1 (Q : Exit → F → Heap → Prop) (f : F) (h : Heap) : Prop :=
  lp lmade_L3 (inB 2 (thenQ (lmade_c2 Q) Q)) (U f [(14, (Value.int .i64 0))]) h

def lmade_L4 (Q : Exit → F → Heap → Prop) (f : F) (h : Heap) : Prop :=
  run P (X.builtin .len #[23] 3 [false] [(f 1)]) (fun v68 h =>
  run P (X.bin .lss 3 false false (f 13) v68) (fun v69 h =>
  br v69 (
    still P (X.move (f 8)) (fun v72 =>
    still P (X.move (f 13)) (fun v73 =>
    still P (X.indexAddr 23 v72 v73) (fun v74 =>
    still P (X.load 57 v74) (fun v75 =>
    still P (X.move (f 1)) (fun v76 =>
    still P (X.move (f 13)) (fun v77 =>
    still P (X.indexAddr 23 v76 v77) (fun v78 =>
    still P (X.load 57 v78) (fun v79 =>
    still P (X.bin .neq 57 false false v75 v79) (fun v80 =>
    br v80 (
      Q .ret (U f [(66, (f 13)), (67, (f 1)), (68, v68), (69, v69), (72, v72), (73, v73), (74, v74), (75, v75), (76, v76), (77, v77), (78, v78), (79, v79), (80, v80), (4, (Value.pointer none)), (5, (Value.pointer none)), (6, (Value.bool false))]) h
    ) (
      run P (X.build 57 [(0, (Value.int .u64 4711))]) (fun v83 h =>
      run P (X.indexAddr 23 (f 8) (f 13)) (fun v84 h =>
      run P (X.store 57 v84 v83) (fun _ h =>
      run P (X.bin .add 3 false true (f 13) (Value.int .i64 1)) (fun v71 h =>
      Q .normal (U f [(66, (f 13)), (67, (f 1)), (68, v68), (69, v69), (72, v72), (73, v73), (74, v74), (75, v75), (76, v76), (77, v77), (78, v78), (79, v79), (80, v80), (81, (f 8)), (82, (f 13)), (83, v83), (84, v84), (70, (f 13)), (71, v71), (13, v71)]) h
      ) h
      ) h
      ) h
      ) h
    )
    ) h
    ) h
    ) h
    ) h
    ) h
    ) h
    ) h
    ) h
    ) h
  ) (
    Q (.exit 0) (U f [(66, (f 13)), (67, (f 1)), (68, v68), (69, v69)]) h
  )
  ) h
  ) h

def lmade_c0 (Q : Exit → F → Heap → Prop) (f : F) (h : Heap) : Prop :=
  run P (X.callF 30 [(f 0)]) (fun v16 h =>
  run P (X.buildSlice 23 0 []) (fun v17 h =>
  run P (X.builtin .append #[23, 23] 23 [false, false] [v17, (f 1)]) (fun v19 h =>
  run P (X.build 57 [(0, (Value.int .u64 99))]) (fun v20 h =>
  run P (X.buildSlice 23 1 [(0, v20)]) (fun v21 h =>
  run P (X.builtin .append #[23, 23] 23 [false, false] [v19, v21]) (fun v22 h =>
  tf P (X.move v16) (fun v24 =>
  tf P (X.move (f 0)) (fun v25 =>
  tf P (X.builtin .len #[22] 3 [false] [v25]) (fun v26 =>
  headq P (X.slice 22 v24 none (some v26) none) (fun v27 =>
  tf P (X.move v22) (fun v28 =>
  tf P (X.move (f 1)) (fun v29 =>
  tf P (X.builtin .len #[23] 3 [false] [v29]) (fun v30 =>
  headq P (X.slice 23 v28 none (some v30) none) (fun v31 =>
  run P (X.callF 14 [v27, v31]) (fun v32 h =>
  headq P (X.move v32) (fun v23 =>
  tf P (X.extract v23 0) (fun v33 =>
  tf P (X.extract v23 1) (fun v34 =>
  headq P (X.move v33) (fun v9 =>
  headq P (X.move v34) (fun v10 =>
  run P (X.callF 31 [(f 0), (f 1)]) (fun v38 h =>
  run P (X.extract v38 0) (fun v39 h =>
  run P (X.extract v38 1) (fun v40 h =>
  run P (X.bin .neq 33 false false v10 v40) (fun v43 h =>
  when (gw v43 false) (run P (X.move v9)) (fun v45 h =>
  when (gw v43 false) (run P (X.bin .eql 24 false true v45 (Value.pointer none))) (fun v46 h =>
  when (gw v43 false) (run P (X.move v39)) (fun v47 h =>
  when (gw v43 false) (run P (X.bin .eql 25 false true v47 (Value.pointer none))) (fun v48 h =>
  when (gw v43 false) (run P (X.bin .neq 4 false false v46 v48)) (fun v49 h =>
  run P (X.pick v43 (Value.bool true) v49) (fun v50 h =>
  when (gw v50 false) (run P (X.move v16)) (fun v52 h =>
  when (gw v50 false) (run P (X.move (f 0))) (fun v53 h =>
  when (gw v50 false) (run P (X.callF 32 [v52, v53])) (fun v54 h =>
  when (gw v50 false) (run P (X.un .not v54)) (fun v55 h =>
  run P (X.pick v50 (Value.bool true) v55) (fun v56 h =>
  when (gw v56 false) (run P (X.move v22)) (fun v58 h =>
  when (gw v56 false) (run P (X.move (f 1))) (fun v59 h =>
  when (gw v56 false) (run P (X.builtin .len #[23] 3 [false] [v59])) (fun v60 h =>
  when (gw v56 false) (run P (X.indexAddr 23 v58 v60)) (fun v61 h =>
  when (gw v56 false) (run P (X.load 57 v61)) (fun v62 h =>
  when (gw v56 false) (run P (X.build 57 [(0, (Value.int .u64 99))])) (fun v63 h =>
  when (gw v56 false) (run P (X.bin .neq 57 false false v62 v63)) (fun v64 h =>
  run P (X.pick v56 (Value.bool true) v64) (fun v65 h =>
  br v65 (
    Q .ret (U f [(4, (Value.pointer none)), (5, (Value.pointer none)), (6, (Value.bool false)), (15, (f 0)), (16, v16), (7, v16), (17, v17), (18, (f 1)), (19, v19), (20, v20), (21, v21), (22, v22), (8, v22), (24, v24), (25, v25), (26, v26), (27, v27), (28, v28), (29, v29), (30, v30), (31, v31), (32, v32), (23, v23), (33, v33), (34, v34), (9, v9), (10, v10), (36, (f 0)), (37, (f 1)), (38, v38), (35, v38), (39, v39), (40, v40), (11, v39), (12, v40), (41, v10), (42, v40), (43, v43), (44, v43), (45, v45), (46, v46), (47, v47), (48, v48), (49, v49), (50, v50), (51, v50), (52, v52), (53, v53), (54, v54), (55, v55), (56, v56), (57, v56), (58, v58), (59, v59), (60, v60), (61, v61), (62, v62), (63, v63), (64, v64), (65, v65), (4, (Value.pointer none)), (5, (Value.pointer none)), (6, (Value.bool false))]) h
  ) (
    lp lmade_L4 (inB 0 (thenQ (lmade_c1 Q) Q)) (U f [(4, (Value.pointer none)), (5, (Value.pointer none)), (6, (Value.bool false)), (15, (f 0)), (16, v16), (7, v16), (17, v17), (18, (f 1)), (19, v19), (20, v20), (21, v21), (22, v22), (8, v22), (24, v24), (25, v25), (26, v26), (27, v27), (28, v28), (29, v29), (30, v30), (31, v31), (32, v32), (23, v23), (33, v33), (34, v34), (9, v9), (10, v10), (36, (f 0)), (37, (f 1)), (38, v38), (35, v38), (39, v39), (40, v40), (11, v39), (12, v40), (41, v10), (42, v40), (43, v43), (44, v43), (45, v45), (46, v46), (47, v47), (48, v48), (49, v49), (50, v50), (51, v50), (52, v52), (53, v53), (54, v54), (55, v55), (56, v56), (57, v56), (58, v58), (59, v59), (60, v60), (61, v61), (62, v62), (63, v63), (64, v64), (65, v65), (13, (Value.int .i64 0))]) h
  )
  ) h
  ) h
  ) h
  ) h
  ) h
  ) h
  ) h
  ) h
  ) h
  ) h
  ) h
  ) h
  ) h
  ) h
  ) h
  ) h
  ) h
  ) h
  ) h
  ) h
  ) h
  ) h
  ) h
  ) h
  ) h
  )
  )
  ) h
  ) h
  ) h
  )
  )
  )
  ) h
  )
  )
  )
  ) h
  ) h
  ) h
  ) h
  ) h
  ) h
theorem lmade_code : lmade_c0 = hcode P lmade_md (Try.f9.body.getD .skip) := by kernel_rfl
theorem lmade_ok {a0 a1 : Value} {h : Heap} {R : Value → Heap → Prop} (hh : lmade_c0 (post [.tmp 4, .tmp 5, .tmp 6] R) (frame0 #[a0, a1]) h) : HCalls P 9 #[a0, a1] h R :=
  hcalls_gen (md := lmade_md) follows Try.func9 lmade_code (by kernel_rfl) (by kernel_rfl) (by kernel_rfl) (by kernel_rfl) (by kernel_rfl) hh

/-- tenon/tenonlaw14.shapes: parameters [a0, a1]; results [.tmp 4]; slots [0:p, 1:d, 2:p, 3:d, 5:l, 6:want, 7:i, 8:a, 9:e, 10:b, 11:f, 12:x, 13:is, 14:y, 15:was]; draws [7, 13] -/
def lshapes_md : Nat → RM := fun i => if i = 7 then RM.tail 8 else if i = 13 then RM.held [(0, true), (2, true), (3, true), (4, true), (5, true), (1, false), (6, false), (7, true), (8, true), (10, true), (11, true), (12, true), (13, true), (9, false), (14, false), (15, true), (16, true), (17, true), (18, true), (19, true), (20, true), (21, true), (22, true), (23, true), (24, false), (25, true), (26, true), (27, true), (28, true), (29, true), (30, true), (31, true), (32, true), (33, true), (34, false), (35, true), (36, true)] else RM.quiet
def lshapes_c1 (Q : Exit → F → Heap → Prop) (f : F) (h : Heap) : Prop :=
  run P (X.callF 19 [(f 0)]) (fun v43 h =>
  run P (X.extract v43 0) (fun v44 h =>
  run P (X.extract v43 1) (fun v45 h =>
  run P (X.callF 35 [(f 1)]) (fun v48 h =>
  run P (X.extract v48 0) (fun v49 h =>
  run P (X.extract v48 1) (fun v50 h =>
  run P (X.callF 20 [(f 0)]) (fun v53 h =>
  run P (X.extract v53 0) (fun v54 h =>
  run P (X.extract v53 1) (fun v55 h =>
  run P (X.callF 36 [(f 1)]) (fun v58 h =>
  run P (X.extract v58 0) (fun v59 h =>
  run P (X.extract v58 1) (fun v60 h =>
  ∃ St : Heap → Prop,
  tk P St (X.move (f 0)) (fun v61 =>
  tk P St (X.move (f 1)) (fun v63 =>
  tk P St (X.nilCheck v63) (fun v64 =>
  tk P St (X.fieldAddr 68 v64 0) (fun v65 =>
  tk P St (X.load 22 v65) (fun v66 =>
  run P (X.callF 37 [v61]) (fun v62 h => St h ∧ (
  run P (X.callF 16 [v62, v66]) (fun v67 h => St h ∧ (
  tk P St (X.move v67) (fun v68 =>
  whent (gw v68 true) (tk P St (X.move (f 0))) (fun v69 =>
  whent (gw v68 true) (tk P St (X.move (f 1))) (fun v71 =>
  whent (gw v68 true) (tk P St (X.nilCheck v71)) (fun v72 =>
  whent (gw v68 true) (tk P St (X.fieldAddr 68 v72 1)) (fun v73 =>
  whent (gw v68 true) (tk P St (X.load 23 v73)) (fun v74 =>
  when (gw v68 true) (run P (X.callF 25 [v69])) (fun v70 h => St h ∧ (
  when (gw v68 true) (run P (X.callF 38 [v70, v74])) (fun v75 h => St h ∧ (
  tk P St (X.pick v68 v75 (Value.bool false)) (fun v76 =>
  tk P St (X.move v76) (fun v77 =>
  whent (gw v77 true) (tk P St (X.move v45)) (fun v78 =>
  whent (gw v77 true) (tk P St (X.move v50)) (fun v79 =>
  whent (gw v77 true) (tk P St (X.bin .eql 33 false false v78 v79)) (fun v80 =>
  tk P St (X.pick v77 v80 (Value.bool false)) (fun v81 =>
  tk P St (X.move v81) (fun v82 =>
  whent (gw v82 true) (tk P St (X.move v44)) (fun v83 =>
  whent (gw v82 true) (tk P St (X.move v49)) (fun v84 =>
  when (gw v82 true) (run P (X.callF 16 [v83, v84])) (fun v85 h => St h ∧ (
  tk P St (X.pick v82 v85 (Value.bool false)) (fun v86 =>
  tk P St (X.move v86) (fun v87 =>
  whent (gw v87 true) (tk P St (X.move v55)) (fun v88 =>
  whent (gw v87 true) (tk P St (X.move v60)) (fun v89 =>
  whent (gw v87 true) (tk P St (X.bin .eql 4 false false v88 v89)) (fun v90 =>
  tk P St (X.pick v87 v90 (Value.bool false)) (fun v91 =>
  tk P St (X.move v91) (fun v92 =>
  whent (gw v92 true) (tk P St (X.move v54)) (fun v93 =>
  whent (gw v92 true) (tk P St (X.move v59)) (fun v94 =>
  when (gw v92 true) (run P (X.callF 16 [v93, v94])) (fun v95 h => St h ∧ (
  tk P St (X.pick v92 v95 (Value.bool false)) (fun v96 =>
  tk P St (X.move v96) (fun v4 =>
  Q .ret (U f [(42, (f 0)), (43, v43), (41, v43), (44, v44), (45, v45), (8, v44), (9, v45), (47, (f 1)), (48, v48), (46, v48), (49, v49), (50, v50), (10, v49), (11, v50), (52, (f 0)), (53, v53), (51, v53), (54, v54), (55, v55), (12, v54), (13, v55), (57, (f 1)), (58, v58), (56, v58), (59, v59), (60, v60), (14, v59), (15, v60), (61, v61), (63, v63), (64, v64), (65, v65), (66, v66), (62, v62), (67, v67), (68, v68), (69, v69), (71, v71), (72, v72), (73, v73), (74, v74), (70, v70), (75, v75), (76, v76), (77, v77), (78, v78), (79, v79), (80, v80), (81, v81), (82, v82), (83, v83), (84, v84), (85, v85), (86, v86), (87, v87), (88, v88), (89, v89), (90, v90), (91, v91), (92, v92), (93, v93), (94, v94), (95, v95), (96, v96), (4, v4)]) h
  ) h
  ) h
  )) h
  ) St h
  ) St h
  ) h
  ) h
  ) St h
  ) St h
  ) St h
  ) h
  ) h
  )) h
  ) St h
  ) St h
  ) h
  ) h
  ) St h
  ) St h
  ) St h
  ) h
  ) h
  )) h
  )) h
  ) St h
  ) St h
  ) St h
  ) St h
  ) St h
  ) h
  )) h
  )) h
  ) h
  ) h
  ) h
  ) h
  ) h
  ) h
  ) h
  ) h
  ) h
  ) h
  ) h
  ) h
  ) h
  ) h
  ) h
  ) h
  ) h

def lshapes_L2 (Q : Exit → F → Heap → Prop) (f : F) (h : Heap) : Prop :=
  run P (X.builtin .len #[36] 3 [false] [(f 5)]) (fun v27 h =>
  run P (X.bin .lss 3 false false (f 7) v27) (fun v28 h =>
  br v28 (
    headq P (X.move (f 5)) (fun v31 =>
    headq P (X.move (f 7)) (fun v32 =>
    headq P (X.indexAddr 36 v31 v32) (fun v33 =>
    headq P (X.load 22 v33) (fun v34 =>
    headq P (X.move (f 6)) (fun v35 =>
    headq P (X.move (f 7)) (fun v36 =>
    headq P (X.indexAddr 36 v35 v36) (fun v37 =>
    headq P (X.load 22 v37) (fun v38 =>
    run P (X.callF 16 [v34, v38]) (fun v39 h =>
    run P (X.un .not v39) (fun v40 h =>
    br v40 (
      Q .ret (U f [(25, (f 7)), (26, (f 5)), (27, v27), (28, v28), (31, v31), (32, v32), (33, v33), (34, v34), (35, v35), (36, v36), (37, v37), (38, v38), (39, v39), (40, v40), (4, (Value.bool false))]) h
    ) (
      run P (X.bin .add 3 false true (f 7) (Value.int .i64 1)) (fun v30 h =>
      Q .normal (U f [(25, (f 7)), (26, (f 5)), (27, v27), (28, v28), (31, v31), (32, v32), (33, v33), (34, v34), (35, v35), (36, v36), (37, v37), (38, v38), (39, v39), (40, v40), (29, (f 7)), (30, v30), (7, v30)]) h
      ) h
    )
    ) h
    ) h
    ) h
    ) h
    ) h
    ) h
    ) h
    ) h
    ) h
    ) h
  ) (
    Q (.exit 0) (U f [(25, (f 7)), (26, (f 5)), (27, v27), (28, v28)]) h
  )
  ) h
  ) h

def lshapes_c0 (Q : Exit → F → Heap → Prop) (f : F) (h : Heap) : Prop :=
  run P (X.callF 15 [(f 0)]) (fun v17 h =>
  run P (X.callF 34 [(f 1)]) (fun v19 h =>
  run P (X.builtin .len #[36] 3 [false] [v17]) (fun v21 h =>
  run P (X.builtin .len #[36] 3 [false] [v19]) (fun v23 h =>
  run P (X.bin .neq 3 false false v21 v23) (fun v24 h =>
  br v24 (
    Q .ret (U f [(4, (Value.bool false)), (16, (f 0)), (17, v17), (18, (f 1)), (19, v19), (5, v17), (6, v19), (20, v17), (21, v21), (22, v19), (23, v23), (24, v24), (4, (Value.bool false))]) h
  ) (
    lp lshapes_L2 (inB 0 (thenQ (lshapes_c1 Q) Q)) (U f [(4, (Value.bool false)), (16, (f 0)), (17, v17), (18, (f 1)), (19, v19), (5, v17), (6, v19), (20, v17), (21, v21), (22, v19), (23, v23), (24, v24), (7, (Value.int .i64 0))]) h
  )
  ) h
  ) h
  ) h
  ) h
  ) h
theorem lshapes_code : lshapes_c0 = hcode P lshapes_md (Try.f11.body.getD .skip) := by kernel_rfl
theorem lshapes_ok {a0 a1 : Value} {h : Heap} {R : Value → Heap → Prop} (hh : lshapes_c0 (post [.tmp 4] R) (frame0 #[a0, a1]) h) : HCalls P 11 #[a0, a1] h R :=
  hcalls_gen (md := lshapes_md) follows Try.func11 lshapes_code (by kernel_rfl) (by kernel_rfl) (by kernel_rfl) (by kernel_rfl) (by kernel_rfl) hh

/-- tenon/tenonlaw14.lives: parameters []; results [.tmp 0]; slots [1:g, 2:e, 3:l, 4:f, 5:k, 6:is, 7:h, 8:r, 9:ring, 10:w, 11:i, 12:_, 13:j]; draws [] -/
def lives_md : Nat → RM := fun _ => RM.quiet
def lives_c0 (Q : Exit → F → Heap → Prop) (f : F) (h : Heap) : Prop :=
  run P (X.buildSlice 22 4 [(0, (Value.int .u64 4)), (1, (Value.int .u64 2)), (2, (Value.int .u64 3)), (3, (Value.int .u64 1))]) (fun v15 h =>
  run P (X.build 57 [(0, (Value.int .u64 1)), (1, (Value.int .u64 2))]) (fun v16 h =>
  run P (X.build 57 [(0, (Value.int .u64 2)), (1, (Value.int .u64 3))]) (fun v17 h =>
  run P (X.build 57 [(0, (Value.int .u64 3)), (1, (Value.int .u64 2))]) (fun v18 h =>
  run P (X.build 57 [(0, (Value.int .u64 1)), (1, (Value.int .u64 4))]) (fun v19 h =>
  run P (X.buildSlice 23 4 [(0, v16), (1, v17), (2, v18), (3, v19)]) (fun v20 h =>
  run P (X.callF 14 [v15, v20]) (fun v21 h =>
  run P (X.extract v21 0) (fun v22 h =>
  run P (X.extract v21 1) (fun v23 h =>
  run P (X.bin .neq 33 false true v23 (Value.int .i64 0)) (fun v25 h =>
  when (gw v25 false) (run P (X.move v22)) (fun v27 h =>
  when (gw v25 false) (run P (X.bin .eql 24 false true v27 (Value.pointer none))) (fun v28 h =>
  run P (X.pick v25 (Value.bool true) v28) (fun v29 h =>
  br v29 (
    Q .ret (U f [(0, (Value.bool false)), (15, v15), (16, v16), (17, v17), (18, v18), (19, v19), (20, v20), (21, v21), (14, v21), (22, v22), (23, v23), (1, v22), (2, v23), (24, v23), (25, v25), (26, v25), (27, v27), (28, v28), (29, v29), (0, (Value.bool false))]) h
  ) (
    run P (X.buildSlice 22 1 [(0, (Value.int .u64 1))]) (fun v32 h =>
    run P (X.callF 21 [v22, v32, (Value.int .u64 2)]) (fun v33 h =>
    run P (X.extract v33 0) (fun v34 h =>
    run P (X.extract v33 1) (fun v35 h =>
    run P (X.buildSlice 22 1 [(0, (Value.int .u64 1))]) (fun v38 h =>
    run P (X.callF 22 [v22, v38, (Value.int .u64 3)]) (fun v39 h =>
    run P (X.extract v39 0) (fun v40 h =>
    run P (X.extract v39 1) (fun v41 h =>
    run P (X.extract v39 2) (fun v42 h =>
    run P (X.callF 20 [v22]) (fun v45 h =>
    run P (X.extract v45 0) (fun v46 h =>
    run P (X.extract v45 1) (fun v47 h =>
    run P (X.callF 26 [v22, (Value.int .u64 1), (Value.int .u64 3)]) (fun v50 h =>
    run P (X.extract v50 0) (fun v51 h =>
    run P (X.extract v50 1) (fun v52 h =>
    run P (X.callF 19 [v22]) (fun v55 h =>
    run P (X.extract v55 0) (fun v56 h =>
    run P (X.extract v55 1) (fun v57 h =>
    run P (X.bin .eql 33 false true v35 (Value.int .i64 0)) (fun v59 h =>
    when (gw v59 true) (run P (X.move v34)) (fun v61 h =>
    when (gw v59 true) (run P (X.builtin .len #[22] 3 [false] [v61])) (fun v62 h =>
    when (gw v59 true) (run P (X.bin .eql 3 false true v62 (Value.int .i64 2))) (fun v63 h =>
    run P (X.pick v59 v63 (Value.bool false)) (fun v64 h =>
    when (gw v64 true) (run P (X.move v34)) (fun v66 h =>
    when (gw v64 true) (run P (X.indexAddr 22 v66 (Value.int .i64 0))) (fun v67 h =>
    when (gw v64 true) (run P (X.load 41 v67)) (fun v68 h =>
    when (gw v64 true) (run P (X.bin .eql 41 false true v68 (Value.int .u64 2))) (fun v69 h =>
    run P (X.pick v64 v69 (Value.bool false)) (fun v70 h =>
    when (gw v70 true) (run P (X.move v34)) (fun v72 h =>
    when (gw v70 true) (run P (X.indexAddr 22 v72 (Value.int .i64 1))) (fun v73 h =>
    when (gw v70 true) (run P (X.load 41 v73)) (fun v74 h =>
    when (gw v70 true) (run P (X.bin .eql 41 false true v74 (Value.int .u64 3))) (fun v75 h =>
    run P (X.pick v70 v75 (Value.bool false)) (fun v76 h =>
    when (gw v76 true) (run P (X.move v40)) (fun v78 h =>
    when (gw v76 true) (run P (X.bin .eql 41 false true v78 (Value.int .u64 2))) (fun v79 h =>
    run P (X.pick v76 v79 (Value.bool false)) (fun v80 h =>
    when (gw v80 true) (run P (X.move v41)) (fun v82 h =>
    run P (X.pick v80 v82 (Value.bool false)) (fun v83 h =>
    when (gw v83 true) (run P (X.move v42)) (fun v85 h =>
    when (gw v83 true) (run P (X.bin .eql 33 false true v85 (Value.int .i64 0))) (fun v86 h =>
    run P (X.pick v83 v86 (Value.bool false)) (fun v87 h =>
    when (gw v87 true) (run P (X.move v47)) (fun v89 h =>
    run P (X.pick v87 v89 (Value.bool false)) (fun v90 h =>
    when (gw v90 true) (run P (X.move v46)) (fun v92 h =>
    when (gw v90 true) (run P (X.builtin .len #[22] 3 [false] [v92])) (fun v93 h =>
    when (gw v90 true) (run P (X.bin .eql 3 false true v93 (Value.int .i64 2))) (fun v94 h =>
    run P (X.pick v90 v94 (Value.bool false)) (fun v95 h =>
    when (gw v95 true) (run P (X.move v46)) (fun v97 h =>
    when (gw v95 true) (run P (X.indexAddr 22 v97 (Value.int .i64 0))) (fun v98 h =>
    when (gw v95 true) (run P (X.load 41 v98)) (fun v99 h =>
    when (gw v95 true) (run P (X.bin .eql 41 false true v99 (Value.int .u64 2))) (fun v100 h =>
    run P (X.pick v95 v100 (Value.bool false)) (fun v101 h =>
    when (gw v101 true) (run P (X.move v52)) (fun v103 h =>
    when (gw v101 true) (run P (X.bin .eql 33 false true v103 (Value.int .i64 0))) (fun v104 h =>
    run P (X.pick v101 v104 (Value.bool false)) (fun v105 h =>
    when (gw v105 true) (run P (X.move v51)) (fun v107 h =>
    when (gw v105 true) (run P (X.builtin .len #[22] 3 [false] [v107])) (fun v108 h =>
    when (gw v105 true) (run P (X.bin .eql 3 false true v108 (Value.int .i64 3))) (fun v109 h =>
    run P (X.pick v105 v109 (Value.bool false)) (fun v110 h =>
    when (gw v110 true) (run P (X.move v51)) (fun v112 h =>
    when (gw v110 true) (run P (X.indexAddr 22 v112 (Value.int .i64 1))) (fun v113 h =>
    when (gw v110 true) (run P (X.load 41 v113)) (fun v114 h =>
    when (gw v110 true) (run P (X.bin .eql 41 false true v114 (Value.int .u64 2))) (fun v115 h =>
    run P (X.pick v110 v115 (Value.bool false)) (fun v116 h =>
    when (gw v116 true) (run P (X.move v57)) (fun v118 h =>
    when (gw v116 true) (run P (X.bin .eql 33 false true v118 (Value.int .i64 141))) (fun v119 h =>
    run P (X.pick v116 v119 (Value.bool false)) (fun v120 h =>
    when (gw v120 true) (run P (X.move v22)) (fun v122 h =>
    when (gw v120 true) (run P (X.callF 15 [v122])) (fun v123 h =>
    when (gw v120 true) (run P (X.builtin .len #[36] 3 [false] [v123])) (fun v124 h =>
    when (gw v120 true) (run P (X.bin .eql 3 false true v124 (Value.int .i64 3))) (fun v125 h =>
    run P (X.pick v120 v125 (Value.bool false)) (fun v126 h =>
    Q .ret (U f [(0, (Value.bool false)), (15, v15), (16, v16), (17, v17), (18, v18), (19, v19), (20, v20), (21, v21), (14, v21), (22, v22), (23, v23), (1, v22), (2, v23), (24, v23), (25, v25), (26, v25), (27, v27), (28, v28), (29, v29), (31, v22), (32, v32), (33, v33), (30, v33), (34, v34), (35, v35), (3, v34), (4, v35), (37, v22), (38, v38), (39, v39), (36, v39), (40, v40), (41, v41), (42, v42), (5, v40), (6, v41), (7, v42), (44, v22), (45, v45), (43, v45), (46, v46), (47, v47), (8, v46), (9, v47), (49, v22), (50, v50), (48, v50), (51, v51), (52, v52), (10, v51), (11, v52), (54, v22), (55, v55), (53, v55), (56, v56), (57, v57), (12, v56), (13, v57), (58, v35), (59, v59), (60, v59), (61, v61), (62, v62), (63, v63), (64, v64), (65, v64), (66, v66), (67, v67), (68, v68), (69, v69), (70, v70), (71, v70), (72, v72), (73, v73), (74, v74), (75, v75), (76, v76), (77, v76), (78, v78), (79, v79), (80, v80), (81, v80), (82, v82), (83, v83), (84, v83), (85, v85), (86, v86), (87, v87), (88, v87), (89, v89), (90, v90), (91, v90), (92, v92), (93, v93), (94, v94), (95, v95), (96, v95), (97, v97), (98, v98), (99, v99), (100, v100), (101, v101), (102, v101), (103, v103), (104, v104), (105, v105), (106, v105), (107, v107), (108, v108), (109, v109), (110, v110), (111, v110), (112, v112), (113, v113), (114, v114), (115, v115), (116, v116), (117, v116), (118, v118), (119, v119), (120, v120), (121, v120), (122, v122), (123, v123), (124, v124), (125, v125), (126, v126), (0, v126)]) h
    ) h
    ) h
    ) h
    ) h
    ) h
    ) h
    ) h
    ) h
    ) h
    ) h
    ) h
    ) h
    ) h
    ) h
    ) h
    ) h
    ) h
    ) h
    ) h
    ) h
    ) h
    ) h
    ) h
    ) h
    ) h
    ) h
    ) h
    ) h
    ) h
    ) h
    ) h
    ) h
    ) h
    ) h
    ) h
    ) h
    ) h
    ) h
    ) h
    ) h
    ) h
    ) h
    ) h
    ) h
    ) h
    ) h
    ) h
    ) h
    ) h
    ) h
    ) h
    ) h
    ) h
    ) h
    ) h
    ) h
    ) h
    ) h
    ) h
    ) h
    ) h
    ) h
    ) h
    ) h
    ) h
    ) h
    ) h
    ) h
    ) h
    ) h
    ) h
    ) h
  )
  ) h
  ) h
  ) h
  ) h
  ) h
  ) h
  ) h
  ) h
  ) h
  ) h
  ) h
  ) h
  ) h
theorem lives_code : lives_c0 = hcode P lives_md (Try.f13.body.getD .skip) := by kernel_rfl
theorem lives_ok {h : Heap} {R : Value → Heap → Prop} (hh : lives_c0 (post [.tmp 0] R) (frame0 #[]) h) : HCalls P 13 #[] h R :=
  hcalls_gen (md := lives_md) follows Try.func13 lives_code (by kernel_rfl) (by kernel_rfl) (by kernel_rfl) (by kernel_rfl) (by kernel_rfl) hh

/-- tenon/tenonlaw14.same: parameters [a0, a1]; results [.tmp 4]; slots [0:l, 1:want, 2:l, 3:want, 5:i, 6:i]; draws [6] -/
def same_md : Nat → RM := fun _ => RM.quiet
def same_c2 (Q : Exit → F → Heap → Prop) (f : F) (h : Heap) : Prop :=
  run P (X.buildSlice 22 1 [(0, (Value.int .u64 4712))]) (fun v37 h =>
  run P (X.builtin .append #[22, 22] 22 [false, false] [(f 0), v37]) (fun v38 h =>
  Q .ret (U f [(36, (f 0)), (37, v37), (38, v38), (4, (Value.bool true))]) h
  ) h
  ) h

def same_L3 (Q : Exit → F → Heap → Prop) (f : F) (h : Heap) : Prop :=
  run P (X.builtin .len #[22] 3 [false] [(f 0)]) (fun v29 h =>
  run P (X.bin .lss 3 false false (f 6) v29) (fun v30 h =>
  br v30 (
    run P (X.indexAddr 22 (f 0) (f 6)) (fun v35 h =>
    run P (X.store 41 v35 (Value.int .u64 4711)) (fun _ h =>
    run P (X.bin .add 3 false true (f 6) (Value.int .i64 1)) (fun v32 h =>
    Q .normal (U f [(27, (f 6)), (28, (f 0)), (29, v29), (30, v30), (33, (f 0)), (34, (f 6)), (35, v35), (31, (f 6)), (32, v32), (6, v32)]) h
    ) h
    ) h
    ) h
  ) (
    Q (.exit 2) (U f [(27, (f 6)), (28, (f 0)), (29, v29), (30, v30)]) h
  )
  ) h
  ) h

def same_c1 (Q : Exit → F → Heap → Prop) (f : F) (h : Heap) : Prop :=
  lp same_L3 (inB 2 (thenQ (same_c2 Q) Q)) (U f [(6, (Value.int .i64 0))]) h

def same_L4 (Q : Exit → F → Heap → Prop) (f : F) (h : Heap) : Prop :=
  run P (X.builtin .len #[22] 3 [false] [(f 0)]) (fun v14 h =>
  run P (X.bin .lss 3 false false (f 5) v14) (fun v15 h =>
  br v15 (
    still P (X.move (f 0)) (fun v18 =>
    still P (X.move (f 5)) (fun v19 =>
    still P (X.indexAddr 22 v18 v19) (fun v20 =>
    still P (X.load 41 v20) (fun v21 =>
    still P (X.move (f 1)) (fun v22 =>
    still P (X.move (f 5)) (fun v23 =>
    still P (X.indexAddr 22 v22 v23) (fun v24 =>
    still P (X.load 41 v24) (fun v25 =>
    still P (X.bin .neq 41 false false v21 v25) (fun v26 =>
    br v26 (
      Q .ret (U f [(12, (f 5)), (13, (f 0)), (14, v14), (15, v15), (18, v18), (19, v19), (20, v20), (21, v21), (22, v22), (23, v23), (24, v24), (25, v25), (26, v26), (4, (Value.bool false))]) h
    ) (
      run P (X.bin .add 3 false true (f 5) (Value.int .i64 1)) (fun v17 h =>
      Q .normal (U f [(12, (f 5)), (13, (f 0)), (14, v14), (15, v15), (18, v18), (19, v19), (20, v20), (21, v21), (22, v22), (23, v23), (24, v24), (25, v25), (26, v26), (16, (f 5)), (17, v17), (5, v17)]) h
      ) h
    )
    ) h
    ) h
    ) h
    ) h
    ) h
    ) h
    ) h
    ) h
    ) h
  ) (
    Q (.exit 0) (U f [(12, (f 5)), (13, (f 0)), (14, v14), (15, v15)]) h
  )
  ) h
  ) h

def same_c0 (Q : Exit → F → Heap → Prop) (f : F) (h : Heap) : Prop :=
  run P (X.builtin .len #[22] 3 [false] [(f 0)]) (fun v8 h =>
  run P (X.builtin .len #[22] 3 [false] [(f 1)]) (fun v10 h =>
  run P (X.bin .neq 3 false false v8 v10) (fun v11 h =>
  br v11 (
    Q .ret (U f [(4, (Value.bool false)), (7, (f 0)), (8, v8), (9, (f 1)), (10, v10), (11, v11), (4, (Value.bool false))]) h
  ) (
    lp same_L4 (inB 0 (thenQ (same_c1 Q) Q)) (U f [(4, (Value.bool false)), (7, (f 0)), (8, v8), (9, (f 1)), (10, v10), (11, v11), (5, (Value.int .i64 0))]) h
  )
  ) h
  ) h
  ) h
theorem same_code : same_c0 = hcode P same_md (Try.f16.body.getD .skip) := by kernel_rfl
theorem same_ok {a0 a1 : Value} {h : Heap} {R : Value → Heap → Prop} (hh : same_c0 (post [.tmp 4] R) (frame0 #[a0, a1]) h) : HCalls P 16 #[a0, a1] h R :=
  hcalls_gen (md := same_md) follows Try.func16 same_code (by kernel_rfl) (by kernel_rfl) (by kernel_rfl) (by kernel_rfl) (by kernel_rfl) hh

/-- tenon/tenonlaw14.edge: parameters [a0, a1, a2]; results [.tmp 6]; slots [0:l, 1:a, 2:b, 3:l, 4:a, 5:b, 7:i]; draws [] -/
def edge_md : Nat → RM := fun _ => RM.quiet
def edge_c1 (Q : Exit → F → Heap → Prop) (f : F) (h : Heap) : Prop :=
  Q .ret (U f [(6, (Value.bool false))]) h

def edge_L2 (Q : Exit → F → Heap → Prop) (f : F) (h : Heap) : Prop :=
  run P (X.builtin .len #[23] 3 [false] [(f 0)]) (fun v10 h =>
  run P (X.bin .lss 3 false false (f 7) v10) (fun v11 h =>
  br v11 (
    run P (X.indexAddr 23 (f 0) (f 7)) (fun v16 h =>
    run P (X.fieldAddr 57 v16 0) (fun v17 h =>
    run P (X.load 41 v17) (fun v18 h =>
    run P (X.bin .eql 41 false false v18 (f 1)) (fun v20 h =>
    when (gw v20 true) (run P (X.move (f 0))) (fun v22 h =>
    when (gw v20 true) (run P (X.move (f 7))) (fun v23 h =>
    when (gw v20 true) (run P (X.indexAddr 23 v22 v23)) (fun v24 h =>
    when (gw v20 true) (run P (X.fieldAddr 57 v24 1)) (fun v25 h =>
    when (gw v20 true) (run P (X.load 41 v25)) (fun v26 h =>
    when (gw v20 true) (run P (X.move (f 2))) (fun v27 h =>
    when (gw v20 true) (run P (X.bin .eql 41 false false v26 v27)) (fun v28 h =>
    run P (X.pick v20 v28 (Value.bool false)) (fun v29 h =>
    br v29 (
      Q .ret (U f [(8, (f 7)), (9, (f 0)), (10, v10), (11, v11), (14, (f 0)), (15, (f 7)), (16, v16), (17, v17), (18, v18), (19, (f 1)), (20, v20), (21, v20), (22, v22), (23, v23), (24, v24), (25, v25), (26, v26), (27, v27), (28, v28), (29, v29), (6, (Value.bool true))]) h
    ) (
      run P (X.bin .add 3 false true (f 7) (Value.int .i64 1)) (fun v13 h =>
      Q .normal (U f [(8, (f 7)), (9, (f 0)), (10, v10), (11, v11), (14, (f 0)), (15, (f 7)), (16, v16), (17, v17), (18, v18), (19, (f 1)), (20, v20), (21, v20), (22, v22), (23, v23), (24, v24), (25, v25), (26, v26), (27, v27), (28, v28), (29, v29), (12, (f 7)), (13, v13), (7, v13)]) h
      ) h
    )
    ) h
    ) h
    ) h
    ) h
    ) h
    ) h
    ) h
    ) h
    ) h
    ) h
    ) h
    ) h
  ) (
    Q (.exit 0) (U f [(8, (f 7)), (9, (f 0)), (10, v10), (11, v11)]) h
  )
  ) h
  ) h

def edge_c0 (Q : Exit → F → Heap → Prop) (f : F) (h : Heap) : Prop :=
  lp edge_L2 (inB 0 (thenQ (edge_c1 Q) Q)) (U f [(6, (Value.bool false)), (7, (Value.int .i64 0))]) h
theorem edge_code : edge_c0 = hcode P edge_md (Try.f17.body.getD .skip) := by kernel_rfl
theorem edge_ok {a0 a1 a2 : Value} {h : Heap} {R : Value → Heap → Prop} (hh : edge_c0 (post [.tmp 6] R) (frame0 #[a0, a1, a2]) h) : HCalls P 17 #[a0, a1, a2] h R :=
  hcalls_gen (md := edge_md) follows Try.func17 edge_code (by kernel_rfl) (by kernel_rfl) (by kernel_rfl) (by kernel_rfl) (by kernel_rfl) hh

/-- tenon/tenonref14.Has: parameters [a0, a1]; results [.tmp 4]; slots [0:l, 1:n, 2:l, 3:n, 5:i]; draws [] -/
def has_md : Nat → RM := fun _ => RM.quiet
def has_c1 (Q : Exit → F → Heap → Prop) (f : F) (h : Heap) : Prop :=
  Q .ret (U f [(4, (Value.bool false))]) h

def has_L2 (Q : Exit → F → Heap → Prop) (f : F) (h : Heap) : Prop :=
  run P (X.builtin .len #[22] 3 [false] [(f 0)]) (fun v8 h =>
  run P (X.bin .lss 3 false false (f 5) v8) (fun v9 h =>
  br v9 (
    run P (X.indexAddr 22 (f 0) (f 5)) (fun v14 h =>
    run P (X.load 41 v14) (fun v15 h =>
    run P (X.bin .eql 41 false false v15 (f 1)) (fun v17 h =>
    br v17 (
      Q .ret (U f [(6, (f 5)), (7, (f 0)), (8, v8), (9, v9), (12, (f 0)), (13, (f 5)), (14, v14), (15, v15), (16, (f 1)), (17, v17), (4, (Value.bool true))]) h
    ) (
      run P (X.bin .add 3 false true (f 5) (Value.int .i64 1)) (fun v11 h =>
      Q .normal (U f [(6, (f 5)), (7, (f 0)), (8, v8), (9, v9), (12, (f 0)), (13, (f 5)), (14, v14), (15, v15), (16, (f 1)), (17, v17), (10, (f 5)), (11, v11), (5, v11)]) h
      ) h
    )
    ) h
    ) h
    ) h
  ) (
    Q (.exit 0) (U f [(6, (f 5)), (7, (f 0)), (8, v8), (9, v9)]) h
  )
  ) h
  ) h

def has_c0 (Q : Exit → F → Heap → Prop) (f : F) (h : Heap) : Prop :=
  lp has_L2 (inB 0 (thenQ (has_c1 Q) Q)) (U f [(4, (Value.bool false)), (5, (Value.int .i64 0))]) h
theorem has_code : has_c0 = hcode P has_md (Try.f18.body.getD .skip) := by kernel_rfl
theorem has_ok {a0 a1 : Value} {h : Heap} {R : Value → Heap → Prop} (hh : has_c0 (post [.tmp 4] R) (frame0 #[a0, a1]) h) : HCalls P 18 #[a0, a1] h R :=
  hcalls_gen (md := has_md) follows Try.func18 has_code (by kernel_rfl) (by kernel_rfl) (by kernel_rfl) (by kernel_rfl) (by kernel_rfl) hh

/-- tenon/tenonlaw14.without: parameters [a0, a1, a2]; results [.tmp 6, .tmp 7]; slots [0:nodes, 1:edges, 2:n, 3:nodes, 4:edges, 5:n, 8:a, 9:b, 10:i, 11:i]; draws [] -/
def without_md : Nat → RM := fun _ => RM.quiet
def without_c2 (Q : Exit → F → Heap → Prop) (f : F) (h : Heap) : Prop :=
  Q .ret (U f [(60, (f 8)), (61, (f 9)), (6, (f 8)), (7, (f 9))]) h

def without_c4 (Q : Exit → F → Heap → Prop) (f : F) (h : Heap) : Prop :=
  run P (X.bin .add 3 false true (f 11) (Value.int .i64 1)) (fun v36 h =>
  Q .normal (U f [(35, (f 11)), (36, v36), (11, v36)]) h
  ) h

def without_L3 (Q : Exit → F → Heap → Prop) (f : F) (h : Heap) : Prop :=
  run P (X.builtin .len #[23] 3 [false] [(f 1)]) (fun v33 h =>
  run P (X.bin .lss 3 false false (f 11) v33) (fun v34 h =>
  br v34 (
    run P (X.indexAddr 23 (f 1) (f 11)) (fun v39 h =>
    run P (X.fieldAddr 57 v39 0) (fun v40 h =>
    run P (X.load 41 v40) (fun v41 h =>
    run P (X.bin .neq 41 false false v41 (f 2)) (fun v43 h =>
    when (gw v43 true) (run P (X.move (f 1))) (fun v45 h =>
    when (gw v43 true) (run P (X.move (f 11))) (fun v46 h =>
    when (gw v43 true) (run P (X.indexAddr 23 v45 v46)) (fun v47 h =>
    when (gw v43 true) (run P (X.fieldAddr 57 v47 1)) (fun v48 h =>
    when (gw v43 true) (run P (X.load 41 v48)) (fun v49 h =>
    when (gw v43 true) (run P (X.move (f 2))) (fun v50 h =>
    when (gw v43 true) (run P (X.bin .neq 41 false false v49 v50)) (fun v51 h =>
    run P (X.pick v43 v51 (Value.bool false)) (fun v52 h =>
    br v52 (
      run P (X.indexAddr 23 (f 1) (f 11)) (fun v56 h =>
      run P (X.load 57 v56) (fun v57 h =>
      run P (X.buildSlice 23 1 [(0, v57)]) (fun v58 h =>
      run P (X.builtin .append #[23, 23] 23 [false, false] [(f 9), v58]) (fun v59 h =>
      without_c4 Q (U f [(31, (f 11)), (32, (f 1)), (33, v33), (34, v34), (37, (f 1)), (38, (f 11)), (39, v39), (40, v40), (41, v41), (42, (f 2)), (43, v43), (44, v43), (45, v45), (46, v46), (47, v47), (48, v48), (49, v49), (50, v50), (51, v51), (52, v52), (53, (f 9)), (54, (f 1)), (55, (f 11)), (56, v56), (57, v57), (58, v58), (59, v59), (9, v59)]) h
      ) h
      ) h
      ) h
      ) h
    ) (
      without_c4 Q (U f [(31, (f 11)), (32, (f 1)), (33, v33), (34, v34), (37, (f 1)), (38, (f 11)), (39, v39), (40, v40), (41, v41), (42, (f 2)), (43, v43), (44, v43), (45, v45), (46, v46), (47, v47), (48, v48), (49, v49), (50, v50), (51, v51), (52, v52)]) h
    )
    ) h
    ) h
    ) h
    ) h
    ) h
    ) h
    ) h
    ) h
    ) h
    ) h
    ) h
    ) h
  ) (
    Q (.exit 2) (U f [(31, (f 11)), (32, (f 1)), (33, v33), (34, v34)]) h
  )
  ) h
  ) h

def without_c1 (Q : Exit → F → Heap → Prop) (f : F) (h : Heap) : Prop :=
  lp without_L3 (inB 2 (thenQ (without_c2 Q) Q)) (U f [(11, (Value.int .i64 0))]) h

def without_c6 (Q : Exit → F → Heap → Prop) (f : F) (h : Heap) : Prop :=
  run P (X.bin .add 3 false true (f 10) (Value.int .i64 1)) (fun v17 h =>
  Q .normal (U f [(16, (f 10)), (17, v17), (10, v17)]) h
  ) h

def without_L5 (Q : Exit → F → Heap → Prop) (f : F) (h : Heap) : Prop :=
  run P (X.builtin .len #[22] 3 [false] [(f 0)]) (fun v14 h =>
  run P (X.bin .lss 3 false false (f 10) v14) (fun v15 h =>
  br v15 (
    run P (X.indexAddr 22 (f 0) (f 10)) (fun v20 h =>
    run P (X.load 41 v20) (fun v21 h =>
    run P (X.bin .neq 41 false false v21 (f 2)) (fun v23 h =>
    br v23 (
      run P (X.indexAddr 22 (f 0) (f 10)) (fun v27 h =>
      run P (X.load 41 v27) (fun v28 h =>
      run P (X.buildSlice 22 1 [(0, v28)]) (fun v29 h =>
      run P (X.builtin .append #[22, 22] 22 [false, false] [(f 8), v29]) (fun v30 h =>
      without_c6 Q (U f [(12, (f 10)), (13, (f 0)), (14, v14), (15, v15), (18, (f 0)), (19, (f 10)), (20, v20), (21, v21), (22, (f 2)), (23, v23), (24, (f 8)), (25, (f 0)), (26, (f 10)), (27, v27), (28, v28), (29, v29), (30, v30), (8, v30)]) h
      ) h
      ) h
      ) h
      ) h
    ) (
      without_c6 Q (U f [(12, (f 10)), (13, (f 0)), (14, v14), (15, v15), (18, (f 0)), (19, (f 10)), (20, v20), (21, v21), (22, (f 2)), (23, v23)]) h
    )
    ) h
    ) h
    ) h
  ) (
    Q (.exit 0) (U f [(12, (f 10)), (13, (f 0)), (14, v14), (15, v15)]) h
  )
  ) h
  ) h

def without_c0 (Q : Exit → F → Heap → Prop) (f : F) (h : Heap) : Prop :=
  lp without_L5 (inB 0 (thenQ (without_c1 Q) Q)) (U f [(6, (Value.slice none 0 0)), (7, (Value.slice none 0 0)), (8, (Value.slice none 0 0)), (9, (Value.slice none 0 0)), (10, (Value.int .i64 0))]) h
theorem without_code : without_c0 = hcode P without_md (Try.f23.body.getD .skip) := by kernel_rfl
theorem without_ok {a0 a1 a2 : Value} {h : Heap} {R : Value → Heap → Prop} (hh : without_c0 (post [.tmp 6, .tmp 7] R) (frame0 #[a0, a1, a2]) h) : HCalls P 23 #[a0, a1, a2] h R :=
  hcalls_gen (md := without_md) follows Try.func23 without_code (by kernel_rfl) (by kernel_rfl) (by kernel_rfl) (by kernel_rfl) (by kernel_rfl) hh

/-- tenon/tenonlaw14.hand: parameters [a0]; results [.tmp 2]; slots [0:l, 1:l]; draws [] -/
def hand_md : Nat → RM := fun _ => RM.quiet
def hand_c0 (Q : Exit → F → Heap → Prop) (f : F) (h : Heap) : Prop :=
  run P (X.buildSlice 22 0 []) (fun v3 h =>
  run P (X.builtin .append #[22, 22] 22 [false, false] [v3, (f 0)]) (fun v5 h =>
  run P (X.buildSlice 22 1 [(0, (Value.int .u64 99))]) (fun v6 h =>
  run P (X.builtin .append #[22, 22] 22 [false, false] [v5, v6]) (fun v7 h =>
  Q .ret (U f [(2, (Value.slice none 0 0)), (3, v3), (4, (f 0)), (5, v5), (6, v6), (7, v7), (2, v7)]) h
  ) h
  ) h
  ) h
  ) h
theorem hand_code : hand_c0 = hcode P hand_md (Try.f30.body.getD .skip) := by kernel_rfl
theorem hand_ok {a0 : Value} {h : Heap} {R : Value → Heap → Prop} (hh : hand_c0 (post [.tmp 2] R) (frame0 #[a0]) h) : HCalls P 30 #[a0] h R :=
  hcalls_gen (md := hand_md) follows Try.func30 hand_code (by kernel_rfl) (by kernel_rfl) (by kernel_rfl) (by kernel_rfl) (by kernel_rfl) hh

/-- tenon/tenonlaw14.left: parameters [a0, a1]; results [.tmp 4]; slots [0:l, 1:was, 2:l, 3:was, 5:i]; draws [4] -/
def left_md : Nat → RM := fun _ => RM.quiet
def left_c1 (Q : Exit → F → Heap → Prop) (f : F) (h : Heap) : Prop :=
  run P (X.builtin .len #[22] 3 [false] [(f 1)]) (fun v23 h =>
  run P (X.indexAddr 22 (f 0) v23) (fun v24 h =>
  run P (X.load 41 v24) (fun v25 h =>
  run P (X.bin .eql 41 false true v25 (Value.int .u64 99)) (fun v26 h =>
  Q .ret (U f [(21, (f 0)), (22, (f 1)), (23, v23), (24, v24), (25, v25), (26, v26), (4, v26)]) h
  ) h
  ) h
  ) h
  ) h

def left_L2 (Q : Exit → F → Heap → Prop) (f : F) (h : Heap) : Prop :=
  run P (X.builtin .len #[22] 3 [false] [(f 1)]) (fun v8 h =>
  run P (X.bin .lss 3 false false (f 5) v8) (fun v9 h =>
  br v9 (
    still P (X.move (f 0)) (fun v12 =>
    still P (X.move (f 5)) (fun v13 =>
    still P (X.indexAddr 22 v12 v13) (fun v14 =>
    still P (X.load 41 v14) (fun v15 =>
    still P (X.move (f 1)) (fun v16 =>
    still P (X.move (f 5)) (fun v17 =>
    still P (X.indexAddr 22 v16 v17) (fun v18 =>
    still P (X.load 41 v18) (fun v19 =>
    still P (X.bin .neq 41 false false v15 v19) (fun v20 =>
    br v20 (
      Q .ret (U f [(6, (f 5)), (7, (f 1)), (8, v8), (9, v9), (12, v12), (13, v13), (14, v14), (15, v15), (16, v16), (17, v17), (18, v18), (19, v19), (20, v20), (4, (Value.bool false))]) h
    ) (
      run P (X.bin .add 3 false true (f 5) (Value.int .i64 1)) (fun v11 h =>
      Q .normal (U f [(6, (f 5)), (7, (f 1)), (8, v8), (9, v9), (12, v12), (13, v13), (14, v14), (15, v15), (16, v16), (17, v17), (18, v18), (19, v19), (20, v20), (10, (f 5)), (11, v11), (5, v11)]) h
      ) h
    )
    ) h
    ) h
    ) h
    ) h
    ) h
    ) h
    ) h
    ) h
    ) h
  ) (
    Q (.exit 0) (U f [(6, (f 5)), (7, (f 1)), (8, v8), (9, v9)]) h
  )
  ) h
  ) h

def left_c0 (Q : Exit → F → Heap → Prop) (f : F) (h : Heap) : Prop :=
  lp left_L2 (inB 0 (thenQ (left_c1 Q) Q)) (U f [(4, (Value.bool false)), (5, (Value.int .i64 0))]) h
theorem left_code : left_c0 = hcode P left_md (Try.f32.body.getD .skip) := by kernel_rfl
theorem left_ok {a0 a1 : Value} {h : Heap} {R : Value → Heap → Prop} (hh : left_c0 (post [.tmp 4] R) (frame0 #[a0, a1]) h) : HCalls P 32 #[a0, a1] h R :=
  hcalls_gen (md := left_md) follows Try.func32 left_code (by kernel_rfl) (by kernel_rfl) (by kernel_rfl) (by kernel_rfl) (by kernel_rfl) hh

/-- tenon/tenonlaw14.sameEdges: parameters [a0, a1]; results [.tmp 4]; slots [0:l, 1:want, 2:l, 3:want, 5:i, 6:i]; draws [6] -/
def sameEdges_md : Nat → RM := fun _ => RM.quiet
def sameEdges_c2 (Q : Exit → F → Heap → Prop) (f : F) (h : Heap) : Prop :=
  run P (X.build 57 [(0, (Value.int .u64 4712))]) (fun v38 h =>
  run P (X.buildSlice 23 1 [(0, v38)]) (fun v39 h =>
  run P (X.builtin .append #[23, 23] 23 [false, false] [(f 0), v39]) (fun v40 h =>
  Q .ret (U f [(37, (f 0)), (38, v38), (39, v39), (40, v40), (4, (Value.bool true))]) h
  ) h
  ) h
  ) h

def sameEdges_L3 (Q : Exit → F → Heap → Prop) (f : F) (h : Heap) : Prop :=
  run P (X.builtin .len #[23] 3 [false] [(f 0)]) (fun v29 h =>
  run P (X.bin .lss 3 false false (f 6) v29) (fun v30 h =>
  br v30 (
    run P (X.build 57 [(0, (Value.int .u64 4711))]) (fun v35 h =>
    run P (X.indexAddr 23 (f 0) (f 6)) (fun v36 h =>
    run P (X.store 57 v36 v35) (fun _ h =>
    run P (X.bin .add 3 false true (f 6) (Value.int .i64 1)) (fun v32 h =>
    Q .normal (U f [(27, (f 6)), (28, (f 0)), (29, v29), (30, v30), (33, (f 0)), (34, (f 6)), (35, v35), (36, v36), (31, (f 6)), (32, v32), (6, v32)]) h
    ) h
    ) h
    ) h
    ) h
  ) (
    Q (.exit 2) (U f [(27, (f 6)), (28, (f 0)), (29, v29), (30, v30)]) h
  )
  ) h
  ) h

def sameEdges_c1 (Q : Exit → F → Heap → Prop) (f : F) (h : Heap) : Prop :=
  lp sameEdges_L3 (inB 2 (thenQ (sameEdges_c2 Q) Q)) (U f [(6, (Value.int .i64 0))]) h

def sameEdges_L4 (Q : Exit → F → Heap → Prop) (f : F) (h : Heap) : Prop :=
  run P (X.builtin .len #[23] 3 [false] [(f 0)]) (fun v14 h =>
  run P (X.bin .lss 3 false false (f 5) v14) (fun v15 h =>
  br v15 (
    still P (X.move (f 0)) (fun v18 =>
    still P (X.move (f 5)) (fun v19 =>
    still P (X.indexAddr 23 v18 v19) (fun v20 =>
    still P (X.load 57 v20) (fun v21 =>
    still P (X.move (f 1)) (fun v22 =>
    still P (X.move (f 5)) (fun v23 =>
    still P (X.indexAddr 23 v22 v23) (fun v24 =>
    still P (X.load 57 v24) (fun v25 =>
    still P (X.bin .neq 57 false false v21 v25) (fun v26 =>
    br v26 (
      Q .ret (U f [(12, (f 5)), (13, (f 0)), (14, v14), (15, v15), (18, v18), (19, v19), (20, v20), (21, v21), (22, v22), (23, v23), (24, v24), (25, v25), (26, v26), (4, (Value.bool false))]) h
    ) (
      run P (X.bin .add 3 false true (f 5) (Value.int .i64 1)) (fun v17 h =>
      Q .normal (U f [(12, (f 5)), (13, (f 0)), (14, v14), (15, v15), (18, v18), (19, v19), (20, v20), (21, v21), (22, v22), (23, v23), (24, v24), (25, v25), (26, v26), (16, (f 5)), (17, v17), (5, v17)]) h
      ) h
    )
    ) h
    ) h
    ) h
    ) h
    ) h
    ) h
    ) h
    ) h
    ) h
  ) (
    Q (.exit 0) (U f [(12, (f 5)), (13, (f 0)), (14, v14), (15, v15)]) h
  )
  ) h
  ) h

def sameEdges_c0 (Q : Exit → F → Heap → Prop) (f : F) (h : Heap) : Prop :=
  run P (X.builtin .len #[23] 3 [false] [(f 0)]) (fun v8 h =>
  run P (X.builtin .len #[23] 3 [false] [(f 1)]) (fun v10 h =>
  run P (X.bin .neq 3 false false v8 v10) (fun v11 h =>
  br v11 (
    Q .ret (U f [(4, (Value.bool false)), (7, (f 0)), (8, v8), (9, (f 1)), (10, v10), (11, v11), (4, (Value.bool false))]) h
  ) (
    lp sameEdges_L4 (inB 0 (thenQ (sameEdges_c1 Q) Q)) (U f [(4, (Value.bool false)), (7, (f 0)), (8, v8), (9, (f 1)), (10, v10), (11, v11), (5, (Value.int .i64 0))]) h
  )
  ) h
  ) h
  ) h
theorem sameEdges_code : sameEdges_c0 = hcode P sameEdges_md (Try.f38.body.getD .skip) := by kernel_rfl
theorem sameEdges_ok {a0 a1 : Value} {h : Heap} {R : Value → Heap → Prop} (hh : sameEdges_c0 (post [.tmp 4] R) (frame0 #[a0, a1]) h) : HCalls P 38 #[a0, a1] h R :=
  hcalls_gen (md := sameEdges_md) follows Try.func38 sameEdges_code (by kernel_rfl) (by kernel_rfl) (by kernel_rfl) (by kernel_rfl) (by kernel_rfl) hh

end Go.Proofs.G
