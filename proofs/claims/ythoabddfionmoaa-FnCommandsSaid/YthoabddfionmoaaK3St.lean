/- PRINTED BY sprint.py (this session's own program): the equations of the abstract heap machine. No condition. -/
import Derived.Test.YthoabddfionmoaaK32
import Derived.Test.YthoabddfionmoaaProg
import Derived.Test.YthoabddfionmoaaK31
set_option linter.unusedVariables false
set_option maxRecDepth 100000
namespace Go.Proofs.Ythoabddfionmoaa.AH
open Go Go.RowKit
variable (call : CallF)
theorem kC_seq {P : Program} (call : CallF) (ann : Nat → List Nat) (N : Nat) (a b : Code) (k : X → Env → H → Option (V × H)) (E : Env) (h : H) : kC P call ann N (.seq a b) k E h = kC P call ann N a (sqK (fun _ E h => kC P call ann N b k (keepAt ann b E) h) k) E h := rfl
-- loop.example/g00224/laws.FnExactChangesOf
def an3 : Nat → List Nat := fun i => ([[0], [0], [0, 3], [0, 3], [], [0], [0, 4, 5], [0, 4, 5, 6], [0, 4, 5, 6, 7, 8], [], [0, 4, 5, 6, 7, 8], [], [0, 4, 5, 6, 7, 8], [0, 4, 5, 6, 7, 8, 9], [0, 4, 5, 7, 8, 9], [], [0, 4, 5, 7], [0, 4, 5, 7, 10], [0, 4, 5, 7, 10], [0, 4, 5, 7, 10, 11], [0, 4, 5, 7, 10, 11], [], [0, 4, 5, 7, 10, 11], [], [0, 4, 5, 7, 10], [4, 5, 7, 10, 12, 13], [], [7, 10], [7, 10, 11], [10, 11], [], [10, 11], [], []] : List (List Nat)).getD i []
noncomputable def kf3 (call : CallF) : X → Env → H → Option (V × H) := finK Try.prog Try.f3.results.toList
noncomputable def S3_j10 (call : CallF) (x0 x4 x5 x6 x7 x8 : V) (h : H) : Option (V × H) := kC Try.prog call an3 96 (cdAt [1, 1, 1, 1, 1, 1, 1, 1] (bodyOf Try.f3)) (kf3 call) [(0, x0), (4, x4), (5, x5), (6, x6), (7, x7), (8, x8)] h
noncomputable def S3_j16 (call : CallF) (x0 x4 x5 x7 : V) (h : H) : Option (V × H) := kC Try.prog call an3 96 (cdAt [1, 1, 1, 1, 1, 1, 1, 1, 1, 1, 1, 1] (bodyOf Try.f3)) (kf3 call) [(0, x0), (4, x4), (5, x5), (7, x7)] h
theorem S3_eq (a0 : V) (h : H) : bodyK Try.prog call an3 Try.f3 (bodyOf Try.f3) [a0] h =
 (call 6 [a0, (V.int .i64 1048576)] h).bind fun r1 =>
 (binV Try.prog .lss 3 r1.1 (V.int .i64 0)).bind fun v2 =>
 onB v2
 ((ress [(some (V.bool true))]).map fun vs => (tupOf vs, r1.2))
 ((call 8 [a0] r1.2).bind fun r3 =>
 (call 7 [r3.1] r3.2).bind fun r4 =>
 (extV r4.1 0).bind fun v5 =>
 (extV r4.1 1).bind fun v6 =>
 (call 8 [a0] r4.2).bind fun r7 =>
 (call 9 [r7.1] r7.2).bind fun r8 =>
 (extV r8.1 0).bind fun v9 =>
 (extV r8.1 1).bind fun v10 =>
 (call 10 [v9, v5] r8.2).bind fun r11 =>
 (unV .not r11.1).bind fun v12 =>
 spB v12
 ((ress [(some (V.bool false))]).map fun vs => (tupOf vs, r11.2))
 ((binV Try.prog .neq 4 v10 v6).bind fun v13 =>
 onB v13
 ((ress [(some (V.bool false))]).map fun vs => (tupOf vs, r11.2))
 (S3_j10 call a0 v5 v6 r7.1 v9 v10 r11.2))) := by kernel_rfl
theorem S3_j10_eq (x0 x4 x5 x6 x7 x8 : V) (h : H) : S3_j10 call x0 x4 x5 x6 x7 x8 h =
 (call 8 [x0] h).bind fun r14 =>
 (call 11 [x6, r14.1] r14.2).bind fun r15 =>
 (unV .not r15.1).bind fun v16 =>
 onB v16
 ((ress [(some (V.bool false))]).map fun vs => (tupOf vs, r15.2))
 ((call 12 [x6, (V.int .i64 1)] r15.2).bind fun r17 =>
 (binV Try.prog .lss 3 r17.1 (V.int .i64 0)).bind fun v18 =>
 spB v18
 ((ress [(some (V.bool false))]).map fun vs => (tupOf vs, r17.2))
 ((call 10 [x7, x4] r17.2).bind fun r19 =>
 (unV .not r19.1).bind fun v20 =>
 spB v20
 ((ress [(some (V.bool false))]).map fun vs => (tupOf vs, r19.2))
 ((binV Try.prog .neq 4 x8 x5).bind fun v21 =>
 onB v21
 ((ress [(some (V.bool false))]).map fun vs => (tupOf vs, r19.2))
 (S3_j16 call x0 x4 x5 x7 r19.2)))) := by kernel_rfl
theorem S3_j16_eq (x0 x4 x5 x7 : V) (h : H) : S3_j16 call x0 x4 x5 x7 h =
 (call 13 [x7, (V.int .i64 1)] h).bind fun r22 =>
 (call 14 [x7, (V.int .i64 1)] r22.2).bind fun r23 =>
 (binV Try.prog .lss 3 r23.1 (V.int .i64 0)).bind fun v24 =>
 onB v24
 ((ress [(some (V.bool false))]).map fun vs => (tupOf vs, r23.2))
 ((binV Try.prog .neq 3 r23.1 r22.1).bind fun v25 =>
 onB v25
 ((ress [(some (V.bool false))]).map fun vs => (tupOf vs, r23.2))
 ((call 8 [x0] r23.2).bind fun r26 =>
 (call 9 [r26.1] r26.2).bind fun r27 =>
 (extV r27.1 0).bind fun v28 =>
 (extV r27.1 1).bind fun v29 =>
 (call 10 [v28, x4] r27.2).bind fun r30 =>
 (unV .not r30.1).bind fun v31 =>
 spB v31
 ((ress [(some (V.bool false))]).map fun vs => (tupOf vs, r30.2))
 ((binV Try.prog .neq 4 v29 x5).bind fun v32 =>
 onB v32
 ((ress [(some (V.bool false))]).map fun vs => (tupOf vs, r30.2))
 ((call 14 [x7, (V.int .i64 1)] r30.2).bind fun r33 =>
 (binV Try.prog .lss 3 r33.1 (V.int .i64 0)).bind fun v34 =>
 onB v34
 ((ress [(some (V.bool false))]).map fun vs => (tupOf vs, r33.2))
 ((binV Try.prog .neq 3 r33.1 r22.1).bind fun v35 =>
 onB v35
 ((ress [(some (V.bool false))]).map fun vs => (tupOf vs, r33.2))
 ((ress [(some (V.bool true))]).map fun vs => (tupOf vs, r33.2))))))) := by kernel_rfl
-- loop.example/g00224/laws.FnCommands
def an4 : Nat → List Nat := fun i => ([[0, 1], [0, 1], [], [0, 1], [1, 5], [1, 5, 6, 7], [1, 5, 6, 7, 8, 9], [], [1, 5, 6, 7], [1, 5, 6], [1, 5, 10, 11], [], [1], [12], [12, 13, 14, 15], [12, 13, 14, 15, 16, 17, 18], [], [12, 14, 15, 17], [14], [12, 14, 17], [12, 14, 17, 103, 104], [12, 14, 17, 103, 104], [12, 14, 17, 19, 103, 104], [], [12, 14, 17, 103, 104], [12], [12, 20], [12, 20, 21], [12, 20, 21, 119, 120], [12, 20, 21, 119, 120], [12, 20, 21, 22, 119, 120], [12, 20, 21, 22, 23, 25, 119, 120], [], [12, 20, 21, 22, 23, 119, 120], [12, 20, 21, 22, 23, 119, 120], [12, 20, 21, 22, 23, 119, 120, 140, 141, 142], [12, 20, 21, 22, 23, 119, 120, 140, 141, 142], [12, 20, 21, 22, 23, 27, 119, 120, 140, 141, 142], [], [12, 20, 21, 22, 23, 119, 120, 140, 141, 142], [12, 20, 21, 22, 23, 119, 120], [12, 20, 21, 23, 119, 120], [12, 20, 21, 119, 120], []] : List (List Nat)).getD i []
noncomputable def kf4 (call : CallF) : X → Env → H → Option (V × H) := finK Try.prog Try.f4.results.toList
noncomputable def k4_1 (call : CallF) : X → Env → H → Option (V × H) := sqK (fun _ E h => kC Try.prog call an4 177 (cdAt [1, 1, 1, 1, 1, 1, 1, 1, 1, 1, 1, 1, 1] (bodyOf Try.f4)) (kf4 call) (keepAt an4 (cdAt [1, 1, 1, 1, 1, 1, 1, 1, 1, 1, 1, 1, 1] (bodyOf Try.f4)) E) h) (kf4 call)
noncomputable def k4_2 (call : CallF) : X → Env → H → Option (V × H) := bkK 0 (k4_1 call)
noncomputable def k4_3 (call : CallF) : X → Env → H → Option (V × H) := sqK (fun _ E h => kC Try.prog call an4 177 (cdAt [1, 1, 1, 1, 1, 1, 1, 1, 1, 1, 1, 1, 1, 1, 1, 1] (bodyOf Try.f4)) (kf4 call) (keepAt an4 (cdAt [1, 1, 1, 1, 1, 1, 1, 1, 1, 1, 1, 1, 1, 1, 1, 1] (bodyOf Try.f4)) E) h) (kf4 call)
noncomputable def k4_4 (call : CallF) : X → Env → H → Option (V × H) := bkK 2 (k4_3 call)
noncomputable def k4_5 (call : CallF) : X → Env → H → Option (V × H) := lpK (fun E h => loopK Try.prog call an4 177 (cdAt [1, 1, 1, 1, 1, 1, 1, 1, 1, 1, 1, 1, 1, 1, 1, 0, 1, 0, 0] (bodyOf Try.f4)) (k4_4 call) (keepAt an4 (cdAt [1, 1, 1, 1, 1, 1, 1, 1, 1, 1, 1, 1, 1, 1, 1, 0, 1, 0, 0] (bodyOf Try.f4)) E) h) (k4_4 call)
noncomputable def k4_6 (call : CallF) : X → Env → H → Option (V × H) := sqK (fun _ E h => kC Try.prog call an4 177 (cdAt [1, 1, 1, 1, 1, 1, 1, 1, 1, 1, 1, 1, 1, 1, 1, 0, 1, 0, 0, 1, 1, 1] (bodyOf Try.f4)) (k4_5 call) (keepAt an4 (cdAt [1, 1, 1, 1, 1, 1, 1, 1, 1, 1, 1, 1, 1, 1, 1, 0, 1, 0, 0, 1, 1, 1] (bodyOf Try.f4)) E) h) (k4_5 call)
noncomputable def k4_7 (call : CallF) : X → Env → H → Option (V × H) := bkK 3 (k4_6 call)
noncomputable def k4_8 (call : CallF) : X → Env → H → Option (V × H) := sqK (fun _ E h => kC Try.prog call an4 177 (cdAt [1, 1, 1, 1, 1, 1, 1, 1, 1, 1, 1, 1, 1, 1, 1, 0, 1, 0, 0, 1, 1, 0, 0, 1, 1, 1, 1] (bodyOf Try.f4)) (k4_7 call) (keepAt an4 (cdAt [1, 1, 1, 1, 1, 1, 1, 1, 1, 1, 1, 1, 1, 1, 1, 0, 1, 0, 0, 1, 1, 0, 0, 1, 1, 1, 1] (bodyOf Try.f4)) E) h) (k4_7 call)
noncomputable def k4_9 (call : CallF) : X → Env → H → Option (V × H) := sqK (fun _ E h => kC Try.prog call an4 177 (cdAt [1, 1, 1, 1, 1, 1, 1, 1, 1, 1, 1, 1, 1, 1, 1, 0, 1, 0, 0, 1, 1, 0, 0, 1, 1, 1, 0, 1, 0, 1] (bodyOf Try.f4)) (k4_8 call) (keepAt an4 (cdAt [1, 1, 1, 1, 1, 1, 1, 1, 1, 1, 1, 1, 1, 1, 1, 0, 1, 0, 0, 1, 1, 0, 0, 1, 1, 1, 0, 1, 0, 1] (bodyOf Try.f4)) E) h) (k4_8 call)
noncomputable def k4_10 (call : CallF) : X → Env → H → Option (V × H) := bkK 4 (k4_9 call)
noncomputable def S4_j8 (call : CallF) (x1 x5 x6 x7 : V) (h : H) : Option (V × H) := kC Try.prog call an4 177 (cdAt [1, 1, 1, 1, 1, 1] (bodyOf Try.f4)) (kf4 call) [(1, x1), (5, x5), (6, x6), (7, x7)] h
noncomputable def S4_j12 (call : CallF) (x1 : V) (h : H) : Option (V × H) := kC Try.prog call an4 177 (cdAt [1, 1, 1, 1, 1, 1, 1] (bodyOf Try.f4)) (kf4 call) [(1, x1)] h
noncomputable def S4_j17 (call : CallF) (x12 x14 x15 x17 : V) (h : H) : Option (V × H) := kC Try.prog call an4 177 (cdAt [1, 1, 1, 1, 1, 1, 1, 1, 1, 1, 1] (bodyOf Try.f4)) (kf4 call) [(12, x12), (14, x14), (15, x15), (17, x17)] h
noncomputable def S4_l20 (call : CallF) (x12 x14 x17 x103 x104 : V) (h : H) : Option (V × H) := loopK Try.prog call an4 177 (cdAt [1, 1, 1, 1, 1, 1, 1, 1, 1, 1, 1, 1, 0, 1, 0, 0] (bodyOf Try.f4)) (k4_2 call) [(12, x12), (14, x14), (17, x17), (103, x103), (104, x104)] h
noncomputable def S4_l28 (call : CallF) (x12 x20 x21 x119 x120 : V) (h : H) : Option (V × H) := loopK Try.prog call an4 177 (cdAt [1, 1, 1, 1, 1, 1, 1, 1, 1, 1, 1, 1, 1, 1, 1, 0, 1, 0, 0] (bodyOf Try.f4)) (k4_4 call) [(12, x12), (20, x20), (21, x21), (119, x119), (120, x120)] h
noncomputable def S4_l35 (call : CallF) (x12 x20 x21 x22 x23 x119 x120 x140 x141 x142 : V) (h : H) : Option (V × H) := loopK Try.prog call an4 177 (cdAt [1, 1, 1, 1, 1, 1, 1, 1, 1, 1, 1, 1, 1, 1, 1, 0, 1, 0, 0, 1, 1, 0, 0, 1, 1, 1, 0, 1, 0, 0, 1, 0, 0] (bodyOf Try.f4)) (k4_10 call) [(12, x12), (20, x20), (21, x21), (22, x22), (23, x23), (119, x119), (120, x120), (140, x140), (141, x141), (142, x142)] h
theorem S4_eq (a0 a1 : V) (h : H) : bodyK Try.prog call an4 Try.f4 (bodyOf Try.f4) [a0, a1] h =
 (lenL a0).bind fun v1 =>
 (lenL a1).bind fun v2 =>
 (binV Try.prog .add 3 v1 v2).bind fun v3 =>
 (binV Try.prog .gtr 3 v3 (V.int .i64 1048576)).bind fun v4 =>
 onB v4
 ((ress [(some (V.bool true))]).map fun vs => (tupOf vs, h))
 ((call 15 [a0] h).bind fun r5 =>
 alK [(V.int .i64 0), (V.int .i64 0), (V.int .i64 0), (V.str ⟨#[]⟩), (V.str ⟨#[]⟩), (V.str ⟨#[]⟩)] r5.2 fun p6 h7 =>
 stN 6 h7 p6 r5.1 fun h8 =>
 (ldn 6 h8 p6).bind fun v9 =>
 (call 16 [v9] h8).bind fun r10 =>
 (extV r10.1 0).bind fun v11 =>
 (extV r10.1 1).bind fun v12 =>
 (ldn 6 r10.2 p6).bind fun v13 =>
 (call 17 [v13] r10.2).bind fun r14 =>
 (extV r14.1 0).bind fun v15 =>
 (extV r14.1 1).bind fun v16 =>
 (binV Try.prog .neq 4 v12 v16).bind fun v17 =>
 spB v17
 ((ress [(some (V.bool false))]).map fun vs => (tupOf vs, r14.2))
 ((binV Try.prog .neq 9 v11 v15).bind fun v18 =>
 onB v18
 ((ress [(some (V.bool false))]).map fun vs => (tupOf vs, r14.2))
 (S4_j8 call a1 p6 v11 v12 r14.2))) := by kernel_rfl
theorem S4_j8_eq (x1 x5 x6 x7 : V) (h : H) : S4_j8 call x1 x5 x6 x7 h =
 onB x7
 ((call 18 [x6] h).bind fun r19 =>
 (extV r19.1 0).bind fun v20 =>
 (extV r19.1 1).bind fun v21 =>
 alK [(V.int .i64 0), (V.int .i64 0), (V.int .i64 0), (V.str ⟨#[]⟩), (V.str ⟨#[]⟩), (V.str ⟨#[]⟩)] r19.2 fun p22 h23 =>
 stN 6 h23 p22 v20 fun h24 =>
 (unV .not v21).bind fun v25 =>
 spB v25
 ((ress [(some (V.bool false))]).map fun vs => (tupOf vs, h24))
 ((ldn 6 h24 p22).bind fun v26 =>
 (ldn 6 h24 x5).bind fun v27 =>
 (binV Try.prog .neq 36 v26 v27).bind fun v28 =>
 onB v28
 ((ress [(some (V.bool false))]).map fun vs => (tupOf vs, h24))
 (S4_j12 call x1 h24)))
 (S4_j12 call x1 h) := by kernel_rfl
theorem S4_j12_eq (x1 : V) (h : H) : S4_j12 call x1 h =
 (call 19 [x1] h).bind fun r29 =>
 (call 20 [r29.1] r29.2).bind fun r30 =>
 (extV r30.1 0).bind fun v31 =>
 (extV r30.1 1).bind fun v32 =>
 (extV r30.1 2).bind fun v33 =>
 alK [(V.sl 0 0 0 0), (V.sl 0 0 0 0)] r30.2 fun p34 h35 =>
 stN 2 h35 p34 v31 fun h36 =>
 (call 21 [r29.1] h36).bind fun r37 =>
 (extV r37.1 0).bind fun v38 =>
 (extV r37.1 1).bind fun v39 =>
 (extV r37.1 2).bind fun v40 =>
 alK [(V.sl 0 0 0 0), (V.sl 0 0 0 0)] r37.2 fun p41 h42 =>
 stN 2 h42 p41 v38 fun h43 =>
 (binV Try.prog .neq 4 v33 v40).bind fun v44 =>
 spB v44
 ((ress [(some (V.bool false))]).map fun vs => (tupOf vs, h43))
 ((lenL v32).bind fun v45 =>
 (lenL v39).bind fun v46 =>
 (binV Try.prog .neq 3 v45 v46).bind fun v47 =>
 spB v47
 ((ress [(some (V.bool false))]).map fun vs => (tupOf vs, h43))
 ((ldn 2 h43 p34).bind fun v48 =>
 (ldn 2 h43 p41).bind fun v49 =>
 (call 22 [v48, v49] h43).bind fun r50 =>
 (unV .not r50.1).bind fun v51 =>
 onB v51
 ((ress [(some (V.bool false))]).map fun vs => (tupOf vs, r50.2))
 (S4_j17 call r29.1 v32 v33 v39 r50.2))) := by kernel_rfl
theorem S4_j17_eq (x12 x14 x15 x17 : V) (h : H) : S4_j17 call x12 x14 x15 x17 h =
 (unV .not x15).bind fun v52 =>
 onB v52
 ((lenL x14).bind fun v53 =>
 (binV Try.prog .eql 3 v53 (V.int .i64 0)).bind fun v54 =>
 (ress [(some v54)]).map fun vs => (tupOf vs, h))
 ((lenL x14).bind fun v55 =>
 S4_l20 call x12 x14 x17 v55 (V.int .i64 0) h) := by kernel_rfl
theorem S4_l20_eq (x12 x14 x17 x103 x104 : V) (h : H) : S4_l20 call x12 x14 x17 x103 x104 h =
 (binV Try.prog .lss 3 x104 x103).bind fun v56 =>
 onB v56
 ((iA 2 x14 x104).bind fun v57 =>
 (ldn 2 h v57).bind fun v58 =>
 (iA 2 x17 x104).bind fun v59 =>
 (ldn 2 h v59).bind fun v60 =>
 (binV Try.prog .neq 52 v58 v60).bind fun v61 =>
 onB v61
 ((ress [(some (V.bool false))]).map fun vs => (tupOf vs, h))
 ((binV Try.prog .add 3 x104 (V.int .i64 1)).bind fun v62 =>
 S4_l20 call x12 x14 x17 x103 v62 h))
 ((bldV [(V.sl 0 0 0 0), (V.sl 0 0 0 0)] []).bind fun v63 =>
 alK [(V.sl 0 0 0 0), (V.sl 0 0 0 0)] h fun p64 h65 =>
 stN 2 h65 p64 v63 fun h66 =>
 (lenL x12).bind fun v67 =>
 S4_l28 call x12 (V.sl 0 0 0 0) p64 v67 (V.int .i64 0) h66) := by
  refine (loopK_eq _ _ _ _ _ _ _).trans ?_
  kernel_rfl
theorem S4_l28_eq (x12 x20 x21 x119 x120 : V) (h : H) : S4_l28 call x12 x20 x21 x119 x120 h =
 (binV Try.prog .lss 3 x120 x119).bind fun v68 =>
 onB v68
 ((binV Try.prog .add 3 x120 (V.int .i64 1)).bind fun v69 =>
 (slL 6 x12 none (some v69) none).bind fun v70 =>
 (call 20 [v70] h).bind fun r71 =>
 (extV r71.1 0).bind fun v72 =>
 (extV r71.1 1).bind fun v73 =>
 (extV r71.1 2).bind fun v74 =>
 alK [(V.sl 0 0 0 0), (V.sl 0 0 0 0)] r71.2 fun p75 h76 =>
 stN 2 h76 p75 v72 fun h77 =>
 (unV .not v74).bind fun v78 =>
 onB v78
 ((ress [(some (V.bool false))]).map fun vs => (tupOf vs, h77))
 ((fA 0 x21).bind fun v79 =>
 (ld1 h77 v79).bind fun v80 =>
 (fA 0 p75).bind fun v81 =>
 (ld1 h77 v81).bind fun v82 =>
 (call 23 [v80, v82] h77).bind fun r83 =>
 (unV .not r83.1).bind fun v84 =>
 onB v84
 ((lenL x20).bind fun v85 =>
 S4_l35 call x12 x20 x21 x120 p75 x119 x120 x20 v85 (V.int .i64 0) r83.2)
 ((ldn 2 r83.2 p75).bind fun v86 =>
 stN 2 r83.2 x21 v86 fun h87 =>
 (binV Try.prog .add 3 x120 (V.int .i64 1)).bind fun v88 =>
 S4_l28 call x12 x20 x21 x119 v88 h87)))
 ((ress [(some (V.bool true))]).map fun vs => (tupOf vs, h)) := by
  refine (loopK_eq _ _ _ _ _ _ _).trans ?_
  kernel_rfl
theorem S4_l35_eq (x12 x20 x21 x22 x23 x119 x120 x140 x141 x142 : V) (h : H) : S4_l35 call x12 x20 x21 x22 x23 x119 x120 x140 x141 x142 h =
 (binV Try.prog .lss 3 x142 x141).bind fun v89 =>
 onB v89
 ((iA 1 x140 x142).bind fun v90 =>
 (ld1 h v90).bind fun v91 =>
 (iA 6 x12 x22).bind fun v92 =>
 (fA 0 v92).bind fun v93 =>
 (ld1 h v93).bind fun v94 =>
 (iA 6 x12 v91).bind fun v95 =>
 (fA 0 v95).bind fun v96 =>
 (ld1 h v96).bind fun v97 =>
 (binV Try.prog .eql 3 v94 v97).bind fun v98 =>
 spB v98
 ((iA 6 x12 x22).bind fun v99 =>
 (fA 1 v99).bind fun v100 =>
 (ld1 h v100).bind fun v101 =>
 (iA 6 x12 v91).bind fun v102 =>
 (fA 1 v102).bind fun v103 =>
 (ld1 h v103).bind fun v104 =>
 (binV Try.prog .eql 3 v101 v104).bind fun v105 =>
 onB v105
 ((ress [(some (V.bool false))]).map fun vs => (tupOf vs, h))
 ((binV Try.prog .add 3 x142 (V.int .i64 1)).bind fun v106 =>
 S4_l35 call x12 x20 x21 x22 x23 x119 x120 x140 x141 v106 h))
 ((binV Try.prog .add 3 x142 (V.int .i64 1)).bind fun v107 =>
 S4_l35 call x12 x20 x21 x22 x23 x119 x120 x140 x141 v107 h))
 (bsK 1 1 h [(V.int .i64 0)] [(0, 1, x22)] fun p108 h109 =>
 (apL 1 8 h109 x20 p108).bind fun r110 =>
 (ldn 2 r110.2 x23).bind fun v111 =>
 stN 2 r110.2 x21 v111 fun h112 =>
 (binV Try.prog .add 3 x120 (V.int .i64 1)).bind fun v113 =>
 S4_l28 call x12 r110.1 x21 x119 v113 h112) := by
  refine (loopK_eq _ _ _ _ _ _ _).trans ?_
  kernel_rfl
-- loop.example/g00224/laws.FnExactFoldCommands
def an5 : Nat → List Nat := fun i => ([[0], [0], [0, 3], [0, 3], [], [0], [0, 4, 5, 6], [0, 4, 5, 6, 7], [0, 4, 5, 6, 7, 8, 9, 10], [], [0, 4, 5, 6, 7, 8, 9, 10], [], [0, 4, 5, 6, 7, 8, 9, 10], [0, 4, 5, 6, 7, 8, 9, 10, 11], [0, 4, 5, 6, 8, 9, 10, 11], [], [0, 4, 5, 6, 8, 9], [0, 4, 5, 6, 8, 9, 12], [0, 4, 5, 6, 8, 9, 12], [0, 4, 5, 6, 8, 9, 12], [0, 4, 5, 6, 8, 9, 12, 13], [0, 4, 5, 6, 8, 9, 12, 13], [], [0, 4, 5, 6, 8, 9, 12, 13], [0, 4, 5, 6, 8, 9, 12, 13], [], [0, 4, 5, 6, 8, 9, 12, 13], [], [0, 4, 5, 6, 8, 9, 12], [4, 5, 6, 8, 9, 12, 14, 15, 16], [], [8, 9, 12], [8, 9, 12, 13], [9, 12, 13], [], [9, 12, 13], [12, 13], [], [12, 13], [], []] : List (List Nat)).getD i []
noncomputable def kf5 (call : CallF) : X → Env → H → Option (V × H) := finK Try.prog Try.f5.results.toList
noncomputable def S5_j10 (call : CallF) (x0 x4 x5 x6 x7 x8 x9 x10 : V) (h : H) : Option (V × H) := kC Try.prog call an5 133 (cdAt [1, 1, 1, 1, 1, 1, 1, 1] (bodyOf Try.f5)) (kf5 call) [(0, x0), (4, x4), (5, x5), (6, x6), (7, x7), (8, x8), (9, x9), (10, x10)] h
noncomputable def S5_j16 (call : CallF) (x0 x4 x5 x6 x8 x9 : V) (h : H) : Option (V × H) := kC Try.prog call an5 133 (cdAt [1, 1, 1, 1, 1, 1, 1, 1, 1, 1, 1, 1] (bodyOf Try.f5)) (kf5 call) [(0, x0), (4, x4), (5, x5), (6, x6), (8, x8), (9, x9)] h
theorem S5_eq (a0 : V) (h : H) : bodyK Try.prog call an5 Try.f5 (bodyOf Try.f5) [a0] h =
 (call 6 [a0, (V.int .i64 1048576)] h).bind fun r1 =>
 (binV Try.prog .lss 3 r1.1 (V.int .i64 0)).bind fun v2 =>
 onB v2
 ((ress [(some (V.bool true))]).map fun vs => (tupOf vs, r1.2))
 ((call 8 [a0] r1.2).bind fun r3 =>
 (call 21 [r3.1] r3.2).bind fun r4 =>
 (extV r4.1 0).bind fun v5 =>
 (extV r4.1 1).bind fun v6 =>
 (extV r4.1 2).bind fun v7 =>
 alK [(V.sl 0 0 0 0), (V.sl 0 0 0 0)] r4.2 fun p8 h9 =>
 stN 2 h9 p8 v5 fun h10 =>
 (call 8 [a0] h10).bind fun r11 =>
 (call 20 [r11.1] r11.2).bind fun r12 =>
 (extV r12.1 0).bind fun v13 =>
 (extV r12.1 1).bind fun v14 =>
 (extV r12.1 2).bind fun v15 =>
 alK [(V.sl 0 0 0 0), (V.sl 0 0 0 0)] r12.2 fun p16 h17 =>
 stN 2 h17 p16 v13 fun h18 =>
 (ldn 2 h18 p16).bind fun v19 =>
 (ldn 2 h18 p8).bind fun v20 =>
 (call 24 [v19, v20] h18).bind fun r21 =>
 (unV .not r21.1).bind fun v22 =>
 spB v22
 ((ress [(some (V.bool false))]).map fun vs => (tupOf vs, r21.2))
 ((call 25 [v14, v6] r21.2).bind fun r23 =>
 (unV .not r23.1).bind fun v24 =>
 spB v24
 ((ress [(some (V.bool false))]).map fun vs => (tupOf vs, r23.2))
 ((binV Try.prog .neq 4 v15 v7).bind fun v25 =>
 onB v25
 ((ress [(some (V.bool false))]).map fun vs => (tupOf vs, r23.2))
 (S5_j10 call a0 p8 v6 v7 r11.1 p16 v14 v15 r23.2)))) := by kernel_rfl
theorem S5_j10_eq (x0 x4 x5 x6 x7 x8 x9 x10 : V) (h : H) : S5_j10 call x0 x4 x5 x6 x7 x8 x9 x10 h =
 (call 8 [x0] h).bind fun r26 =>
 (call 11 [x7, r26.1] r26.2).bind fun r27 =>
 (unV .not r27.1).bind fun v28 =>
 onB v28
 ((ress [(some (V.bool false))]).map fun vs => (tupOf vs, r27.2))
 ((call 12 [x7, (V.int .i64 1)] r27.2).bind fun r29 =>
 (binV Try.prog .lss 3 r29.1 (V.int .i64 0)).bind fun v30 =>
 spB v30
 ((ress [(some (V.bool false))]).map fun vs => (tupOf vs, r29.2))
 ((ldn 2 r29.2 x8).bind fun v31 =>
 (ldn 2 r29.2 x4).bind fun v32 =>
 (call 24 [v31, v32] r29.2).bind fun r33 =>
 (unV .not r33.1).bind fun v34 =>
 spB v34
 ((ress [(some (V.bool false))]).map fun vs => (tupOf vs, r33.2))
 ((call 25 [x9, x5] r33.2).bind fun r35 =>
 (unV .not r35.1).bind fun v36 =>
 spB v36
 ((ress [(some (V.bool false))]).map fun vs => (tupOf vs, r35.2))
 ((binV Try.prog .neq 4 x10 x6).bind fun v37 =>
 onB v37
 ((ress [(some (V.bool false))]).map fun vs => (tupOf vs, r35.2))
 (S5_j16 call x0 x4 x5 x6 x8 x9 r35.2))))) := by kernel_rfl
theorem S5_j16_eq (x0 x4 x5 x6 x8 x9 : V) (h : H) : S5_j16 call x0 x4 x5 x6 x8 x9 h =
 (ldn 2 h x8).bind fun v38 =>
 (call 26 [v38, (V.int .i64 1)] h).bind fun r39 =>
 (call 27 [x9, r39.1] r39.2).bind fun r40 =>
 (ldn 2 r40.2 x8).bind fun v41 =>
 (call 28 [v41, (V.int .i64 1)] r40.2).bind fun r42 =>
 (binV Try.prog .lss 3 r42.1 (V.int .i64 0)).bind fun v43 =>
 onB v43
 ((ress [(some (V.bool false))]).map fun vs => (tupOf vs, r42.2))
 ((call 29 [x9, r42.1] r42.2).bind fun r44 =>
 (binV Try.prog .lss 3 r44.1 (V.int .i64 0)).bind fun v45 =>
 onB v45
 ((ress [(some (V.bool false))]).map fun vs => (tupOf vs, r44.2))
 ((binV Try.prog .neq 3 r44.1 r40.1).bind fun v46 =>
 onB v46
 ((ress [(some (V.bool false))]).map fun vs => (tupOf vs, r44.2))
 ((call 8 [x0] r44.2).bind fun r47 =>
 (call 20 [r47.1] r47.2).bind fun r48 =>
 (extV r48.1 0).bind fun v49 =>
 (extV r48.1 1).bind fun v50 =>
 (extV r48.1 2).bind fun v51 =>
 alK [(V.sl 0 0 0 0), (V.sl 0 0 0 0)] r48.2 fun p52 h53 =>
 stN 2 h53 p52 v49 fun h54 =>
 (ldn 2 h54 p52).bind fun v55 =>
 (ldn 2 h54 x4).bind fun v56 =>
 (call 24 [v55, v56] h54).bind fun r57 =>
 (unV .not r57.1).bind fun v58 =>
 spB v58
 ((ress [(some (V.bool false))]).map fun vs => (tupOf vs, r57.2))
 ((call 25 [v50, x5] r57.2).bind fun r59 =>
 (unV .not r59.1).bind fun v60 =>
 spB v60
 ((ress [(some (V.bool false))]).map fun vs => (tupOf vs, r59.2))
 ((binV Try.prog .neq 4 v51 x6).bind fun v61 =>
 onB v61
 ((ress [(some (V.bool false))]).map fun vs => (tupOf vs, r59.2))
 ((ldn 2 r59.2 x8).bind fun v62 =>
 (call 28 [v62, (V.int .i64 1)] r59.2).bind fun r63 =>
 (binV Try.prog .lss 3 r63.1 (V.int .i64 0)).bind fun v64 =>
 onB v64
 ((ress [(some (V.bool false))]).map fun vs => (tupOf vs, r63.2))
 ((call 29 [x9, r63.1] r63.2).bind fun r65 =>
 (binV Try.prog .lss 3 r65.1 (V.int .i64 0)).bind fun v66 =>
 onB v66
 ((ress [(some (V.bool false))]).map fun vs => (tupOf vs, r65.2))
 ((binV Try.prog .neq 3 r65.1 r40.1).bind fun v67 =>
 onB v67
 ((ress [(some (V.bool false))]).map fun vs => (tupOf vs, r65.2))
 ((ress [(some (V.bool true))]).map fun vs => (tupOf vs, r65.2)))))))))) := by kernel_rfl
-- loop.example/g00224/laws.szCommandS
def an6 : Nat → List Nat := fun i => ([[0, 1], [0, 1], [0, 1], [], [0, 1], [0, 1, 5], [0, 1, 5], [0, 1, 5], [0, 1, 5], [], [1]] : List (List Nat)).getD i []
noncomputable def kf6 (call : CallF) : X → Env → H → Option (V × H) := finK Try.prog Try.f6.results.toList
noncomputable def k6_1 (call : CallF) : X → Env → H → Option (V × H) := sqK (fun _ E h => kC Try.prog call an6 27 (cdAt [1, 1, 1, 1] (bodyOf Try.f6)) (kf6 call) (keepAt an6 (cdAt [1, 1, 1, 1] (bodyOf Try.f6)) E) h) (kf6 call)
noncomputable def k6_2 (call : CallF) : X → Env → H → Option (V × H) := bkK 0 (k6_1 call)
noncomputable def S6_l5 (call : CallF) (x0 x1 x5 : V) (h : H) : Option (V × H) := loopK Try.prog call an6 27 (cdAt [1, 1, 1, 0, 1, 0, 0] (bodyOf Try.f6)) (k6_2 call) [(0, x0), (1, x1), (5, x5)] h
theorem S6_eq (a0 a1 : V) (h : H) : bodyK Try.prog call an6 Try.f6 (bodyOf Try.f6) [a0, a1] h =
 (lenL a0).bind fun v1 =>
 (binV Try.prog .sub 3 a1 v1).bind fun v2 =>
 (binV Try.prog .lss 3 v2 (V.int .i64 0)).bind fun v3 =>
 onB v3
 ((ress [(some (V.int .i64 (-1)))]).map fun vs => (tupOf vs, h))
 (S6_l5 call a0 v2 (V.int .i64 0) h) := by kernel_rfl
theorem S6_l5_eq (x0 x1 x5 : V) (h : H) : S6_l5 call x0 x1 x5 h =
 (lenL x0).bind fun v4 =>
 (binV Try.prog .lss 3 x5 v4).bind fun v5 =>
 onB v5
 ((iA 6 x0 x5).bind fun v6 =>
 (ldn 6 h v6).bind fun v7 =>
 (call 30 [v7, x1] h).bind fun r8 =>
 (binV Try.prog .lss 3 r8.1 (V.int .i64 0)).bind fun v9 =>
 onB v9
 ((ress [(some (V.int .i64 (-1)))]).map fun vs => (tupOf vs, r8.2))
 ((binV Try.prog .add 3 x5 (V.int .i64 1)).bind fun v10 =>
 S6_l5 call x0 r8.1 v10 r8.2))
 ((ress [(some x1)]).map fun vs => (tupOf vs, h)) := by
  refine (loopK_eq _ _ _ _ _ _ _).trans ?_
  kernel_rfl
-- loop.example/g00224/spec.ChangesOf
def an7 : Nat → List Nat := fun i => ([[0], [0], [], [0], [0, 4], [0, 4, 5], [4, 5, 13, 14, 15], [4, 5, 13, 14, 15], [4, 5, 6, 7, 13, 14, 15], [4, 5, 6, 7, 8, 13, 14, 15], [4, 5, 6, 8, 13, 14, 15], [4, 5, 6, 13, 14, 15], [4, 5, 13, 14, 15], [5]] : List (List Nat)).getD i []
noncomputable def kf7 (call : CallF) : X → Env → H → Option (V × H) := finK Try.prog Try.f7.results.toList
noncomputable def k7_1 (call : CallF) : X → Env → H → Option (V × H) := sqK (fun _ E h => kC Try.prog call an7 39 (cdAt [1, 1, 1, 1, 1] (bodyOf Try.f7)) (kf7 call) (keepAt an7 (cdAt [1, 1, 1, 1, 1] (bodyOf Try.f7)) E) h) (kf7 call)
noncomputable def k7_2 (call : CallF) : X → Env → H → Option (V × H) := bkK 0 (k7_1 call)
noncomputable def S7_l6 (call : CallF) (x4 x5 x13 x14 x15 : V) (h : H) : Option (V × H) := loopK Try.prog call an7 39 (cdAt [1, 1, 1, 1, 0, 1, 0, 0] (bodyOf Try.f7)) (k7_2 call) [(4, x4), (5, x5), (13, x13), (14, x14), (15, x15)] h
theorem S7_eq (a0 : V) (h : H) : bodyK Try.prog call an7 Try.f7 (bodyOf Try.f7) [a0] h =
 (lenL a0).bind fun v1 =>
 (binV Try.prog .gtr 3 v1 (V.int .i64 100)).bind fun v2 =>
 onB v2
 ((ress [(some (V.sl 0 0 0 0)), (some (V.bool false))]).map fun vs => (tupOf vs, h))
 ((bldV [(V.sl 0 0 0 0), (V.sl 0 0 0 0)] []).bind fun v3 =>
 alK [(V.sl 0 0 0 0), (V.sl 0 0 0 0)] h fun p4 h5 =>
 stN 2 h5 p4 v3 fun h6 =>
 (lenL a0).bind fun v7 =>
 S7_l6 call p4 (V.sl 0 0 0 0) a0 v7 (V.int .i64 0) h6) := by kernel_rfl
theorem S7_l6_eq (x4 x5 x13 x14 x15 : V) (h : H) : S7_l6 call x4 x5 x13 x14 x15 h =
 (binV Try.prog .lss 3 x15 x14).bind fun v8 =>
 onB v8
 ((iA 6 x13 x15).bind fun v9 =>
 (ldn 6 h v9).bind fun v10 =>
 alK [(V.int .i64 0), (V.int .i64 0), (V.int .i64 0), (V.str ⟨#[]⟩), (V.str ⟨#[]⟩), (V.str ⟨#[]⟩)] h fun p11 h12 =>
 stN 6 h12 p11 v10 fun h13 =>
 (fA 0 x4).bind fun v14 =>
 (ld1 h13 v14).bind fun v15 =>
 (ldn 2 h13 x4).bind fun v16 =>
 (ldn 6 h13 p11).bind fun v17 =>
 (call 31 [v16, v17] h13).bind fun r18 =>
 (extV r18.1 0).bind fun v19 =>
 (extV r18.1 1).bind fun v20 =>
 stN 2 r18.2 x4 v19 fun h21 =>
 (fA 0 x4).bind fun v22 =>
 (ld1 h21 v22).bind fun v23 =>
 (call 32 [v15, v23] h21).bind fun r24 =>
 (unV .not r24.1).bind fun v25 =>
 onB v25
 (bsK 1 1 r24.2 [(V.int .i64 0)] [(0, 1, x15)] fun p26 h27 =>
 (apL 1 8 h27 x5 p26).bind fun r28 =>
 (binV Try.prog .add 3 x15 (V.int .i64 1)).bind fun v29 =>
 S7_l6 call x4 r28.1 x13 x14 v29 r28.2)
 ((binV Try.prog .add 3 x15 (V.int .i64 1)).bind fun v30 =>
 S7_l6 call x4 x5 x13 x14 v30 r24.2))
 ((ress [(some x5), (some (V.bool true))]).map fun vs => (tupOf vs, h)) := by
  refine (loopK_eq _ _ _ _ _ _ _).trans ?_
  kernel_rfl
-- loop.example/g00224/laws.toCommandS
def an8 : Nat → List Nat := fun i => ([[0], [0], [0, 3], [0, 3, 4], [0, 3, 4], [0, 3, 4], [3]] : List (List Nat)).getD i []
noncomputable def kf8 (call : CallF) : X → Env → H → Option (V × H) := finK Try.prog Try.f8.results.toList
noncomputable def k8_1 (call : CallF) : X → Env → H → Option (V × H) := sqK (fun _ E h => kC Try.prog call an8 23 (cdAt [1, 1, 1] (bodyOf Try.f8)) (kf8 call) (keepAt an8 (cdAt [1, 1, 1] (bodyOf Try.f8)) E) h) (kf8 call)
noncomputable def k8_2 (call : CallF) : X → Env → H → Option (V × H) := bkK 0 (k8_1 call)
noncomputable def S8_l3 (call : CallF) (x0 x3 x4 : V) (h : H) : Option (V × H) := loopK Try.prog call an8 23 (cdAt [1, 1, 0, 1, 0, 0] (bodyOf Try.f8)) (k8_2 call) [(0, x0), (3, x3), (4, x4)] h
theorem S8_eq (a0 : V) (h : H) : bodyK Try.prog call an8 Try.f8 (bodyOf Try.f8) [a0] h =
 (lenL a0).bind fun v1 =>
 mkK 6 72 [(V.int .i64 0), (V.int .i64 0), (V.int .i64 0), (V.str ⟨#[]⟩), (V.str ⟨#[]⟩), (V.str ⟨#[]⟩)] h v1 v1 fun p2 h3 =>
 S8_l3 call a0 p2 (V.int .i64 0) h3 := by kernel_rfl
theorem S8_l3_eq (x0 x3 x4 : V) (h : H) : S8_l3 call x0 x3 x4 h =
 (lenL x0).bind fun v4 =>
 (binV Try.prog .lss 3 x4 v4).bind fun v5 =>
 onB v5
 ((iA 6 x0 x4).bind fun v6 =>
 (ldn 6 h v6).bind fun v7 =>
 (call 33 [v7] h).bind fun r8 =>
 (iA 6 x3 x4).bind fun v9 =>
 stN 6 r8.2 v9 r8.1 fun h10 =>
 (binV Try.prog .add 3 x4 (V.int .i64 1)).bind fun v11 =>
 S8_l3 call x0 x3 v11 h10)
 ((ress [(some x3)]).map fun vs => (tupOf vs, h)) := by
  refine (loopK_eq _ _ _ _ _ _ _).trans ?_
  kernel_rfl
-- loop.example/g00224/impl.ChangesOf
def an9 : Nat → List Nat := fun i => ([[0], [0], [], [0], [0, 4], [4]] : List (List Nat)).getD i []
theorem S9_eq (a0 : V) (h : H) : bodyK Try.prog call an9 Try.f9 (bodyOf Try.f9) [a0] h =
 (lenL a0).bind fun v1 =>
 (binV Try.prog .gtr 3 v1 (V.int .i64 100)).bind fun v2 =>
 onB v2
 ((ress [(some (V.sl 0 0 0 0)), (some (V.bool false))]).map fun vs => (tupOf vs, h))
 (bsK 1 0 h [] [] fun p3 h4 =>
 alK [(V.sl 0 0 0 0)] h4 fun p5 h6 =>
 stN 1 h6 p5 p3 fun h7 =>
 (mkF 35 [p5]).bind fun v8 =>
 (call 34 [a0, v8] h7).bind fun r9 =>
 (ld1 r9.2 p5).bind fun v10 =>
 (ress [(some v10), (some (V.bool true))]).map fun vs => (tupOf vs, r9.2)) := by kernel_rfl
-- loop.example/g00224/laws.eqIntS
def an10 : Nat → List Nat := fun i => ([[0, 1], [0, 1], [], [0, 1], [0, 1, 5], [0, 1, 5], [0, 1, 5], [], []] : List (List Nat)).getD i []
noncomputable def kf10 (call : CallF) : X → Env → H → Option (V × H) := finK Try.prog Try.f10.results.toList
noncomputable def k10_1 (call : CallF) : X → Env → H → Option (V × H) := sqK (fun _ E h => kC Try.prog call an10 26 (cdAt [1, 1, 1] (bodyOf Try.f10)) (kf10 call) (keepAt an10 (cdAt [1, 1, 1] (bodyOf Try.f10)) E) h) (kf10 call)
noncomputable def k10_2 (call : CallF) : X → Env → H → Option (V × H) := bkK 0 (k10_1 call)
noncomputable def S10_l4 (call : CallF) (x0 x1 x5 : V) (h : H) : Option (V × H) := loopK Try.prog call an10 26 (cdAt [1, 1, 0, 1, 0, 0] (bodyOf Try.f10)) (k10_2 call) [(0, x0), (1, x1), (5, x5)] h
theorem S10_eq (a0 a1 : V) (h : H) : bodyK Try.prog call an10 Try.f10 (bodyOf Try.f10) [a0, a1] h =
 (lenL a0).bind fun v1 =>
 (lenL a1).bind fun v2 =>
 (binV Try.prog .neq 3 v1 v2).bind fun v3 =>
 onB v3
 ((ress [(some (V.bool false))]).map fun vs => (tupOf vs, h))
 (S10_l4 call a0 a1 (V.int .i64 0) h) := by kernel_rfl
theorem S10_l4_eq (x0 x1 x5 : V) (h : H) : S10_l4 call x0 x1 x5 h =
 (lenL x0).bind fun v4 =>
 (binV Try.prog .lss 3 x5 v4).bind fun v5 =>
 onB v5
 ((iA 1 x0 x5).bind fun v6 =>
 (ld1 h v6).bind fun v7 =>
 (iA 1 x1 x5).bind fun v8 =>
 (ld1 h v8).bind fun v9 =>
 (binV Try.prog .neq 3 v7 v9).bind fun v10 =>
 onB v10
 ((ress [(some (V.bool false))]).map fun vs => (tupOf vs, h))
 ((binV Try.prog .add 3 x5 (V.int .i64 1)).bind fun v11 =>
 S10_l4 call x0 x1 v11 h))
 ((ress [(some (V.bool true))]).map fun vs => (tupOf vs, h)) := by
  refine (loopK_eq _ _ _ _ _ _ _).trans ?_
  kernel_rfl
-- loop.example/g00224/laws.eqCommandS
def an11 : Nat → List Nat := fun i => ([[0, 1], [0, 1], [], [0, 1], [0, 1, 5], [0, 1, 5], [0, 1, 5], [], []] : List (List Nat)).getD i []
noncomputable def kf11 (call : CallF) : X → Env → H → Option (V × H) := finK Try.prog Try.f11.results.toList
noncomputable def k11_1 (call : CallF) : X → Env → H → Option (V × H) := sqK (fun _ E h => kC Try.prog call an11 27 (cdAt [1, 1, 1] (bodyOf Try.f11)) (kf11 call) (keepAt an11 (cdAt [1, 1, 1] (bodyOf Try.f11)) E) h) (kf11 call)
noncomputable def k11_2 (call : CallF) : X → Env → H → Option (V × H) := bkK 0 (k11_1 call)
noncomputable def S11_l4 (call : CallF) (x0 x1 x5 : V) (h : H) : Option (V × H) := loopK Try.prog call an11 27 (cdAt [1, 1, 0, 1, 0, 0] (bodyOf Try.f11)) (k11_2 call) [(0, x0), (1, x1), (5, x5)] h
theorem S11_eq (a0 a1 : V) (h : H) : bodyK Try.prog call an11 Try.f11 (bodyOf Try.f11) [a0, a1] h =
 (lenL a0).bind fun v1 =>
 (lenL a1).bind fun v2 =>
 (binV Try.prog .neq 3 v1 v2).bind fun v3 =>
 onB v3
 ((ress [(some (V.bool false))]).map fun vs => (tupOf vs, h))
 (S11_l4 call a0 a1 (V.int .i64 0) h) := by kernel_rfl
theorem S11_l4_eq (x0 x1 x5 : V) (h : H) : S11_l4 call x0 x1 x5 h =
 (lenL x0).bind fun v4 =>
 (binV Try.prog .lss 3 x5 v4).bind fun v5 =>
 onB v5
 ((iA 6 x0 x5).bind fun v6 =>
 (ldn 6 h v6).bind fun v7 =>
 (iA 6 x1 x5).bind fun v8 =>
 (ldn 6 h v8).bind fun v9 =>
 (call 36 [v7, v9] h).bind fun r10 =>
 (unV .not r10.1).bind fun v11 =>
 onB v11
 ((ress [(some (V.bool false))]).map fun vs => (tupOf vs, r10.2))
 ((binV Try.prog .add 3 x5 (V.int .i64 1)).bind fun v12 =>
 S11_l4 call x0 x1 v12 r10.2))
 ((ress [(some (V.bool true))]).map fun vs => (tupOf vs, h)) := by
  refine (loopK_eq _ _ _ _ _ _ _).trans ?_
  kernel_rfl
-- loop.example/g00224/laws.markCommandS
def an12 : Nat → List Nat := fun i => ([[0, 1], [0, 1], [0, 1, 5], [0, 1, 5], [0, 1, 5], [0, 1, 5], [0, 1, 5], [0, 1, 5], [0, 1, 5], [0, 1, 5], [0, 1, 5], [0, 1, 5], [0, 1, 5], [0, 1, 5], [0, 1, 5], [0, 1, 5], [1]] : List (List Nat)).getD i []
noncomputable def kf12 (call : CallF) : X → Env → H → Option (V × H) := finK Try.prog Try.f12.results.toList
noncomputable def k12_1 (call : CallF) : X → Env → H → Option (V × H) := sqK (fun _ E h => kC Try.prog call an12 58 (cdAt [1, 1] (bodyOf Try.f12)) (kf12 call) (keepAt an12 (cdAt [1, 1] (bodyOf Try.f12)) E) h) (kf12 call)
noncomputable def k12_2 (call : CallF) : X → Env → H → Option (V × H) := bkK 0 (k12_1 call)
noncomputable def S12_l2 (call : CallF) (x0 x1 x5 : V) (h : H) : Option (V × H) := loopK Try.prog call an12 58 (cdAt [1, 0, 1, 0, 0] (bodyOf Try.f12)) (k12_2 call) [(0, x0), (1, x1), (5, x5)] h
theorem S12_eq (a0 a1 : V) (h : H) : bodyK Try.prog call an12 Try.f12 (bodyOf Try.f12) [a0, a1] h =
 S12_l2 call a0 a1 (V.int .i64 0) h := by kernel_rfl
theorem S12_l2_eq (x0 x1 x5 : V) (h : H) : S12_l2 call x0 x1 x5 h =
 (lenL x0).bind fun v1 =>
 (binV Try.prog .lss 3 x5 v1).bind fun v2 =>
 onB v2
 ((iA 6 x0 x5).bind fun v3 =>
 (fA 0 v3).bind fun v4 =>
 stN 1 h v4 x1 fun h5 =>
 (binV Try.prog .add 3 x1 (V.int .i64 1)).bind fun v6 =>
 (iA 6 x0 x5).bind fun v7 =>
 (fA 1 v7).bind fun v8 =>
 stN 1 h5 v8 v6 fun h9 =>
 (binV Try.prog .add 3 v6 (V.int .i64 1)).bind fun v10 =>
 (iA 6 x0 x5).bind fun v11 =>
 (fA 2 v11).bind fun v12 =>
 stN 1 h9 v12 v10 fun h13 =>
 (binV Try.prog .add 3 v10 (V.int .i64 1)).bind fun v14 =>
 (call 37 [v14] h13).bind fun r15 =>
 (iA 6 x0 x5).bind fun v16 =>
 (fA 3 v16).bind fun v17 =>
 stN 1 r15.2 v17 r15.1 fun h18 =>
 (binV Try.prog .add 3 v14 (V.int .i64 1)).bind fun v19 =>
 (call 37 [v19] h18).bind fun r20 =>
 (iA 6 x0 x5).bind fun v21 =>
 (fA 4 v21).bind fun v22 =>
 stN 1 r20.2 v22 r20.1 fun h23 =>
 (binV Try.prog .add 3 v19 (V.int .i64 1)).bind fun v24 =>
 (call 37 [v24] h23).bind fun r25 =>
 (iA 6 x0 x5).bind fun v26 =>
 (fA 5 v26).bind fun v27 =>
 stN 1 r25.2 v27 r25.1 fun h28 =>
 (binV Try.prog .add 3 v24 (V.int .i64 1)).bind fun v29 =>
 (binV Try.prog .add 3 x5 (V.int .i64 1)).bind fun v30 =>
 S12_l2 call x0 v29 v30 h28)
 ((ress [(some x1)]).map fun vs => (tupOf vs, h)) := by
  refine (loopK_eq _ _ _ _ _ _ _).trans ?_
  kernel_rfl
-- loop.example/g00224/laws.markIntS
def an13 : Nat → List Nat := fun i => ([[0, 1], [0, 1], [0, 1, 5], [0, 1, 5], [0, 1, 5], [0, 1, 5], [1]] : List (List Nat)).getD i []
noncomputable def kf13 (call : CallF) : X → Env → H → Option (V × H) := finK Try.prog Try.f13.results.toList
noncomputable def k13_1 (call : CallF) : X → Env → H → Option (V × H) := sqK (fun _ E h => kC Try.prog call an13 19 (cdAt [1, 1] (bodyOf Try.f13)) (kf13 call) (keepAt an13 (cdAt [1, 1] (bodyOf Try.f13)) E) h) (kf13 call)
noncomputable def k13_2 (call : CallF) : X → Env → H → Option (V × H) := bkK 0 (k13_1 call)
noncomputable def S13_l2 (call : CallF) (x0 x1 x5 : V) (h : H) : Option (V × H) := loopK Try.prog call an13 19 (cdAt [1, 0, 1, 0, 0] (bodyOf Try.f13)) (k13_2 call) [(0, x0), (1, x1), (5, x5)] h
theorem S13_eq (a0 a1 : V) (h : H) : bodyK Try.prog call an13 Try.f13 (bodyOf Try.f13) [a0, a1] h =
 S13_l2 call a0 a1 (V.int .i64 0) h := by kernel_rfl
theorem S13_l2_eq (x0 x1 x5 : V) (h : H) : S13_l2 call x0 x1 x5 h =
 (lenL x0).bind fun v1 =>
 (binV Try.prog .lss 3 x5 v1).bind fun v2 =>
 onB v2
 ((iA 1 x0 x5).bind fun v3 =>
 stN 1 h v3 x1 fun h4 =>
 (binV Try.prog .add 3 x1 (V.int .i64 1)).bind fun v5 =>
 (binV Try.prog .add 3 x5 (V.int .i64 1)).bind fun v6 =>
 S13_l2 call x0 v5 v6 h4)
 ((ress [(some x1)]).map fun vs => (tupOf vs, h)) := by
  refine (loopK_eq _ _ _ _ _ _ _).trans ?_
  kernel_rfl
-- loop.example/g00224/laws.heldIntS
def an14 : Nat → List Nat := fun i => ([[0, 1], [0, 1], [0, 1, 5], [0, 1, 5], [0, 1, 5], [], [0, 1, 5], [1]] : List (List Nat)).getD i []
noncomputable def kf14 (call : CallF) : X → Env → H → Option (V × H) := finK Try.prog Try.f14.results.toList
noncomputable def k14_1 (call : CallF) : X → Env → H → Option (V × H) := sqK (fun _ E h => kC Try.prog call an14 21 (cdAt [1, 1] (bodyOf Try.f14)) (kf14 call) (keepAt an14 (cdAt [1, 1] (bodyOf Try.f14)) E) h) (kf14 call)
noncomputable def k14_2 (call : CallF) : X → Env → H → Option (V × H) := bkK 0 (k14_1 call)
noncomputable def S14_l2 (call : CallF) (x0 x1 x5 : V) (h : H) : Option (V × H) := loopK Try.prog call an14 21 (cdAt [1, 0, 1, 0, 0] (bodyOf Try.f14)) (k14_2 call) [(0, x0), (1, x1), (5, x5)] h
theorem S14_eq (a0 a1 : V) (h : H) : bodyK Try.prog call an14 Try.f14 (bodyOf Try.f14) [a0, a1] h =
 S14_l2 call a0 a1 (V.int .i64 0) h := by kernel_rfl
theorem S14_l2_eq (x0 x1 x5 : V) (h : H) : S14_l2 call x0 x1 x5 h =
 (lenL x0).bind fun v1 =>
 (binV Try.prog .lss 3 x5 v1).bind fun v2 =>
 onB v2
 ((iA 1 x0 x5).bind fun v3 =>
 (ld1 h v3).bind fun v4 =>
 (binV Try.prog .neq 3 v4 x1).bind fun v5 =>
 onB v5
 ((ress [(some (V.int .i64 (-1)))]).map fun vs => (tupOf vs, h))
 ((binV Try.prog .add 3 x1 (V.int .i64 1)).bind fun v6 =>
 (binV Try.prog .add 3 x5 (V.int .i64 1)).bind fun v7 =>
 S14_l2 call x0 v6 v7 h))
 ((ress [(some x1)]).map fun vs => (tupOf vs, h)) := by
  refine (loopK_eq _ _ _ _ _ _ _).trans ?_
  kernel_rfl
-- loop.example/g00224/spec.DrawCommandBytes
def an15 : Nat → List Nat := fun i => ([[0], [0, 2]] : List (List Nat)).getD i []
theorem S15_eq (a0 : V) (h : H) : bodyK Try.prog call an15 Try.f15 (bodyOf Try.f15) [a0] h =
 alK [(V.int .i64 0), (V.int .i64 0), (V.int .i64 0), (V.str ⟨#[]⟩), (V.str ⟨#[]⟩), (V.str ⟨#[]⟩)] h fun p1 h2 =>
 (call 38 [a0] h2).bind fun r3 =>
 stN 6 r3.2 p1 r3.1 fun h4 =>
 (ress [(ldn 6 h4 p1)]).map fun vs => (tupOf vs, h4) := by kernel_rfl
-- loop.example/g00224/impl.CommandBytes
def an16 : Nat → List Nat := fun i => ([[0], [1], [], [1]] : List (List Nat)).getD i []
theorem S16_eq (a0 : V) (h : H) : bodyK Try.prog call an16 Try.f16 (bodyOf Try.f16) [a0] h =
 bxK h a0 fun p1 h2 =>
 (ldn 6 h2 p1).bind fun v3 =>
 (call 39 [v3] h2).bind fun r4 =>
 (unV .not r4.1).bind fun v5 =>
 onB v5
 ((ress [(some (V.str ⟨#[]⟩)), (some (V.bool false))]).map fun vs => (tupOf vs, r4.2))
 ((fA 0 p1).bind fun v6 =>
 (ld1 r4.2 v6).bind fun v7 =>
 (fA 1 p1).bind fun v8 =>
 (ld1 r4.2 v8).bind fun v9 =>
 (fA 2 p1).bind fun v10 =>
 (ld1 r4.2 v10).bind fun v11 =>
 (cvI .u8 v11).bind fun v12 =>
 (fA 3 p1).bind fun v13 =>
 (ld1 r4.2 v13).bind fun v14 =>
 (fA 4 p1).bind fun v15 =>
 (ld1 r4.2 v15).bind fun v16 =>
 (fA 5 p1).bind fun v17 =>
 (ld1 r4.2 v17).bind fun v18 =>
 (pcall call 40 [v7]).bind fun v19 =>
 (pcall call 40 [v9]).bind fun v20 =>
 (binV Try.prog .add 9 v19 v20).bind fun v21 =>
 (pcall call 41 [v14]).bind fun v22 =>
 (pcall call 41 [v16]).bind fun v23 =>
 (pcall call 41 [v18]).bind fun v24 =>
 bsK 1 1 r4.2 [(V.int .u8 0)] [(0, 1, v12)] fun p25 h26 =>
 pdV h26 v17 r4.2 (
 pdV h26 v15 r4.2 (
 pdV h26 v13 r4.2 (
 pdV h26 v10 r4.2 (
 pdV h26 v8 r4.2 (
 pdV h26 v6 r4.2 (
 (cvB h26 p25).bind fun v27 =>
 (binV Try.prog .add 9 v21 v27).bind fun v28 =>
 (binV Try.prog .add 9 v28 v22).bind fun v29 =>
 (binV Try.prog .add 9 v29 v23).bind fun v30 =>
 (binV Try.prog .add 9 v30 v24).bind fun v31 =>
 (ress [(some v31), (some (V.bool true))]).map fun vs => (tupOf vs, h26)))))))) := by kernel_rfl
-- loop.example/g00224/spec.CommandBytes
def an17 : Nat → List Nat := fun i => ([[0], [1], [], [1]] : List (List Nat)).getD i []
theorem S17_eq (a0 : V) (h : H) : bodyK Try.prog call an17 Try.f17 (bodyOf Try.f17) [a0] h =
 bxK h a0 fun p1 h2 =>
 (ldn 6 h2 p1).bind fun v3 =>
 (call 42 [v3] h2).bind fun r4 =>
 (unV .not r4.1).bind fun v5 =>
 onB v5
 ((ress [(some (V.str ⟨#[]⟩)), (some (V.bool false))]).map fun vs => (tupOf vs, r4.2))
 ((ldn 6 r4.2 p1).bind fun v6 =>
 (call 43 [v6] r4.2).bind fun r7 =>
 (ress [(some r7.1), (some (V.bool true))]).map fun vs => (tupOf vs, r7.2)) := by kernel_rfl
-- loop.example/g00224/impl.ReadCommand
def an18 : Nat → List Nat := fun i => ([[0], [0, 2], [2, 4, 5], [2, 4, 5], [2, 4, 5], [2, 4, 5, 6], [2, 4, 5, 6], [2, 4, 5], [2, 4, 5], [2, 4, 5], [2, 4, 5], [2], [2, 5]] : List (List Nat)).getD i []
noncomputable def kf18 (call : CallF) : X → Env → H → Option (V × H) := finK Try.prog Try.f18.results.toList
noncomputable def S18_j7 (call : CallF) (x2 x4 x5 : V) (h : H) : Option (V × H) := kC Try.prog call an18 44 (cdAt [1, 1, 1, 1, 1] (bodyOf Try.f18)) (kf18 call) [(2, x2), (4, x4), (5, x5)] h
theorem S18_eq (a0 : V) (h : H) : bodyK Try.prog call an18 Try.f18 (bodyOf Try.f18) [a0] h =
 alK [(V.int .i64 0), (V.int .i64 0), (V.int .i64 0), (V.str ⟨#[]⟩), (V.str ⟨#[]⟩), (V.str ⟨#[]⟩)] h fun p1 h2 =>
 (bldV [(V.str ⟨#[]⟩), (V.bool false)] [(0, 1, a0)]).bind fun v3 =>
 bxK h2 v3 fun p4 h5 =>
 (bldV [(V.int .i64 0), (V.int .i64 0), (V.int .i64 0), (V.str ⟨#[]⟩), (V.str ⟨#[]⟩), (V.str ⟨#[]⟩)] []).bind fun v6 =>
 alK [(V.int .i64 0), (V.int .i64 0), (V.int .i64 0), (V.str ⟨#[]⟩), (V.str ⟨#[]⟩), (V.str ⟨#[]⟩)] h5 fun p7 h8 =>
 stN 6 h8 p7 v6 fun h9 =>
 (call 44 [p4] h9).bind fun r10 =>
 (fA 0 p7).bind fun v11 =>
 stN 1 r10.2 v11 r10.1 fun h12 =>
 (call 44 [p4] h12).bind fun r13 =>
 (fA 1 p7).bind fun v14 =>
 stN 1 r13.2 v14 r13.1 fun h15 =>
 (call 45 [p4, (V.int .i64 1)] h15).bind fun r16 =>
 (binV Try.prog .neq 9 r16.1 (V.str ⟨#[]⟩)).bind fun v17 =>
 onB v17
 ((ixS r16.1 (V.int .i64 0)).bind fun v18 =>
 (cvI .i64 v18).bind fun v19 =>
 (fA 2 p7).bind fun v20 =>
 stN 1 r16.2 v20 v19 fun h21 =>
 S18_j7 call p1 p4 p7 h21)
 (S18_j7 call p1 p4 p7 r16.2) := by kernel_rfl
theorem S18_j7_eq (x2 x4 x5 : V) (h : H) : S18_j7 call x2 x4 x5 h =
 (call 46 [x4] h).bind fun r22 =>
 (fA 3 x5).bind fun v23 =>
 stN 1 r22.2 v23 r22.1 fun h24 =>
 (call 46 [x4] h24).bind fun r25 =>
 (fA 4 x5).bind fun v26 =>
 stN 1 r25.2 v26 r25.1 fun h27 =>
 (call 46 [x4] h27).bind fun r28 =>
 (fA 5 x5).bind fun v29 =>
 stN 1 r28.2 v29 r28.1 fun h30 =>
 (call 47 [x4] h30).bind fun r31 =>
 (unV .not r31.1).bind fun v32 =>
 spB v32
 ((bldV [(V.int .i64 0), (V.int .i64 0), (V.int .i64 0), (V.str ⟨#[]⟩), (V.str ⟨#[]⟩), (V.str ⟨#[]⟩)] []).bind fun v33 =>
 stN 6 r31.2 x2 v33 fun h34 =>
 (ress [(ldn 6 h34 x2), (some (V.bool false))]).map fun vs => (tupOf vs, h34))
 ((ldn 6 r31.2 x5).bind fun v35 =>
 (call 39 [v35] r31.2).bind fun r36 =>
 (unV .not r36.1).bind fun v37 =>
 onB v37
 ((bldV [(V.int .i64 0), (V.int .i64 0), (V.int .i64 0), (V.str ⟨#[]⟩), (V.str ⟨#[]⟩), (V.str ⟨#[]⟩)] []).bind fun v38 =>
 stN 6 r36.2 x2 v38 fun h39 =>
 (ress [(ldn 6 h39 x2), (some (V.bool false))]).map fun vs => (tupOf vs, h39))
 ((ldn 6 r36.2 x5).bind fun v40 =>
 stN 6 r36.2 x2 v40 fun h41 =>
 (ress [(ldn 6 h41 x2), (some (V.bool true))]).map fun vs => (tupOf vs, h41))) := by kernel_rfl
-- loop.example/g00224/spec.DrawFoldCommands
def an19 : Nat → List Nat := fun i => ([[0], [0], [3]] : List (List Nat)).getD i []
theorem S19_eq (a0 : V) (h : H) : bodyK Try.prog call an19 Try.f19 (bodyOf Try.f19) [a0] h =
 (bldV [(V.sl 0 0 0 0), (V.int .i64 0), (V.int .u64 0)] [(0, 1, a0)]).bind fun v1 =>
 bxK h v1 fun p2 h3 =>
 (call 48 [p2] h3).bind fun r4 =>
 (ress [(some r4.1)]).map fun vs => (tupOf vs, r4.2) := by kernel_rfl
-- loop.example/g00224/impl.FoldCommands
def an20 : Nat → List Nat := fun i => ([[0], [0, 2], [2], [0, 2], [0, 2, 5, 6], [2, 5, 6, 15, 16, 17], [2, 5, 6, 15, 16, 17], [2, 5, 6, 8, 15, 16, 17], [2, 5, 6, 15, 16, 17], [2, 5, 6]] : List (List Nat)).getD i []
noncomputable def kf20 (call : CallF) : X → Env → H → Option (V × H) := finK Try.prog Try.f20.results.toList
noncomputable def k20_1 (call : CallF) : X → Env → H → Option (V × H) := sqK (fun _ E h => kC Try.prog call an20 29 (cdAt [1, 1, 1, 1] (bodyOf Try.f20)) (kf20 call) (keepAt an20 (cdAt [1, 1, 1, 1] (bodyOf Try.f20)) E) h) (kf20 call)
noncomputable def k20_2 (call : CallF) : X → Env → H → Option (V × H) := bkK 0 (k20_1 call)
noncomputable def S20_l5 (call : CallF) (x2 x5 x6 x15 x16 x17 : V) (h : H) : Option (V × H) := loopK Try.prog call an20 29 (cdAt [1, 1, 1, 0, 1, 0, 0] (bodyOf Try.f20)) (k20_2 call) [(2, x2), (5, x5), (6, x6), (15, x15), (16, x16), (17, x17)] h
theorem S20_eq (a0 : V) (h : H) : bodyK Try.prog call an20 Try.f20 (bodyOf Try.f20) [a0] h =
 alK [(V.sl 0 0 0 0), (V.sl 0 0 0 0)] h fun p1 h2 =>
 (lenL a0).bind fun v3 =>
 (binV Try.prog .gtr 3 v3 (V.int .i64 100)).bind fun v4 =>
 onB v4
 ((bldV [(V.sl 0 0 0 0), (V.sl 0 0 0 0)] []).bind fun v5 =>
 stN 2 h2 p1 v5 fun h6 =>
 (ress [(ldn 2 h6 p1), (some (V.sl 0 0 0 0)), (some (V.bool false))]).map fun vs => (tupOf vs, h6))
 ((bldV [(V.sl 0 0 0 0), (V.sl 0 0 0 0)] []).bind fun v7 =>
 bsK 2 0 h2 [] [] fun p8 h9 =>
 alK [(V.sl 0 0 0 0), (V.sl 0 0 0 0)] h9 fun p10 h11 =>
 stN 2 h11 p10 v7 fun h12 =>
 (lenL a0).bind fun v13 =>
 S20_l5 call p1 p10 p8 a0 v13 (V.int .i64 0) h12) := by kernel_rfl
theorem S20_l5_eq (x2 x5 x6 x15 x16 x17 : V) (h : H) : S20_l5 call x2 x5 x6 x15 x16 x17 h =
 (binV Try.prog .lss 3 x17 x16).bind fun v14 =>
 onB v14
 ((iA 6 x15 x17).bind fun v15 =>
 (ldn 6 h v15).bind fun v16 =>
 alK [(V.int .i64 0), (V.int .i64 0), (V.int .i64 0), (V.str ⟨#[]⟩), (V.str ⟨#[]⟩), (V.str ⟨#[]⟩)] h fun p17 h18 =>
 stN 6 h18 p17 v16 fun h19 =>
 (ldn 6 h19 p17).bind fun v20 =>
 (call 49 [x5, v20] h19).bind fun r21 =>
 bsK 2 1 r21.2 [(V.int .i64 0), (V.str ⟨#[]⟩)] [(0, 2, r21.1)] fun p22 h23 =>
 (apL 2 24 h23 x6 p22).bind fun r24 =>
 (binV Try.prog .add 3 x17 (V.int .i64 1)).bind fun v25 =>
 S20_l5 call x2 x5 r24.1 x15 x16 v25 r24.2)
 ((ldn 2 h x5).bind fun v26 =>
 stN 2 h x2 v26 fun h27 =>
 (ress [(ldn 2 h27 x2), (some x6), (some (V.bool true))]).map fun vs => (tupOf vs, h27)) := by
  refine (loopK_eq _ _ _ _ _ _ _).trans ?_
  kernel_rfl
-- loop.example/g00224/spec.FoldCommands
def an21 : Nat → List Nat := fun i => ([[0], [0, 2], [2], [0, 2], [0, 2, 5], [0, 2, 5, 6], [2, 5, 6, 16, 17, 18], [2, 5, 6, 16, 17, 18], [2, 5, 6, 8, 16, 17, 18], [2, 5, 6, 9, 10, 16, 17, 18], [2, 5, 6, 10, 16, 17, 18], [2, 5, 6, 16, 17, 18], [2, 5, 6]] : List (List Nat)).getD i []
noncomputable def kf21 (call : CallF) : X → Env → H → Option (V × H) := finK Try.prog Try.f21.results.toList
noncomputable def k21_1 (call : CallF) : X → Env → H → Option (V × H) := sqK (fun _ E h => kC Try.prog call an21 37 (cdAt [1, 1, 1, 1, 1] (bodyOf Try.f21)) (kf21 call) (keepAt an21 (cdAt [1, 1, 1, 1, 1] (bodyOf Try.f21)) E) h) (kf21 call)
noncomputable def k21_2 (call : CallF) : X → Env → H → Option (V × H) := bkK 0 (k21_1 call)
noncomputable def S21_l6 (call : CallF) (x2 x5 x6 x16 x17 x18 : V) (h : H) : Option (V × H) := loopK Try.prog call an21 37 (cdAt [1, 1, 1, 1, 0, 1, 0, 0] (bodyOf Try.f21)) (k21_2 call) [(2, x2), (5, x5), (6, x6), (16, x16), (17, x17), (18, x18)] h
theorem S21_eq (a0 : V) (h : H) : bodyK Try.prog call an21 Try.f21 (bodyOf Try.f21) [a0] h =
 alK [(V.sl 0 0 0 0), (V.sl 0 0 0 0)] h fun p1 h2 =>
 (lenL a0).bind fun v3 =>
 (binV Try.prog .gtr 3 v3 (V.int .i64 100)).bind fun v4 =>
 onB v4
 ((bldV [(V.sl 0 0 0 0), (V.sl 0 0 0 0)] []).bind fun v5 =>
 stN 2 h2 p1 v5 fun h6 =>
 (ress [(ldn 2 h6 p1), (some (V.sl 0 0 0 0)), (some (V.bool false))]).map fun vs => (tupOf vs, h6))
 ((bldV [(V.sl 0 0 0 0), (V.sl 0 0 0 0)] []).bind fun v7 =>
 alK [(V.sl 0 0 0 0), (V.sl 0 0 0 0)] h2 fun p8 h9 =>
 stN 2 h9 p8 v7 fun h10 =>
 (lenL a0).bind fun v11 =>
 S21_l6 call p1 p8 (V.sl 0 0 0 0) a0 v11 (V.int .i64 0) h10) := by kernel_rfl
theorem S21_l6_eq (x2 x5 x6 x16 x17 x18 : V) (h : H) : S21_l6 call x2 x5 x6 x16 x17 x18 h =
 (binV Try.prog .lss 3 x18 x17).bind fun v12 =>
 onB v12
 ((iA 6 x16 x18).bind fun v13 =>
 (ldn 6 h v13).bind fun v14 =>
 alK [(V.int .i64 0), (V.int .i64 0), (V.int .i64 0), (V.str ⟨#[]⟩), (V.str ⟨#[]⟩), (V.str ⟨#[]⟩)] h fun p15 h16 =>
 stN 6 h16 p15 v14 fun h17 =>
 (ldn 2 h17 x5).bind fun v18 =>
 (ldn 6 h17 p15).bind fun v19 =>
 (call 31 [v18, v19] h17).bind fun r20 =>
 (extV r20.1 0).bind fun v21 =>
 (extV r20.1 1).bind fun v22 =>
 alK [(V.sl 0 0 0 0), (V.sl 0 0 0 0)] r20.2 fun p23 h24 =>
 alK [(V.int .i64 0), (V.str ⟨#[]⟩)] h24 fun p25 h26 =>
 stN 2 h26 p23 v21 fun h27 =>
 stN 2 h27 p25 v22 fun h28 =>
 (ldn 2 h28 p23).bind fun v29 =>
 stN 2 h28 x5 v29 fun h30 =>
 (ldn 2 h30 p25).bind fun v31 =>
 bsK 2 1 h30 [(V.int .i64 0), (V.str ⟨#[]⟩)] [(0, 2, v31)] fun p32 h33 =>
 (apL 2 24 h33 x6 p32).bind fun r34 =>
 (binV Try.prog .add 3 x18 (V.int .i64 1)).bind fun v35 =>
 S21_l6 call x2 x5 r34.1 x16 x17 v35 r34.2)
 ((ldn 2 h x5).bind fun v36 =>
 (call 50 [v36] h).bind fun r37 =>
 stN 2 r37.2 x2 r37.1 fun h38 =>
 (ress [(ldn 2 h38 x2), (some x6), (some (V.bool true))]).map fun vs => (tupOf vs, h38)) := by
  refine (loopK_eq _ _ _ _ _ _ _).trans ?_
  kernel_rfl
-- loop.example/g00224/laws.sameStates
def an22 : Nat → List Nat := fun i => ([[0, 1], [2, 3], [], [2, 3], [2, 3, 23, 24], [2, 3, 23, 24], [2, 3, 5, 23, 24], [], [2, 3, 23, 24], []] : List (List Nat)).getD i []
noncomputable def kf22 (call : CallF) : X → Env → H → Option (V × H) := finK Try.prog Try.f22.results.toList
noncomputable def k22_1 (call : CallF) : X → Env → H → Option (V × H) := sqK (fun _ E h => kC Try.prog call an22 39 (cdAt [1, 1, 1] (bodyOf Try.f22)) (kf22 call) (keepAt an22 (cdAt [1, 1, 1] (bodyOf Try.f22)) E) h) (kf22 call)
noncomputable def k22_2 (call : CallF) : X → Env → H → Option (V × H) := bkK 0 (k22_1 call)
noncomputable def S22_j3 (call : CallF) (x2 x3 : V) (h : H) : Option (V × H) := kC Try.prog call an22 39 (cdAt [1, 1] (bodyOf Try.f22)) (kf22 call) [(2, x2), (3, x3)] h
noncomputable def S22_l4 (call : CallF) (x2 x3 x23 x24 : V) (h : H) : Option (V × H) := loopK Try.prog call an22 39 (cdAt [1, 1, 0, 1, 0, 0] (bodyOf Try.f22)) (k22_2 call) [(2, x2), (3, x3), (23, x23), (24, x24)] h
theorem S22_eq (a0 a1 : V) (h : H) : bodyK Try.prog call an22 Try.f22 (bodyOf Try.f22) [a0, a1] h =
 bxK h a0 fun p1 h2 =>
 bxK h2 a1 fun p3 h4 =>
 (fA 0 p1).bind fun v5 =>
 (ld1 h4 v5).bind fun v6 =>
 (fA 0 p3).bind fun v7 =>
 (ld1 h4 v7).bind fun v8 =>
 (call 23 [v6, v8] h4).bind fun r9 =>
 (unV .not r9.1).bind fun v10 =>
 spB v10
 ((ress [(some (V.bool false))]).map fun vs => (tupOf vs, r9.2))
 ((fA 1 p1).bind fun v11 =>
 (ld1 r9.2 v11).bind fun v12 =>
 (lenL v12).bind fun v13 =>
 (fA 1 p3).bind fun v14 =>
 (ld1 r9.2 v14).bind fun v15 =>
 (lenL v15).bind fun v16 =>
 (binV Try.prog .neq 3 v13 v16).bind fun v17 =>
 onB v17
 ((ress [(some (V.bool false))]).map fun vs => (tupOf vs, r9.2))
 (S22_j3 call p1 p3 r9.2)) := by kernel_rfl
theorem S22_j3_eq (x2 x3 : V) (h : H) : S22_j3 call x2 x3 h =
 (fA 1 x2).bind fun v18 =>
 (ld1 h v18).bind fun v19 =>
 (lenL v19).bind fun v20 =>
 S22_l4 call x2 x3 v20 (V.int .i64 0) h := by kernel_rfl
theorem S22_l4_eq (x2 x3 x23 x24 : V) (h : H) : S22_l4 call x2 x3 x23 x24 h =
 (binV Try.prog .lss 3 x24 x23).bind fun v21 =>
 onB v21
 ((fA 1 x2).bind fun v22 =>
 (ld1 h v22).bind fun v23 =>
 (iA 4 v23 x24).bind fun v24 =>
 (ldn 4 h v24).bind fun v25 =>
 (fA 1 x3).bind fun v26 =>
 (ld1 h v26).bind fun v27 =>
 (iA 4 v27 x24).bind fun v28 =>
 (ldn 4 h v28).bind fun v29 =>
 (binV Try.prog .neq 86 v25 v29).bind fun v30 =>
 onB v30
 ((ress [(some (V.bool false))]).map fun vs => (tupOf vs, h))
 ((binV Try.prog .add 3 x24 (V.int .i64 1)).bind fun v31 =>
 S22_l4 call x2 x3 x23 v31 h))
 ((ress [(some (V.bool true))]).map fun vs => (tupOf vs, h)) := by
  refine (loopK_eq _ _ _ _ _ _ _).trans ?_
  kernel_rfl
-- loop.example/g00224/laws.samePairs
def an23 : Nat → List Nat := fun i => ([[0, 1], [0, 1], [], [0, 1], [0, 1, 12, 13], [0, 1, 12, 13], [0, 1, 5, 12, 13], [], [0, 1, 12, 13], []] : List (List Nat)).getD i []
noncomputable def kf23 (call : CallF) : X → Env → H → Option (V × H) := finK Try.prog Try.f23.results.toList
noncomputable def k23_1 (call : CallF) : X → Env → H → Option (V × H) := sqK (fun _ E h => kC Try.prog call an23 26 (cdAt [1, 1, 1] (bodyOf Try.f23)) (kf23 call) (keepAt an23 (cdAt [1, 1, 1] (bodyOf Try.f23)) E) h) (kf23 call)
noncomputable def k23_2 (call : CallF) : X → Env → H → Option (V × H) := bkK 0 (k23_1 call)
noncomputable def S23_l4 (call : CallF) (x0 x1 x12 x13 : V) (h : H) : Option (V × H) := loopK Try.prog call an23 26 (cdAt [1, 1, 0, 1, 0, 0] (bodyOf Try.f23)) (k23_2 call) [(0, x0), (1, x1), (12, x12), (13, x13)] h
theorem S23_eq (a0 a1 : V) (h : H) : bodyK Try.prog call an23 Try.f23 (bodyOf Try.f23) [a0, a1] h =
 (lenL a0).bind fun v1 =>
 (lenL a1).bind fun v2 =>
 (binV Try.prog .neq 3 v1 v2).bind fun v3 =>
 onB v3
 ((ress [(some (V.bool false))]).map fun vs => (tupOf vs, h))
 ((lenL a0).bind fun v4 =>
 S23_l4 call a0 a1 v4 (V.int .i64 0) h) := by kernel_rfl
theorem S23_l4_eq (x0 x1 x12 x13 : V) (h : H) : S23_l4 call x0 x1 x12 x13 h =
 (binV Try.prog .lss 3 x13 x12).bind fun v5 =>
 onB v5
 ((iA 2 x0 x13).bind fun v6 =>
 (ldn 2 h v6).bind fun v7 =>
 (iA 2 x1 x13).bind fun v8 =>
 (ldn 2 h v8).bind fun v9 =>
 (binV Try.prog .neq 88 v7 v9).bind fun v10 =>
 onB v10
 ((ress [(some (V.bool false))]).map fun vs => (tupOf vs, h))
 ((binV Try.prog .add 3 x13 (V.int .i64 1)).bind fun v11 =>
 S23_l4 call x0 x1 x12 v11 h))
 ((ress [(some (V.bool true))]).map fun vs => (tupOf vs, h)) := by
  refine (loopK_eq _ _ _ _ _ _ _).trans ?_
  kernel_rfl
-- loop.example/g00224/laws.eqKvState
def an24 : Nat → List Nat := fun i => ([[0, 1], [2, 3], [], [2, 3], [], []] : List (List Nat)).getD i []
theorem S24_eq (a0 a1 : V) (h : H) : bodyK Try.prog call an24 Try.f24 (bodyOf Try.f24) [a0, a1] h =
 bxK h a0 fun p1 h2 =>
 bxK h2 a1 fun p3 h4 =>
 (fA 0 p1).bind fun v5 =>
 (ld1 h4 v5).bind fun v6 =>
 (fA 0 p3).bind fun v7 =>
 (ld1 h4 v7).bind fun v8 =>
 (call 51 [v6, v8] h4).bind fun r9 =>
 (unV .not r9.1).bind fun v10 =>
 onB v10
 ((ress [(some (V.bool false))]).map fun vs => (tupOf vs, r9.2))
 ((fA 1 p1).bind fun v11 =>
 (ld1 r9.2 v11).bind fun v12 =>
 (fA 1 p3).bind fun v13 =>
 (ld1 r9.2 v13).bind fun v14 =>
 (call 52 [v12, v14] r9.2).bind fun r15 =>
 (unV .not r15.1).bind fun v16 =>
 onB v16
 ((ress [(some (V.bool false))]).map fun vs => (tupOf vs, r15.2))
 ((ress [(some (V.bool true))]).map fun vs => (tupOf vs, r15.2))) := by kernel_rfl
-- loop.example/g00224/laws.eqReplyS
def an25 : Nat → List Nat := fun i => ([[0, 1], [0, 1], [], [0, 1], [0, 1, 5], [0, 1, 5], [0, 1, 5], [], []] : List (List Nat)).getD i []
noncomputable def kf25 (call : CallF) : X → Env → H → Option (V × H) := finK Try.prog Try.f25.results.toList
noncomputable def k25_1 (call : CallF) : X → Env → H → Option (V × H) := sqK (fun _ E h => kC Try.prog call an25 27 (cdAt [1, 1, 1] (bodyOf Try.f25)) (kf25 call) (keepAt an25 (cdAt [1, 1, 1] (bodyOf Try.f25)) E) h) (kf25 call)
noncomputable def k25_2 (call : CallF) : X → Env → H → Option (V × H) := bkK 0 (k25_1 call)
noncomputable def S25_l4 (call : CallF) (x0 x1 x5 : V) (h : H) : Option (V × H) := loopK Try.prog call an25 27 (cdAt [1, 1, 0, 1, 0, 0] (bodyOf Try.f25)) (k25_2 call) [(0, x0), (1, x1), (5, x5)] h
theorem S25_eq (a0 a1 : V) (h : H) : bodyK Try.prog call an25 Try.f25 (bodyOf Try.f25) [a0, a1] h =
 (lenL a0).bind fun v1 =>
 (lenL a1).bind fun v2 =>
 (binV Try.prog .neq 3 v1 v2).bind fun v3 =>
 onB v3
 ((ress [(some (V.bool false))]).map fun vs => (tupOf vs, h))
 (S25_l4 call a0 a1 (V.int .i64 0) h) := by kernel_rfl
theorem S25_l4_eq (x0 x1 x5 : V) (h : H) : S25_l4 call x0 x1 x5 h =
 (lenL x0).bind fun v4 =>
 (binV Try.prog .lss 3 x5 v4).bind fun v5 =>
 onB v5
 ((iA 2 x0 x5).bind fun v6 =>
 (ldn 2 h v6).bind fun v7 =>
 (iA 2 x1 x5).bind fun v8 =>
 (ldn 2 h v8).bind fun v9 =>
 (call 53 [v7, v9] h).bind fun r10 =>
 (unV .not r10.1).bind fun v11 =>
 onB v11
 ((ress [(some (V.bool false))]).map fun vs => (tupOf vs, r10.2))
 ((binV Try.prog .add 3 x5 (V.int .i64 1)).bind fun v12 =>
 S25_l4 call x0 x1 v12 r10.2))
 ((ress [(some (V.bool true))]).map fun vs => (tupOf vs, h)) := by
  refine (loopK_eq _ _ _ _ _ _ _).trans ?_
  kernel_rfl
-- loop.example/g00224/laws.markKvState
def an26 : Nat → List Nat := fun i => ([[0, 1], [1, 2], [1, 2], [1]] : List (List Nat)).getD i []
theorem S26_eq (a0 a1 : V) (h : H) : bodyK Try.prog call an26 Try.f26 (bodyOf Try.f26) [a0, a1] h =
 bxK h a0 fun p1 h2 =>
 (fA 0 p1).bind fun v3 =>
 (ld1 h2 v3).bind fun v4 =>
 (call 54 [v4, a1] h2).bind fun r5 =>
 (fA 1 p1).bind fun v6 =>
 (ld1 r5.2 v6).bind fun v7 =>
 (call 55 [v7, r5.1] r5.2).bind fun r8 =>
 (ress [(some r8.1)]).map fun vs => (tupOf vs, r8.2) := by kernel_rfl
-- loop.example/g00224/laws.markReplyS
def an27 : Nat → List Nat := fun i => ([[0, 1], [0, 1], [0, 1, 5], [0, 1, 5], [0, 1, 5], [0, 1, 5], [0, 1, 5], [0, 1, 5], [1]] : List (List Nat)).getD i []
noncomputable def kf27 (call : CallF) : X → Env → H → Option (V × H) := finK Try.prog Try.f27.results.toList
noncomputable def k27_1 (call : CallF) : X → Env → H → Option (V × H) := sqK (fun _ E h => kC Try.prog call an27 28 (cdAt [1, 1] (bodyOf Try.f27)) (kf27 call) (keepAt an27 (cdAt [1, 1] (bodyOf Try.f27)) E) h) (kf27 call)
noncomputable def k27_2 (call : CallF) : X → Env → H → Option (V × H) := bkK 0 (k27_1 call)
noncomputable def S27_l2 (call : CallF) (x0 x1 x5 : V) (h : H) : Option (V × H) := loopK Try.prog call an27 28 (cdAt [1, 0, 1, 0, 0] (bodyOf Try.f27)) (k27_2 call) [(0, x0), (1, x1), (5, x5)] h
theorem S27_eq (a0 a1 : V) (h : H) : bodyK Try.prog call an27 Try.f27 (bodyOf Try.f27) [a0, a1] h =
 S27_l2 call a0 a1 (V.int .i64 0) h := by kernel_rfl
theorem S27_l2_eq (x0 x1 x5 : V) (h : H) : S27_l2 call x0 x1 x5 h =
 (lenL x0).bind fun v1 =>
 (binV Try.prog .lss 3 x5 v1).bind fun v2 =>
 onB v2
 ((iA 2 x0 x5).bind fun v3 =>
 (fA 0 v3).bind fun v4 =>
 stN 1 h v4 x1 fun h5 =>
 (binV Try.prog .add 3 x1 (V.int .i64 1)).bind fun v6 =>
 (call 37 [v6] h5).bind fun r7 =>
 (iA 2 x0 x5).bind fun v8 =>
 (fA 1 v8).bind fun v9 =>
 stN 1 r7.2 v9 r7.1 fun h10 =>
 (binV Try.prog .add 3 v6 (V.int .i64 1)).bind fun v11 =>
 (binV Try.prog .add 3 x5 (V.int .i64 1)).bind fun v12 =>
 S27_l2 call x0 v11 v12 h10)
 ((ress [(some x1)]).map fun vs => (tupOf vs, h)) := by
  refine (loopK_eq _ _ _ _ _ _ _).trans ?_
  kernel_rfl
-- loop.example/g00224/laws.heldKvState
def an28 : Nat → List Nat := fun i => ([[0, 1], [1, 2], [1, 2], [], [1, 2], [1], [], [1]] : List (List Nat)).getD i []
theorem S28_eq (a0 a1 : V) (h : H) : bodyK Try.prog call an28 Try.f28 (bodyOf Try.f28) [a0, a1] h =
 bxK h a0 fun p1 h2 =>
 (fA 0 p1).bind fun v3 =>
 (ld1 h2 v3).bind fun v4 =>
 (call 56 [v4, a1] h2).bind fun r5 =>
 (binV Try.prog .lss 3 r5.1 (V.int .i64 0)).bind fun v6 =>
 onB v6
 ((ress [(some (V.int .i64 (-1)))]).map fun vs => (tupOf vs, r5.2))
 ((fA 1 p1).bind fun v7 =>
 (ld1 r5.2 v7).bind fun v8 =>
 (call 57 [v8, r5.1] r5.2).bind fun r9 =>
 (binV Try.prog .lss 3 r9.1 (V.int .i64 0)).bind fun v10 =>
 onB v10
 ((ress [(some (V.int .i64 (-1)))]).map fun vs => (tupOf vs, r9.2))
 ((ress [(some r9.1)]).map fun vs => (tupOf vs, r9.2))) := by kernel_rfl
-- loop.example/g00224/laws.heldReplyS
def an29 : Nat → List Nat := fun i => ([[0, 1], [0, 1], [0, 1, 5], [0, 1, 5], [0, 1, 5], [], [0, 1, 5], [0, 1, 5], [], [0, 1, 5], [1]] : List (List Nat)).getD i []
noncomputable def kf29 (call : CallF) : X → Env → H → Option (V × H) := finK Try.prog Try.f29.results.toList
noncomputable def k29_1 (call : CallF) : X → Env → H → Option (V × H) := sqK (fun _ E h => kC Try.prog call an29 32 (cdAt [1, 1] (bodyOf Try.f29)) (kf29 call) (keepAt an29 (cdAt [1, 1] (bodyOf Try.f29)) E) h) (kf29 call)
noncomputable def k29_2 (call : CallF) : X → Env → H → Option (V × H) := bkK 0 (k29_1 call)
noncomputable def S29_l2 (call : CallF) (x0 x1 x5 : V) (h : H) : Option (V × H) := loopK Try.prog call an29 32 (cdAt [1, 0, 1, 0, 0] (bodyOf Try.f29)) (k29_2 call) [(0, x0), (1, x1), (5, x5)] h
theorem S29_eq (a0 a1 : V) (h : H) : bodyK Try.prog call an29 Try.f29 (bodyOf Try.f29) [a0, a1] h =
 S29_l2 call a0 a1 (V.int .i64 0) h := by kernel_rfl
theorem S29_l2_eq (x0 x1 x5 : V) (h : H) : S29_l2 call x0 x1 x5 h =
 (lenL x0).bind fun v1 =>
 (binV Try.prog .lss 3 x5 v1).bind fun v2 =>
 onB v2
 ((iA 2 x0 x5).bind fun v3 =>
 (fA 0 v3).bind fun v4 =>
 (ld1 h v4).bind fun v5 =>
 (binV Try.prog .neq 3 v5 x1).bind fun v6 =>
 onB v6
 ((ress [(some (V.int .i64 (-1)))]).map fun vs => (tupOf vs, h))
 ((binV Try.prog .add 3 x1 (V.int .i64 1)).bind fun v7 =>
 (iA 2 x0 x5).bind fun v8 =>
 (fA 1 v8).bind fun v9 =>
 (ld1 h v9).bind fun v10 =>
 (call 37 [v7] h).bind fun r11 =>
 pdV r11.2 v9 h (
 (binV Try.prog .neq 9 v10 r11.1).bind fun v12 =>
 onB v12
 ((ress [(some (V.int .i64 (-1)))]).map fun vs => (tupOf vs, r11.2))
 ((binV Try.prog .add 3 v7 (V.int .i64 1)).bind fun v13 =>
 (binV Try.prog .add 3 x5 (V.int .i64 1)).bind fun v14 =>
 S29_l2 call x0 v13 v14 r11.2))))
 ((ress [(some x1)]).map fun vs => (tupOf vs, h)) := by
  refine (loopK_eq _ _ _ _ _ _ _).trans ?_
  kernel_rfl
-- loop.example/g00224/laws.szCommand
def an30 : Nat → List Nat := fun i => ([[0, 1], [1, 2], [1, 2], [], [1, 2], [1, 2], [], [1, 2], [1], [], [1]] : List (List Nat)).getD i []
theorem S30_eq (a0 a1 : V) (h : H) : bodyK Try.prog call an30 Try.f30 (bodyOf Try.f30) [a0, a1] h =
 bxK h a0 fun p1 h2 =>
 (fA 3 p1).bind fun v3 =>
 (ld1 h2 v3).bind fun v4 =>
 (lenS v4).bind fun v5 =>
 (binV Try.prog .sub 3 a1 v5).bind fun v6 =>
 (binV Try.prog .lss 3 v6 (V.int .i64 0)).bind fun v7 =>
 onB v7
 ((ress [(some (V.int .i64 (-1)))]).map fun vs => (tupOf vs, h2))
 ((fA 4 p1).bind fun v8 =>
 (ld1 h2 v8).bind fun v9 =>
 (lenS v9).bind fun v10 =>
 (binV Try.prog .sub 3 v6 v10).bind fun v11 =>
 (binV Try.prog .lss 3 v11 (V.int .i64 0)).bind fun v12 =>
 onB v12
 ((ress [(some (V.int .i64 (-1)))]).map fun vs => (tupOf vs, h2))
 ((fA 5 p1).bind fun v13 =>
 (ld1 h2 v13).bind fun v14 =>
 (lenS v14).bind fun v15 =>
 (binV Try.prog .sub 3 v11 v15).bind fun v16 =>
 (binV Try.prog .lss 3 v16 (V.int .i64 0)).bind fun v17 =>
 onB v17
 ((ress [(some (V.int .i64 (-1)))]).map fun vs => (tupOf vs, h2))
 ((ress [(some v16)]).map fun vs => (tupOf vs, h2)))) := by kernel_rfl
-- loop.example/g00224/spec.l14Apply
def an31 : Nat → List Nat := fun i => ([[0, 1], [2, 3, 4, 5], [2, 3, 4, 5, 6, 7], [2, 4, 5], [2, 3, 4, 5, 6, 7], [2, 4, 5, 6], [2, 3, 4, 5, 6, 7], [2, 4, 5], [2, 3, 4, 5, 6, 7], [2, 3, 4, 5, 6, 7, 8, 9], [2, 3, 4, 5, 6, 7, 9], [2, 3, 4, 5, 6, 7, 9, 10], [2, 3, 4, 5, 6, 7, 9, 10], [2, 4, 5, 6, 7, 9, 10], [2, 4, 5, 6, 9, 10], [2, 4, 5, 6, 9, 10], [2, 4, 5, 9]] : List (List Nat)).getD i []
noncomputable def kf31 (call : CallF) : X → Env → H → Option (V × H) := finK Try.prog Try.f31.results.toList
noncomputable def S31_j8 (call : CallF) (x2 x3 x4 x5 x6 x7 : V) (h : H) : Option (V × H) := kC Try.prog call an31 106 (cdAt [1, 1, 1] (bodyOf Try.f31)) (kf31 call) [(2, x2), (3, x3), (4, x4), (5, x5), (6, x6), (7, x7)] h
noncomputable def S31_j15 (call : CallF) (x2 x4 x5 x6 x9 x10 : V) (h : H) : Option (V × H) := kC Try.prog call an31 106 (cdAt [1, 1, 1, 1, 1, 1, 1, 1, 1] (bodyOf Try.f31)) (kf31 call) [(2, x2), (4, x4), (5, x5), (6, x6), (9, x9), (10, x10)] h
theorem S31_eq (a0 a1 : V) (h : H) : bodyK Try.prog call an31 Try.f31 (bodyOf Try.f31) [a0, a1] h =
 bxK h a0 fun p1 h2 =>
 bxK h2 a1 fun p3 h4 =>
 alK [(V.sl 0 0 0 0), (V.sl 0 0 0 0)] h4 fun p5 h6 =>
 alK [(V.int .i64 0), (V.str ⟨#[]⟩)] h6 fun p7 h8 =>
 (fA 1 p1).bind fun v9 =>
 (ld1 h8 v9).bind fun v10 =>
 (fA 0 p3).bind fun v11 =>
 (ld1 h8 v11).bind fun v12 =>
 (call 58 [v10, v12] h8).bind fun r13 =>
 (extV r13.1 0).bind fun v14 =>
 (extV r13.1 1).bind fun v15 =>
 (ldn 6 r13.2 p3).bind fun v16 =>
 (call 42 [v16] r13.2).bind fun r17 =>
 (unV .not r17.1).bind fun v18 =>
 spB v18
 ((ldn 2 r17.2 p1).bind fun v19 =>
 (bldV [(V.int .i64 0), (V.str ⟨#[]⟩)] [(0, 1, (V.int .i64 4))]).bind fun v20 =>
 stN 2 r17.2 p5 v19 fun h21 =>
 stN 2 h21 p7 v20 fun h22 =>
 (ress [(ldn 2 h22 p5), (ldn 2 h22 p7)]).map fun vs => (tupOf vs, h22))
 ((unV .not v15).bind fun v23 =>
 spB v23
 ((fA 1 p1).bind fun v24 =>
 (ld1 r17.2 v24).bind fun v25 =>
 (lenL v25).bind fun v26 =>
 (binV Try.prog .eql 3 v26 (V.int .i64 12)).bind fun v27 =>
 onB v27
 ((ldn 2 r17.2 p1).bind fun v28 =>
 (bldV [(V.int .i64 0), (V.str ⟨#[]⟩)] [(0, 1, (V.int .i64 4))]).bind fun v29 =>
 stN 2 r17.2 p5 v28 fun h30 =>
 stN 2 h30 p7 v29 fun h31 =>
 (ress [(ldn 2 h31 p5), (ldn 2 h31 p7)]).map fun vs => (tupOf vs, h31))
 (spB v15
 ((fA 1 p1).bind fun v32 =>
 (ld1 r17.2 v32).bind fun v33 =>
 (iA 4 v33 v14).bind fun v34 =>
 (fA 1 v34).bind fun v35 =>
 (ld1 r17.2 v35).bind fun v36 =>
 (fA 1 p3).bind fun v37 =>
 (ld1 r17.2 v37).bind fun v38 =>
 (binV Try.prog .eql 3 v36 v38).bind fun v39 =>
 onB v39
 ((ldn 2 r17.2 p1).bind fun v40 =>
 (fA 1 p1).bind fun v41 =>
 (ld1 r17.2 v41).bind fun v42 =>
 (iA 4 v42 v14).bind fun v43 =>
 (fA 2 v43).bind fun v44 =>
 (ldn 2 r17.2 v44).bind fun v45 =>
 stN 2 r17.2 p5 v40 fun h46 =>
 pdV h46 v44 r17.2 (
 pdV h46 v41 r17.2 (
 stN 2 h46 p7 v45 fun h47 =>
 (ress [(ldn 2 h47 p5), (ldn 2 h47 p7)]).map fun vs => (tupOf vs, h47))))
 (spB v15
 ((fA 1 p1).bind fun v48 =>
 (ld1 r17.2 v48).bind fun v49 =>
 (iA 4 v49 v14).bind fun v50 =>
 (fA 1 v50).bind fun v51 =>
 (ld1 r17.2 v51).bind fun v52 =>
 (fA 1 p3).bind fun v53 =>
 (ld1 r17.2 v53).bind fun v54 =>
 (binV Try.prog .gtr 3 v52 v54).bind fun v55 =>
 onB v55
 ((ldn 2 r17.2 p1).bind fun v56 =>
 (bldV [(V.int .i64 0), (V.str ⟨#[]⟩)] [(0, 1, (V.int .i64 2))]).bind fun v57 =>
 stN 2 r17.2 p5 v56 fun h58 =>
 stN 2 h58 p7 v57 fun h59 =>
 (ress [(ldn 2 h59 p5), (ldn 2 h59 p7)]).map fun vs => (tupOf vs, h59))
 (S31_j8 call p1 p3 p5 p7 v14 v15 r17.2))
 (S31_j8 call p1 p3 p5 p7 v14 v15 r17.2)))
 (spB v15
 ((fA 1 p1).bind fun v60 =>
 (ld1 r17.2 v60).bind fun v61 =>
 (iA 4 v61 v14).bind fun v62 =>
 (fA 1 v62).bind fun v63 =>
 (ld1 r17.2 v63).bind fun v64 =>
 (fA 1 p3).bind fun v65 =>
 (ld1 r17.2 v65).bind fun v66 =>
 (binV Try.prog .gtr 3 v64 v66).bind fun v67 =>
 onB v67
 ((ldn 2 r17.2 p1).bind fun v68 =>
 (bldV [(V.int .i64 0), (V.str ⟨#[]⟩)] [(0, 1, (V.int .i64 2))]).bind fun v69 =>
 stN 2 r17.2 p5 v68 fun h70 =>
 stN 2 h70 p7 v69 fun h71 =>
 (ress [(ldn 2 h71 p5), (ldn 2 h71 p7)]).map fun vs => (tupOf vs, h71))
 (S31_j8 call p1 p3 p5 p7 v14 v15 r17.2))
 (S31_j8 call p1 p3 p5 p7 v14 v15 r17.2))))
 (spB v15
 ((fA 1 p1).bind fun v72 =>
 (ld1 r17.2 v72).bind fun v73 =>
 (iA 4 v73 v14).bind fun v74 =>
 (fA 1 v74).bind fun v75 =>
 (ld1 r17.2 v75).bind fun v76 =>
 (fA 1 p3).bind fun v77 =>
 (ld1 r17.2 v77).bind fun v78 =>
 (binV Try.prog .eql 3 v76 v78).bind fun v79 =>
 onB v79
 ((ldn 2 r17.2 p1).bind fun v80 =>
 (fA 1 p1).bind fun v81 =>
 (ld1 r17.2 v81).bind fun v82 =>
 (iA 4 v82 v14).bind fun v83 =>
 (fA 2 v83).bind fun v84 =>
 (ldn 2 r17.2 v84).bind fun v85 =>
 stN 2 r17.2 p5 v80 fun h86 =>
 pdV h86 v84 r17.2 (
 pdV h86 v81 r17.2 (
 stN 2 h86 p7 v85 fun h87 =>
 (ress [(ldn 2 h87 p5), (ldn 2 h87 p7)]).map fun vs => (tupOf vs, h87))))
 (spB v15
 ((fA 1 p1).bind fun v88 =>
 (ld1 r17.2 v88).bind fun v89 =>
 (iA 4 v89 v14).bind fun v90 =>
 (fA 1 v90).bind fun v91 =>
 (ld1 r17.2 v91).bind fun v92 =>
 (fA 1 p3).bind fun v93 =>
 (ld1 r17.2 v93).bind fun v94 =>
 (binV Try.prog .gtr 3 v92 v94).bind fun v95 =>
 onB v95
 ((ldn 2 r17.2 p1).bind fun v96 =>
 (bldV [(V.int .i64 0), (V.str ⟨#[]⟩)] [(0, 1, (V.int .i64 2))]).bind fun v97 =>
 stN 2 r17.2 p5 v96 fun h98 =>
 stN 2 h98 p7 v97 fun h99 =>
 (ress [(ldn 2 h99 p5), (ldn 2 h99 p7)]).map fun vs => (tupOf vs, h99))
 (S31_j8 call p1 p3 p5 p7 v14 v15 r17.2))
 (S31_j8 call p1 p3 p5 p7 v14 v15 r17.2)))
 (spB v15
 ((fA 1 p1).bind fun v100 =>
 (ld1 r17.2 v100).bind fun v101 =>
 (iA 4 v101 v14).bind fun v102 =>
 (fA 1 v102).bind fun v103 =>
 (ld1 r17.2 v103).bind fun v104 =>
 (fA 1 p3).bind fun v105 =>
 (ld1 r17.2 v105).bind fun v106 =>
 (binV Try.prog .gtr 3 v104 v106).bind fun v107 =>
 onB v107
 ((ldn 2 r17.2 p1).bind fun v108 =>
 (bldV [(V.int .i64 0), (V.str ⟨#[]⟩)] [(0, 1, (V.int .i64 2))]).bind fun v109 =>
 stN 2 r17.2 p5 v108 fun h110 =>
 stN 2 h110 p7 v109 fun h111 =>
 (ress [(ldn 2 h111 p5), (ldn 2 h111 p7)]).map fun vs => (tupOf vs, h111))
 (S31_j8 call p1 p3 p5 p7 v14 v15 r17.2))
 (S31_j8 call p1 p3 p5 p7 v14 v15 r17.2)))) := by kernel_rfl
theorem S31_j8_eq (x2 x3 x4 x5 x6 x7 : V) (h : H) : S31_j8 call x2 x3 x4 x5 x6 x7 h =
 (fA 0 x2).bind fun v112 =>
 (ld1 h v112).bind fun v113 =>
 (ldn 6 h x3).bind fun v114 =>
 (call 59 [v113, v114] h).bind fun r115 =>
 (extV r115.1 0).bind fun v116 =>
 (extV r115.1 1).bind fun v117 =>
 alK [(V.int .i64 0), (V.str ⟨#[]⟩)] r115.2 fun p118 h119 =>
 stN 2 h119 p118 v117 fun h120 =>
 (fA 0 x2).bind fun v121 =>
 stN 1 h120 v121 v116 fun h122 =>
 (fA 1 x2).bind fun v123 =>
 (ld1 h122 v123).bind fun v124 =>
 (slL 4 v124 none (some x6) none).bind fun v125 =>
 (apL 4 40 h122 (V.sl 0 0 0 0) v125).bind fun r126 =>
 (fA 0 x3).bind fun v127 =>
 (ld1 r126.2 v127).bind fun v128 =>
 (fA 1 x3).bind fun v129 =>
 (ld1 r126.2 v129).bind fun v130 =>
 (ldn 2 r126.2 p118).bind fun v131 =>
 (bldV [(V.int .i64 0), (V.int .i64 0), (V.int .i64 0), (V.str ⟨#[]⟩)] [(0, 1, v128), (1, 1, v130), (2, 2, v131)]).bind fun v132 =>
 bsK 4 1 r126.2 [(V.int .i64 0), (V.int .i64 0), (V.int .i64 0), (V.str ⟨#[]⟩)] [(0, 4, v132)] fun p133 h134 =>
 (apL 4 40 h134 r126.1 p133).bind fun r135 =>
 onB x7
 ((binV Try.prog .add 3 x6 (V.int .i64 1)).bind fun v136 =>
 S31_j15 call x2 x4 x5 v136 p118 r135.1 r135.2)
 (S31_j15 call x2 x4 x5 x6 p118 r135.1 r135.2) := by kernel_rfl
theorem S31_j15_eq (x2 x4 x5 x6 x9 x10 : V) (h : H) : S31_j15 call x2 x4 x5 x6 x9 x10 h =
 (fA 1 x2).bind fun v137 =>
 (ld1 h v137).bind fun v138 =>
 (slL 4 v138 (some x6) none none).bind fun v139 =>
 (apL 4 40 h x10 v139).bind fun r140 =>
 (fA 1 x2).bind fun v141 =>
 stN 1 r140.2 v141 r140.1 fun h142 =>
 (ldn 2 h142 x2).bind fun v143 =>
 (ldn 2 h142 x9).bind fun v144 =>
 stN 2 h142 x4 v143 fun h145 =>
 pdV h145 x9 h142 (
 stN 2 h145 x5 v144 fun h146 =>
 (ress [(ldn 2 h146 x4), (ldn 2 h146 x5)]).map fun vs => (tupOf vs, h146)) := by kernel_rfl
-- loop.example/g00224/spec.l15Same
def an32 : Nat → List Nat := fun i => ([[0, 1], [0, 1], [], [0, 1], [0, 1, 12, 13], [0, 1, 12, 13], [0, 1, 5, 12, 13], [], [0, 1, 12, 13], []] : List (List Nat)).getD i []
noncomputable def kf32 (call : CallF) : X → Env → H → Option (V × H) := finK Try.prog Try.f32.results.toList
noncomputable def k32_1 (call : CallF) : X → Env → H → Option (V × H) := sqK (fun _ E h => kC Try.prog call an32 26 (cdAt [1, 1, 1] (bodyOf Try.f32)) (kf32 call) (keepAt an32 (cdAt [1, 1, 1] (bodyOf Try.f32)) E) h) (kf32 call)
noncomputable def k32_2 (call : CallF) : X → Env → H → Option (V × H) := bkK 0 (k32_1 call)
noncomputable def S32_l4 (call : CallF) (x0 x1 x12 x13 : V) (h : H) : Option (V × H) := loopK Try.prog call an32 26 (cdAt [1, 1, 0, 1, 0, 0] (bodyOf Try.f32)) (k32_2 call) [(0, x0), (1, x1), (12, x12), (13, x13)] h
theorem S32_eq (a0 a1 : V) (h : H) : bodyK Try.prog call an32 Try.f32 (bodyOf Try.f32) [a0, a1] h =
 (lenL a0).bind fun v1 =>
 (lenL a1).bind fun v2 =>
 (binV Try.prog .neq 3 v1 v2).bind fun v3 =>
 onB v3
 ((ress [(some (V.bool false))]).map fun vs => (tupOf vs, h))
 ((lenL a0).bind fun v4 =>
 S32_l4 call a0 a1 v4 (V.int .i64 0) h) := by kernel_rfl
theorem S32_l4_eq (x0 x1 x12 x13 : V) (h : H) : S32_l4 call x0 x1 x12 x13 h =
 (binV Try.prog .lss 3 x13 x12).bind fun v5 =>
 onB v5
 ((iA 2 x0 x13).bind fun v6 =>
 (ldn 2 h v6).bind fun v7 =>
 (iA 2 x1 x13).bind fun v8 =>
 (ldn 2 h v8).bind fun v9 =>
 (binV Try.prog .neq 88 v7 v9).bind fun v10 =>
 onB v10
 ((ress [(some (V.bool false))]).map fun vs => (tupOf vs, h))
 ((binV Try.prog .add 3 x13 (V.int .i64 1)).bind fun v11 =>
 S32_l4 call x0 x1 x12 v11 h))
 ((ress [(some (V.bool true))]).map fun vs => (tupOf vs, h)) := by
  refine (loopK_eq _ _ _ _ _ _ _).trans ?_
  kernel_rfl
-- loop.example/g00224/laws.toCommand
def an33 : Nat → List Nat := fun i => ([[0], [1, 2], [1, 2, 3], [1, 2, 3], [1, 2, 3], [1, 2, 3], [1, 2, 3], [1, 2, 3], [2, 3]] : List (List Nat)).getD i []
theorem S33_eq (a0 : V) (h : H) : bodyK Try.prog call an33 Try.f33 (bodyOf Try.f33) [a0] h =
 bxK h a0 fun p1 h2 =>
 alK [(V.int .i64 0), (V.int .i64 0), (V.int .i64 0), (V.str ⟨#[]⟩), (V.str ⟨#[]⟩), (V.str ⟨#[]⟩)] h2 fun p3 h4 =>
 alK [(V.int .i64 0), (V.int .i64 0), (V.int .i64 0), (V.str ⟨#[]⟩), (V.str ⟨#[]⟩), (V.str ⟨#[]⟩)] h4 fun p5 h6 =>
 (fA 0 p1).bind fun v7 =>
 (ld1 h6 v7).bind fun v8 =>
 (fA 0 p5).bind fun v9 =>
 stN 1 h6 v9 v8 fun h10 =>
 (fA 1 p1).bind fun v11 =>
 (ld1 h10 v11).bind fun v12 =>
 (fA 1 p5).bind fun v13 =>
 stN 1 h10 v13 v12 fun h14 =>
 (fA 2 p1).bind fun v15 =>
 (ld1 h14 v15).bind fun v16 =>
 (fA 2 p5).bind fun v17 =>
 stN 1 h14 v17 v16 fun h18 =>
 (fA 3 p1).bind fun v19 =>
 (ld1 h18 v19).bind fun v20 =>
 (fA 3 p5).bind fun v21 =>
 stN 1 h18 v21 v20 fun h22 =>
 (fA 4 p1).bind fun v23 =>
 (ld1 h22 v23).bind fun v24 =>
 (fA 4 p5).bind fun v25 =>
 stN 1 h22 v25 v24 fun h26 =>
 (fA 5 p1).bind fun v27 =>
 (ld1 h26 v27).bind fun v28 =>
 (fA 5 p5).bind fun v29 =>
 stN 1 h26 v29 v28 fun h30 =>
 (ldn 6 h30 p5).bind fun v31 =>
 stN 6 h30 p3 v31 fun h32 =>
 (ress [(ldn 6 h32 p3)]).map fun vs => (tupOf vs, h32) := by kernel_rfl
-- loop.example/g00224/impl.changes
def an34 : Nat → List Nat := fun i => ([[0, 1], [0, 1, 4], [1, 4, 12, 13, 14], [1, 4, 12, 13, 14], [1, 4, 5, 6, 12, 13, 14], [1, 4, 5, 6, 7, 12, 13, 14], [1, 4, 5, 6, 7, 12, 13, 14], [1, 4, 5, 6, 12, 13, 14], [1, 4, 5, 6, 8, 12, 13, 14], [1, 4, 5, 6, 8, 9, 10, 12, 13, 14], [1, 4, 5, 6, 8, 9, 12, 13, 14], [1, 4, 5, 8, 12, 13, 14], [1, 4, 12, 13, 14]] : List (List Nat)).getD i []
noncomputable def kf34 (call : CallF) : X → Env → H → Option (V × H) := finK Try.prog Try.f34.results.toList
noncomputable def k34_1 (call : CallF) : X → Env → H → Option (V × H) := bkK 0 (kf34 call)
noncomputable def S34_l2 (call : CallF) (x1 x4 x12 x13 x14 : V) (h : H) : Option (V × H) := loopK Try.prog call an34 52 (cdAt [1, 1, 0, 0] (bodyOf Try.f34)) (k34_1 call) [(1, x1), (4, x4), (12, x12), (13, x13), (14, x14)] h
theorem S34_eq (a0 a1 : V) (h : H) : bodyK Try.prog call an34 Try.f34 (bodyOf Try.f34) [a0, a1] h =
 (bldV [(V.sl 0 0 0 0), (V.sl 0 0 0 0)] []).bind fun v1 =>
 alK [(V.sl 0 0 0 0), (V.sl 0 0 0 0)] h fun p2 h3 =>
 stN 2 h3 p2 v1 fun h4 =>
 (lenL a0).bind fun v5 =>
 S34_l2 call a1 p2 a0 v5 (V.int .i64 0) h4 := by kernel_rfl
theorem S34_l2_eq (x1 x4 x12 x13 x14 : V) (h : H) : S34_l2 call x1 x4 x12 x13 x14 h =
 (binV Try.prog .lss 3 x14 x13).bind fun v6 =>
 onB v6
 ((iA 6 x12 x14).bind fun v7 =>
 (ldn 6 h v7).bind fun v8 =>
 alK [(V.int .i64 0), (V.int .i64 0), (V.int .i64 0), (V.str ⟨#[]⟩), (V.str ⟨#[]⟩), (V.str ⟨#[]⟩)] h fun p9 h10 =>
 stN 6 h10 p9 v8 fun h11 =>
 (fA 0 x4).bind fun v12 =>
 (ld1 h11 v12).bind fun v13 =>
 (call 60 [v13] h11).bind fun r14 =>
 (ldn 6 r14.2 p9).bind fun v15 =>
 (call 49 [x4, v15] r14.2).bind fun r16 =>
 (fA 0 x4).bind fun v17 =>
 (ld1 r16.2 v17).bind fun v18 =>
 (call 61 [r14.1, v18] r16.2).bind fun r19 =>
 onB r19.1
 ((binV Try.prog .add 3 x14 (V.int .i64 1)).bind fun v20 =>
 S34_l2 call x1 x4 x12 x13 v20 r19.2)
 ((fA 3 p9).bind fun v21 =>
 (ld1 r19.2 v21).bind fun v22 =>
 (bldV [(V.str ⟨#[]⟩), (V.str ⟨#[]⟩), (V.bool false)] [(0, 1, v22), (2, 1, (V.bool true))]).bind fun v23 =>
 alK [(V.str ⟨#[]⟩), (V.str ⟨#[]⟩), (V.bool false)] r19.2 fun p24 h25 =>
 stN 3 h25 p24 v23 fun h26 =>
 (fA 3 p9).bind fun v27 =>
 (ld1 h26 v27).bind fun v28 =>
 (call 62 [x4, v28] h26).bind fun r29 =>
 (extV r29.1 0).bind fun v30 =>
 (extV r29.1 1).bind fun v31 =>
 onB v31
 ((fA 3 p9).bind fun v32 =>
 (ld1 r29.2 v32).bind fun v33 =>
 (fA 0 x4).bind fun v34 =>
 (ld1 r29.2 v34).bind fun v35 =>
 (iA 2 v35 v30).bind fun v36 =>
 (fA 1 v36).bind fun v37 =>
 (ld1 r29.2 v37).bind fun v38 =>
 (bldV [(V.str ⟨#[]⟩), (V.str ⟨#[]⟩), (V.bool false)] [(0, 1, v33), (1, 1, v38)]).bind fun v39 =>
 stN 3 r29.2 p24 v39 fun h40 =>
 (ldn 3 h40 p24).bind fun v41 =>
 dynK call x1 [x14, v41] h40 fun r42 =>
 (binV Try.prog .add 3 x14 (V.int .i64 1)).bind fun v43 =>
 S34_l2 call x1 x4 x12 x13 v43 r42.2)
 ((ldn 3 r29.2 p24).bind fun v44 =>
 dynK call x1 [x14, v44] r29.2 fun r45 =>
 (binV Try.prog .add 3 x14 (V.int .i64 1)).bind fun v46 =>
 S34_l2 call x1 x4 x12 x13 v46 r45.2)))
 ((ress []).map fun vs => (tupOf vs, h)) := by
  refine (loopK_eq _ _ _ _ _ _ _).trans ?_
  kernel_rfl
-- loop.example/g00224/impl.ChangesOf$1
def an35 : Nat → List Nat := fun i => ([[0, 1, 2], [0, 2]] : List (List Nat)).getD i []
theorem S35_eq (a0 a1 a2 : V) (h : H) : bodyK Try.prog call an35 Try.f35 (bodyOf Try.f35) [a0, a1, a2] h =
 bxK h a1 fun p1 h2 =>
 (ld1 h2 a2).bind fun v3 =>
 bsK 1 1 h2 [(V.int .i64 0)] [(0, 1, a0)] fun p4 h5 =>
 (apL 1 8 h5 v3 p4).bind fun r6 =>
 stN 1 r6.2 a2 r6.1 fun h7 =>
 (ress []).map fun vs => (tupOf vs, h7) := by kernel_rfl
-- loop.example/g00224/laws.eqCommand
def an36 : Nat → List Nat := fun i => ([[0, 1], [2, 3], [], [2, 3], [], [2, 3], [], [2, 3], [], [2, 3], [], [2, 3], [], []] : List (List Nat)).getD i []
theorem S36_eq (a0 a1 : V) (h : H) : bodyK Try.prog call an36 Try.f36 (bodyOf Try.f36) [a0, a1] h =
 bxK h a0 fun p1 h2 =>
 bxK h2 a1 fun p3 h4 =>
 (fA 0 p1).bind fun v5 =>
 (ld1 h4 v5).bind fun v6 =>
 (fA 0 p3).bind fun v7 =>
 (ld1 h4 v7).bind fun v8 =>
 (binV Try.prog .neq 3 v6 v8).bind fun v9 =>
 onB v9
 ((ress [(some (V.bool false))]).map fun vs => (tupOf vs, h4))
 ((fA 1 p1).bind fun v10 =>
 (ld1 h4 v10).bind fun v11 =>
 (fA 1 p3).bind fun v12 =>
 (ld1 h4 v12).bind fun v13 =>
 (binV Try.prog .neq 3 v11 v13).bind fun v14 =>
 onB v14
 ((ress [(some (V.bool false))]).map fun vs => (tupOf vs, h4))
 ((fA 2 p1).bind fun v15 =>
 (ld1 h4 v15).bind fun v16 =>
 (fA 2 p3).bind fun v17 =>
 (ld1 h4 v17).bind fun v18 =>
 (binV Try.prog .neq 3 v16 v18).bind fun v19 =>
 onB v19
 ((ress [(some (V.bool false))]).map fun vs => (tupOf vs, h4))
 ((fA 3 p1).bind fun v20 =>
 (ld1 h4 v20).bind fun v21 =>
 (fA 3 p3).bind fun v22 =>
 (ld1 h4 v22).bind fun v23 =>
 (binV Try.prog .neq 9 v21 v23).bind fun v24 =>
 onB v24
 ((ress [(some (V.bool false))]).map fun vs => (tupOf vs, h4))
 ((fA 4 p1).bind fun v25 =>
 (ld1 h4 v25).bind fun v26 =>
 (fA 4 p3).bind fun v27 =>
 (ld1 h4 v27).bind fun v28 =>
 (binV Try.prog .neq 9 v26 v28).bind fun v29 =>
 onB v29
 ((ress [(some (V.bool false))]).map fun vs => (tupOf vs, h4))
 ((fA 5 p1).bind fun v30 =>
 (ld1 h4 v30).bind fun v31 =>
 (fA 5 p3).bind fun v32 =>
 (ld1 h4 v32).bind fun v33 =>
 (binV Try.prog .neq 9 v31 v33).bind fun v34 =>
 onB v34
 ((ress [(some (V.bool false))]).map fun vs => (tupOf vs, h4))
 ((ress [(some (V.bool true))]).map fun vs => (tupOf vs, h4))))))) := by kernel_rfl
-- loop.example/g00224/laws.markText
def an37 : Nat → List Nat := fun i => ([[0], [0], [], [0], [0, 3], [0, 3], [0, 3], [3]] : List (List Nat)).getD i []
noncomputable def kf37 (call : CallF) : X → Env → H → Option (V × H) := finK Try.prog Try.f37.results.toList
noncomputable def k37_1 (call : CallF) : X → Env → H → Option (V × H) := sqK (fun _ E h => kC Try.prog call an37 20 (cdAt [1, 1, 1, 1] (bodyOf Try.f37)) (kf37 call) (keepAt an37 (cdAt [1, 1, 1, 1] (bodyOf Try.f37)) E) h) (kf37 call)
noncomputable def k37_2 (call : CallF) : X → Env → H → Option (V × H) := bkK 0 (k37_1 call)
noncomputable def S37_l4 (call : CallF) (x0 x3 : V) (h : H) : Option (V × H) := loopK Try.prog call an37 20 (cdAt [1, 1, 1, 0, 0, 0] (bodyOf Try.f37)) (k37_2 call) [(0, x0), (3, x3)] h
theorem S37_eq (a0 : V) (h : H) : bodyK Try.prog call an37 Try.f37 (bodyOf Try.f37) [a0] h =
 (binV Try.prog .leq 3 a0 (V.int .i64 0)).bind fun v1 =>
 onB v1
 ((ress [(some (V.str ⟨#[109, 48]⟩))]).map fun vs => (tupOf vs, h))
 (S37_l4 call a0 (V.str ⟨#[]⟩) h) := by kernel_rfl
theorem S37_l4_eq (x0 x3 : V) (h : H) : S37_l4 call x0 x3 h =
 (binV Try.prog .gtr 3 x0 (V.int .i64 0)).bind fun v2 =>
 onB v2
 ((binV Try.prog .rem 3 x0 (V.int .i64 10)).bind fun v3 =>
 (binV Try.prog .add 3 (V.int .i64 48) v3).bind fun v4 =>
 (cvI .u8 v4).bind fun v5 =>
 bsK 1 1 h [(V.int .u8 0)] [(0, 1, v5)] fun p6 h7 =>
 (cvB h7 p6).bind fun v8 =>
 (binV Try.prog .add 9 v8 x3).bind fun v9 =>
 (binV Try.prog .quo 3 x0 (V.int .i64 10)).bind fun v10 =>
 S37_l4 call v10 v9 h7)
 ((binV Try.prog .add 9 (V.str ⟨#[109]⟩) x3).bind fun v11 =>
 (ress [(some v11)]).map fun vs => (tupOf vs, h)) := by
  refine (loopK_eq _ _ _ _ _ _ _).trans ?_
  kernel_rfl
-- loop.example/g00224/spec.DrawGoodCommand
def an38 : Nat → List Nat := fun i => ([[0], [0, 2], [2, 3]] : List (List Nat)).getD i []
theorem S38_eq (a0 : V) (h : H) : bodyK Try.prog call an38 Try.f38 (bodyOf Try.f38) [a0] h =
 alK [(V.int .i64 0), (V.int .i64 0), (V.int .i64 0), (V.str ⟨#[]⟩), (V.str ⟨#[]⟩), (V.str ⟨#[]⟩)] h fun p1 h2 =>
 (bldV [(V.sl 0 0 0 0), (V.int .i64 0), (V.int .u64 0)] [(0, 1, a0)]).bind fun v3 =>
 bxK h2 v3 fun p4 h5 =>
 (call 63 [p4] h5).bind fun r6 =>
 stN 6 r6.2 p1 r6.1 fun h7 =>
 (ress [(ldn 6 h7 p1)]).map fun vs => (tupOf vs, h7) := by kernel_rfl
-- loop.example/g00224/impl.GoodCommand
def an39 : Nat → List Nat := fun i => ([[0], [1], [], [1]] : List (List Nat)).getD i []
noncomputable def kf39 (call : CallF) : X → Env → H → Option (V × H) := finK Try.prog Try.f39.results.toList
noncomputable def S39_j3 (call : CallF) (x1 : V) (h : H) : Option (V × H) := kC Try.prog call an39 60 (cdAt [1, 1] (bodyOf Try.f39)) (kf39 call) [(1, x1)] h
theorem S39_eq (a0 : V) (h : H) : bodyK Try.prog call an39 Try.f39 (bodyOf Try.f39) [a0] h =
 bxK h a0 fun p1 h2 =>
 (fA 0 p1).bind fun v3 =>
 (ld1 h2 v3).bind fun v4 =>
 (call 64 [v4, (V.int .i64 0), (V.int .i64 99)] h2).bind fun r5 =>
 (unV .not r5.1).bind fun v6 =>
 spB v6
 ((ress [(some (V.bool false))]).map fun vs => (tupOf vs, r5.2))
 ((fA 1 p1).bind fun v7 =>
 (ld1 r5.2 v7).bind fun v8 =>
 (call 64 [v8, (V.int .i64 1), (V.int .i64 1000000)] r5.2).bind fun r9 =>
 (unV .not r9.1).bind fun v10 =>
 spB v10
 ((ress [(some (V.bool false))]).map fun vs => (tupOf vs, r9.2))
 ((fA 2 p1).bind fun v11 =>
 (ld1 r9.2 v11).bind fun v12 =>
 (call 64 [v12, (V.int .i64 1), (V.int .i64 4)] r9.2).bind fun r13 =>
 (unV .not r13.1).bind fun v14 =>
 spB v14
 ((ress [(some (V.bool false))]).map fun vs => (tupOf vs, r13.2))
 ((fA 3 p1).bind fun v15 =>
 (ld1 r13.2 v15).bind fun v16 =>
 (call 65 [v16] r13.2).bind fun r17 =>
 (unV .not r17.1).bind fun v18 =>
 spB v18
 ((ress [(some (V.bool false))]).map fun vs => (tupOf vs, r17.2))
 ((fA 4 p1).bind fun v19 =>
 (ld1 r17.2 v19).bind fun v20 =>
 (call 66 [v20] r17.2).bind fun r21 =>
 (unV .not r21.1).bind fun v22 =>
 spB v22
 ((ress [(some (V.bool false))]).map fun vs => (tupOf vs, r21.2))
 ((fA 5 p1).bind fun v23 =>
 (ld1 r21.2 v23).bind fun v24 =>
 (call 66 [v24] r21.2).bind fun r25 =>
 (unV .not r25.1).bind fun v26 =>
 onB v26
 ((ress [(some (V.bool false))]).map fun vs => (tupOf vs, r25.2))
 (S39_j3 call p1 r25.2)))))) := by kernel_rfl
theorem S39_j3_eq (x1 : V) (h : H) : S39_j3 call x1 h =
 (fA 4 x1).bind fun v27 =>
 (ld1 h v27).bind fun v28 =>
 (binV Try.prog .eql 9 v28 (V.str ⟨#[]⟩)).bind fun v29 =>
 spB v29
 ((fA 5 x1).bind fun v30 =>
 (ld1 h v30).bind fun v31 =>
 (binV Try.prog .eql 9 v31 (V.str ⟨#[]⟩)).bind fun v32 =>
 spB v32
 ((ress [(some (V.bool true))]).map fun vs => (tupOf vs, h))
 ((fA 2 x1).bind fun v33 =>
 (ld1 h v33).bind fun v34 =>
 (binV Try.prog .eql 3 v34 (V.int .i64 4)).bind fun v35 =>
 (ress [(some v35)]).map fun vs => (tupOf vs, h)))
 ((fA 2 x1).bind fun v36 =>
 (ld1 h v36).bind fun v37 =>
 (binV Try.prog .eql 3 v37 (V.int .i64 2)).bind fun v38 =>
 spB v38
 ((fA 5 x1).bind fun v39 =>
 (ld1 h v39).bind fun v40 =>
 (binV Try.prog .eql 9 v40 (V.str ⟨#[]⟩)).bind fun v41 =>
 spB v41
 ((ress [(some (V.bool true))]).map fun vs => (tupOf vs, h))
 ((fA 2 x1).bind fun v42 =>
 (ld1 h v42).bind fun v43 =>
 (binV Try.prog .eql 3 v43 (V.int .i64 4)).bind fun v44 =>
 (ress [(some v44)]).map fun vs => (tupOf vs, h)))
 ((fA 2 x1).bind fun v45 =>
 (ld1 h v45).bind fun v46 =>
 (binV Try.prog .eql 3 v46 (V.int .i64 4)).bind fun v47 =>
 spB v47
 ((fA 5 x1).bind fun v48 =>
 (ld1 h v48).bind fun v49 =>
 (binV Try.prog .eql 9 v49 (V.str ⟨#[]⟩)).bind fun v50 =>
 spB v50
 ((ress [(some (V.bool true))]).map fun vs => (tupOf vs, h))
 ((fA 2 x1).bind fun v51 =>
 (ld1 h v51).bind fun v52 =>
 (binV Try.prog .eql 3 v52 (V.int .i64 4)).bind fun v53 =>
 (ress [(some v53)]).map fun vs => (tupOf vs, h)))
 ((ress [(some (V.bool false))]).map fun vs => (tupOf vs, h)))) := by kernel_rfl
-- loop.example/g00224/impl.varBytes
def an40 : Nat → List Nat := fun i => ([[0], [0], [0, 3], [0, 3], [0, 3], [0, 3]] : List (List Nat)).getD i []
noncomputable def kf40 (call : CallF) : X → Env → H → Option (V × H) := finK Try.prog Try.f40.results.toList
noncomputable def k40_1 (call : CallF) : X → Env → H → Option (V × H) := sqK (fun _ E h => kC Try.prog call an40 22 (cdAt [1, 1, 1] (bodyOf Try.f40)) (kf40 call) (keepAt an40 (cdAt [1, 1, 1] (bodyOf Try.f40)) E) h) (kf40 call)
noncomputable def k40_2 (call : CallF) : X → Env → H → Option (V × H) := bkK 0 (k40_1 call)
noncomputable def S40_l2 (call : CallF) (x0 x3 : V) (h : H) : Option (V × H) := loopK Try.prog call an40 22 (cdAt [1, 1, 0, 0, 0] (bodyOf Try.f40)) (k40_2 call) [(0, x0), (3, x3)] h
theorem S40_eq (a0 : V) (h : H) : bodyK Try.prog call an40 Try.f40 (bodyOf Try.f40) [a0] h =
 bsK 1 0 h [] [] fun p1 h2 =>
 S40_l2 call a0 p1 h2 := by kernel_rfl
theorem S40_l2_eq (x0 x3 : V) (h : H) : S40_l2 call x0 x3 h =
 (binV Try.prog .geq 3 x0 (V.int .i64 128)).bind fun v3 =>
 onB v3
 ((binV Try.prog .rem 3 x0 (V.int .i64 128)).bind fun v4 =>
 (cvI .u8 v4).bind fun v5 =>
 (binV Try.prog .add 5 v5 (V.int .u8 128)).bind fun v6 =>
 bsK 1 1 h [(V.int .u8 0)] [(0, 1, v6)] fun p7 h8 =>
 (apL 1 1 h8 x3 p7).bind fun r9 =>
 (binV Try.prog .quo 3 x0 (V.int .i64 128)).bind fun v10 =>
 S40_l2 call v10 r9.1 r9.2)
 ((cvI .u8 x0).bind fun v11 =>
 bsK 1 1 h [(V.int .u8 0)] [(0, 1, v11)] fun p12 h13 =>
 (apL 1 1 h13 x3 p12).bind fun r14 =>
 (cvB r14.2 r14.1).bind fun v15 =>
 (ress [(some v15)]).map fun vs => (tupOf vs, r14.2)) := by
  refine (loopK_eq _ _ _ _ _ _ _).trans ?_
  kernel_rfl
-- loop.example/g00224/impl.sized
def an41 : Nat → List Nat := fun i => ([[0], [0]] : List (List Nat)).getD i []
theorem S41_eq (a0 : V) (h : H) : bodyK Try.prog call an41 Try.f41 (bodyOf Try.f41) [a0] h =
 (lenS a0).bind fun v1 =>
 (call 40 [v1] h).bind fun r2 =>
 (binV Try.prog .add 9 r2.1 a0).bind fun v3 =>
 (ress [(some v3)]).map fun vs => (tupOf vs, r2.2) := by kernel_rfl
-- loop.example/g00224/spec.GoodCommand
def an42 : Nat → List Nat := fun i => ([[0], [1], [], [1]] : List (List Nat)).getD i []
noncomputable def kf42 (call : CallF) : X → Env → H → Option (V × H) := finK Try.prog Try.f42.results.toList
noncomputable def S42_j3 (call : CallF) (x1 : V) (h : H) : Option (V × H) := kC Try.prog call an42 60 (cdAt [1, 1] (bodyOf Try.f42)) (kf42 call) [(1, x1)] h
theorem S42_eq (a0 : V) (h : H) : bodyK Try.prog call an42 Try.f42 (bodyOf Try.f42) [a0] h =
 bxK h a0 fun p1 h2 =>
 (fA 0 p1).bind fun v3 =>
 (ld1 h2 v3).bind fun v4 =>
 (call 67 [v4, (V.int .i64 0), (V.int .i64 99)] h2).bind fun r5 =>
 (unV .not r5.1).bind fun v6 =>
 spB v6
 ((ress [(some (V.bool false))]).map fun vs => (tupOf vs, r5.2))
 ((fA 1 p1).bind fun v7 =>
 (ld1 r5.2 v7).bind fun v8 =>
 (call 67 [v8, (V.int .i64 1), (V.int .i64 1000000)] r5.2).bind fun r9 =>
 (unV .not r9.1).bind fun v10 =>
 spB v10
 ((ress [(some (V.bool false))]).map fun vs => (tupOf vs, r9.2))
 ((fA 2 p1).bind fun v11 =>
 (ld1 r9.2 v11).bind fun v12 =>
 (call 67 [v12, (V.int .i64 1), (V.int .i64 4)] r9.2).bind fun r13 =>
 (unV .not r13.1).bind fun v14 =>
 spB v14
 ((ress [(some (V.bool false))]).map fun vs => (tupOf vs, r13.2))
 ((fA 3 p1).bind fun v15 =>
 (ld1 r13.2 v15).bind fun v16 =>
 (call 68 [v16] r13.2).bind fun r17 =>
 (unV .not r17.1).bind fun v18 =>
 spB v18
 ((ress [(some (V.bool false))]).map fun vs => (tupOf vs, r17.2))
 ((fA 4 p1).bind fun v19 =>
 (ld1 r17.2 v19).bind fun v20 =>
 (lenS v20).bind fun v21 =>
 (binV Try.prog .gtr 3 v21 (V.int .i64 40)).bind fun v22 =>
 spB v22
 ((ress [(some (V.bool false))]).map fun vs => (tupOf vs, r17.2))
 ((fA 5 p1).bind fun v23 =>
 (ld1 r17.2 v23).bind fun v24 =>
 (lenS v24).bind fun v25 =>
 (binV Try.prog .gtr 3 v25 (V.int .i64 40)).bind fun v26 =>
 onB v26
 ((ress [(some (V.bool false))]).map fun vs => (tupOf vs, r17.2))
 (S42_j3 call p1 r17.2)))))) := by kernel_rfl
theorem S42_j3_eq (x1 : V) (h : H) : S42_j3 call x1 h =
 (fA 4 x1).bind fun v27 =>
 (ld1 h v27).bind fun v28 =>
 (binV Try.prog .eql 9 v28 (V.str ⟨#[]⟩)).bind fun v29 =>
 spB v29
 ((fA 5 x1).bind fun v30 =>
 (ld1 h v30).bind fun v31 =>
 (binV Try.prog .eql 9 v31 (V.str ⟨#[]⟩)).bind fun v32 =>
 spB v32
 ((ress [(some (V.bool true))]).map fun vs => (tupOf vs, h))
 ((fA 2 x1).bind fun v33 =>
 (ld1 h v33).bind fun v34 =>
 (binV Try.prog .eql 3 v34 (V.int .i64 4)).bind fun v35 =>
 (ress [(some v35)]).map fun vs => (tupOf vs, h)))
 ((fA 2 x1).bind fun v36 =>
 (ld1 h v36).bind fun v37 =>
 (binV Try.prog .eql 3 v37 (V.int .i64 2)).bind fun v38 =>
 spB v38
 ((fA 5 x1).bind fun v39 =>
 (ld1 h v39).bind fun v40 =>
 (binV Try.prog .eql 9 v40 (V.str ⟨#[]⟩)).bind fun v41 =>
 spB v41
 ((ress [(some (V.bool true))]).map fun vs => (tupOf vs, h))
 ((fA 2 x1).bind fun v42 =>
 (ld1 h v42).bind fun v43 =>
 (binV Try.prog .eql 3 v43 (V.int .i64 4)).bind fun v44 =>
 (ress [(some v44)]).map fun vs => (tupOf vs, h)))
 ((fA 2 x1).bind fun v45 =>
 (ld1 h v45).bind fun v46 =>
 (binV Try.prog .eql 3 v46 (V.int .i64 4)).bind fun v47 =>
 spB v47
 ((fA 5 x1).bind fun v48 =>
 (ld1 h v48).bind fun v49 =>
 (binV Try.prog .eql 9 v49 (V.str ⟨#[]⟩)).bind fun v50 =>
 spB v50
 ((ress [(some (V.bool true))]).map fun vs => (tupOf vs, h))
 ((fA 2 x1).bind fun v51 =>
 (ld1 h v51).bind fun v52 =>
 (binV Try.prog .eql 3 v52 (V.int .i64 4)).bind fun v53 =>
 (ress [(some v53)]).map fun vs => (tupOf vs, h)))
 ((ress [(some (V.bool false))]).map fun vs => (tupOf vs, h)))) := by kernel_rfl
-- loop.example/g00224/spec.l14Bytes
def an43 : Nat → List Nat := fun i => ([[0], [1], [1, 3], [3, 25, 26, 27], [3, 25, 26, 27], [3, 5, 25, 26, 27], [3, 25, 26, 27], [3]] : List (List Nat)).getD i []
noncomputable def kf43 (call : CallF) : X → Env → H → Option (V × H) := finK Try.prog Try.f43.results.toList
noncomputable def k43_1 (call : CallF) : X → Env → H → Option (V × H) := sqK (fun _ E h => kC Try.prog call an43 40 (cdAt [1, 1, 1] (bodyOf Try.f43)) (kf43 call) (keepAt an43 (cdAt [1, 1, 1] (bodyOf Try.f43)) E) h) (kf43 call)
noncomputable def k43_2 (call : CallF) : X → Env → H → Option (V × H) := bkK 0 (k43_1 call)
noncomputable def S43_l3 (call : CallF) (x3 x25 x26 x27 : V) (h : H) : Option (V × H) := loopK Try.prog call an43 40 (cdAt [1, 1, 0, 1, 0, 0] (bodyOf Try.f43)) (k43_2 call) [(3, x3), (25, x25), (26, x26), (27, x27)] h
theorem S43_eq (a0 : V) (h : H) : bodyK Try.prog call an43 Try.f43 (bodyOf Try.f43) [a0] h =
 bxK h a0 fun p1 h2 =>
 (fA 0 p1).bind fun v3 =>
 (ld1 h2 v3).bind fun v4 =>
 (fA 1 p1).bind fun v5 =>
 (ld1 h2 v5).bind fun v6 =>
 (fA 2 p1).bind fun v7 =>
 (ld1 h2 v7).bind fun v8 =>
 (cvI .u8 v8).bind fun v9 =>
 (pcall call 69 [v4]).bind fun v10 =>
 (pcall call 69 [v6]).bind fun v11 =>
 (binV Try.prog .add 9 v10 v11).bind fun v12 =>
 bsK 1 1 h2 [(V.int .u8 0)] [(0, 1, v9)] fun p13 h14 =>
 pdV h14 v7 h2 (
 pdV h14 v5 h2 (
 pdV h14 v3 h2 (
 (cvB h14 p13).bind fun v15 =>
 (binV Try.prog .add 9 v12 v15).bind fun v16 =>
 (fA 3 p1).bind fun v17 =>
 (ld1 h14 v17).bind fun v18 =>
 (fA 4 p1).bind fun v19 =>
 (ld1 h14 v19).bind fun v20 =>
 (fA 5 p1).bind fun v21 =>
 (ld1 h14 v21).bind fun v22 =>
 bsK 1 3 h14 [(V.str ⟨#[]⟩), (V.str ⟨#[]⟩), (V.str ⟨#[]⟩)] [(0, 1, v18), (1, 1, v20), (2, 1, v22)] fun p23 h24 =>
 (lenL p23).bind fun v25 =>
 S43_l3 call v16 p23 v25 (V.int .i64 0) h24))) := by kernel_rfl
theorem S43_l3_eq (x3 x25 x26 x27 : V) (h : H) : S43_l3 call x3 x25 x26 x27 h =
 (binV Try.prog .lss 3 x27 x26).bind fun v26 =>
 onB v26
 ((iA 1 x25 x27).bind fun v27 =>
 (ld1 h v27).bind fun v28 =>
 (lenS v28).bind fun v29 =>
 (call 69 [v29] h).bind fun r30 =>
 (binV Try.prog .add 9 r30.1 v28).bind fun v31 =>
 (binV Try.prog .add 9 x3 v31).bind fun v32 =>
 (binV Try.prog .add 3 x27 (V.int .i64 1)).bind fun v33 =>
 S43_l3 call v32 x25 x26 v33 r30.2)
 ((ress [(some x3)]).map fun vs => (tupOf vs, h)) := by
  refine (loopK_eq _ _ _ _ _ _ _).trans ?_
  kernel_rfl
-- (*loop.example/g00224/impl.taker).number
def an44 : Nat → List Nat := fun i => ([[0], [0], [0, 3, 4], [0, 3, 4], [], [0, 3, 4], [3]] : List (List Nat)).getD i []
noncomputable def kf44 (call : CallF) : X → Env → H → Option (V × H) := finK Try.prog Try.f44.results.toList
noncomputable def S44_j5 (call : CallF) (x0 x3 x4 : V) (h : H) : Option (V × H) := kC Try.prog call an44 38 (cdAt [1, 1, 1] (bodyOf Try.f44)) (kf44 call) [(0, x0), (3, x3), (4, x4)] h
theorem S44_eq (a0 : V) (h : H) : bodyK Try.prog call an44 Try.f44 (bodyOf Try.f44) [a0] h =
 (nilC a0).bind fun v1 =>
 (fA 0 v1).bind fun v2 =>
 (ld1 h v2).bind fun v3 =>
 (call 70 [v3] h).bind fun r4 =>
 (extV r4.1 0).bind fun v5 =>
 (extV r4.1 1).bind fun v6 =>
 (nilC a0).bind fun v7 =>
 (fA 1 v7).bind fun v8 =>
 (ld1 r4.2 v8).bind fun v9 =>
 spB v9
 ((nilC a0).bind fun v10 =>
 (fA 1 v10).bind fun v11 =>
 stN 1 r4.2 v11 (V.bool true) fun h12 =>
 (nilC a0).bind fun v13 =>
 (fA 1 v13).bind fun v14 =>
 (ld1 h12 v14).bind fun v15 =>
 onB v15
 ((ress [(some (V.int .i64 0))]).map fun vs => (tupOf vs, h12))
 (S44_j5 call a0 v5 v6 h12))
 ((binV Try.prog .eql 3 v6 (V.int .i64 0)).bind fun v16 =>
 (nilC a0).bind fun v17 =>
 (fA 1 v17).bind fun v18 =>
 stN 1 r4.2 v18 v16 fun h19 =>
 (nilC a0).bind fun v20 =>
 (fA 1 v20).bind fun v21 =>
 (ld1 h19 v21).bind fun v22 =>
 onB v22
 ((ress [(some (V.int .i64 0))]).map fun vs => (tupOf vs, h19))
 (S44_j5 call a0 v5 v6 h19)) := by kernel_rfl
theorem S44_j5_eq (x0 x3 x4 : V) (h : H) : S44_j5 call x0 x3 x4 h =
 (nilC x0).bind fun v23 =>
 (fA 0 v23).bind fun v24 =>
 (ld1 h v24).bind fun v25 =>
 (slS v25 (some x4) none).bind fun v26 =>
 (nilC x0).bind fun v27 =>
 (fA 0 v27).bind fun v28 =>
 stN 1 h v28 v26 fun h29 =>
 (ress [(some x3)]).map fun vs => (tupOf vs, h29) := by kernel_rfl
-- (*loop.example/g00224/impl.taker).text
def an45 : Nat → List Nat := fun i => ([[0, 1], [0, 1], [0, 1], [], [0, 1], [0, 1, 5], [5]] : List (List Nat)).getD i []
noncomputable def kf45 (call : CallF) : X → Env → H → Option (V × H) := finK Try.prog Try.f45.results.toList
noncomputable def S45_j4 (call : CallF) (x0 x1 : V) (h : H) : Option (V × H) := kC Try.prog call an45 42 (cdAt [1, 1] (bodyOf Try.f45)) (kf45 call) [(0, x0), (1, x1)] h
theorem S45_eq (a0 a1 : V) (h : H) : bodyK Try.prog call an45 Try.f45 (bodyOf Try.f45) [a0, a1] h =
 (nilC a0).bind fun v1 =>
 (fA 1 v1).bind fun v2 =>
 (ld1 h v2).bind fun v3 =>
 spB v3
 ((nilC a0).bind fun v4 =>
 (fA 1 v4).bind fun v5 =>
 stN 1 h v5 (V.bool true) fun h6 =>
 (nilC a0).bind fun v7 =>
 (fA 1 v7).bind fun v8 =>
 (ld1 h6 v8).bind fun v9 =>
 onB v9
 ((ress [(some (V.str ⟨#[]⟩))]).map fun vs => (tupOf vs, h6))
 (S45_j4 call a0 a1 h6))
 ((nilC a0).bind fun v10 =>
 (fA 0 v10).bind fun v11 =>
 (ld1 h v11).bind fun v12 =>
 (lenS v12).bind fun v13 =>
 (binV Try.prog .gtr 3 a1 v13).bind fun v14 =>
 (nilC a0).bind fun v15 =>
 (fA 1 v15).bind fun v16 =>
 stN 1 h v16 v14 fun h17 =>
 (nilC a0).bind fun v18 =>
 (fA 1 v18).bind fun v19 =>
 (ld1 h17 v19).bind fun v20 =>
 onB v20
 ((ress [(some (V.str ⟨#[]⟩))]).map fun vs => (tupOf vs, h17))
 (S45_j4 call a0 a1 h17)) := by kernel_rfl
theorem S45_j4_eq (x0 x1 : V) (h : H) : S45_j4 call x0 x1 h =
 (nilC x0).bind fun v21 =>
 (fA 0 v21).bind fun v22 =>
 (ld1 h v22).bind fun v23 =>
 (slS v23 none (some x1)).bind fun v24 =>
 (nilC x0).bind fun v25 =>
 (fA 0 v25).bind fun v26 =>
 (ld1 h v26).bind fun v27 =>
 (slS v27 (some x1) none).bind fun v28 =>
 (nilC x0).bind fun v29 =>
 (fA 0 v29).bind fun v30 =>
 stN 1 h v30 v28 fun h31 =>
 (ress [(some v24)]).map fun vs => (tupOf vs, h31) := by kernel_rfl
-- (*loop.example/g00224/impl.taker).sized
def an46 : Nat → List Nat := fun i => ([[0], [0]] : List (List Nat)).getD i []
theorem S46_eq (a0 : V) (h : H) : bodyK Try.prog call an46 Try.f46 (bodyOf Try.f46) [a0] h =
 (call 44 [a0] h).bind fun r1 =>
 (call 45 [a0, r1.1] r1.2).bind fun r2 =>
 (ress [(some r2.1)]).map fun vs => (tupOf vs, r2.2) := by kernel_rfl
-- (*loop.example/g00224/impl.taker).whole
def an47 : Nat → List Nat := fun i => ([[0], [0]] : List (List Nat)).getD i []
theorem S47_eq (a0 : V) (h : H) : bodyK Try.prog call an47 Try.f47 (bodyOf Try.f47) [a0] h =
 (nilC a0).bind fun v1 =>
 (fA 1 v1).bind fun v2 =>
 (ld1 h v2).bind fun v3 =>
 (unV .not v3).bind fun v4 =>
 spB v4
 ((nilC a0).bind fun v5 =>
 (fA 0 v5).bind fun v6 =>
 (ld1 h v6).bind fun v7 =>
 (binV Try.prog .eql 9 v7 (V.str ⟨#[]⟩)).bind fun v8 =>
 (ress [(some v8)]).map fun vs => (tupOf vs, h))
 ((ress [(some (V.bool false))]).map fun vs => (tupOf vs, h)) := by kernel_rfl
-- (*loop.example/g00224/spec.l1Cur).commands
def an48 : Nat → List Nat := fun i => ([[0], [0], [0, 3], [0, 3, 4], [0, 3, 4, 5], [0, 3, 4], [0, 3, 4, 5], [0, 3, 4, 5], [0, 3, 4, 5], [0, 3, 4, 5, 6], [0, 3, 4, 5, 6], [0, 3, 4, 5, 6], [0, 3, 4, 5, 6], [0, 3, 4, 5], [0, 3, 4, 5], [3]] : List (List Nat)).getD i []
noncomputable def kf48 (call : CallF) : X → Env → H → Option (V × H) := finK Try.prog Try.f48.results.toList
noncomputable def k48_1 (call : CallF) : X → Env → H → Option (V × H) := sqK (fun _ E h => kC Try.prog call an48 64 (cdAt [1, 1, 1, 1, 1, 1] (bodyOf Try.f48)) (kf48 call) (keepAt an48 (cdAt [1, 1, 1, 1, 1, 1] (bodyOf Try.f48)) E) h) (kf48 call)
noncomputable def k48_2 (call : CallF) : X → Env → H → Option (V × H) := bkK 0 (k48_1 call)
noncomputable def k48_3 (call : CallF) : X → Env → H → Option (V × H) := lpK (fun E h => loopK Try.prog call an48 64 (cdAt [1, 1, 1, 1, 1, 0, 0, 0] (bodyOf Try.f48)) (k48_2 call) (keepAt an48 (cdAt [1, 1, 1, 1, 1, 0, 0, 0] (bodyOf Try.f48)) E) h) (k48_2 call)
noncomputable def k48_4 (call : CallF) : X → Env → H → Option (V × H) := sqK (fun _ E h => kC Try.prog call an48 64 (cdAt [1, 1, 1, 1, 1, 0, 0, 0, 1, 1] (bodyOf Try.f48)) (k48_3 call) (keepAt an48 (cdAt [1, 1, 1, 1, 1, 0, 0, 0, 1, 1] (bodyOf Try.f48)) E) h) (k48_3 call)
noncomputable def k48_5 (call : CallF) : X → Env → H → Option (V × H) := bkK 1 (k48_4 call)
noncomputable def S48_j6 (call : CallF) (x0 x3 x4 x5 : V) (h : H) : Option (V × H) := kC Try.prog call an48 64 (cdAt [1, 1, 1, 1, 1] (bodyOf Try.f48)) (kf48 call) [(0, x0), (3, x3), (4, x4), (5, x5)] h
noncomputable def S48_l6 (call : CallF) (x0 x3 x4 x5 : V) (h : H) : Option (V × H) := loopK Try.prog call an48 64 (cdAt [1, 1, 1, 1, 1, 0, 0, 0] (bodyOf Try.f48)) (k48_2 call) [(0, x0), (3, x3), (4, x4), (5, x5)] h
noncomputable def S48_j12 (call : CallF) (x0 x3 x4 x5 x6 : V) (h : H) : Option (V × H) := kC Try.prog call an48 64 (cdAt [1, 1, 1, 1, 1, 0, 0, 0, 1, 0, 0, 1, 1] (bodyOf Try.f48)) (k48_5 call) [(0, x0), (3, x3), (4, x4), (5, x5), (6, x6)] h
theorem S48_eq (a0 : V) (h : H) : bodyK Try.prog call an48 Try.f48 (bodyOf Try.f48) [a0] h =
 mkK 1 8 [(V.int .i64 0)] h (V.int .i64 4) (V.int .i64 4) fun p1 h2 =>
 (call 71 [a0, (V.int .i64 16)] h2).bind fun r3 =>
 (call 72 [a0, (V.int .i64 20)] r3.2).bind fun r4 =>
 onB r4.1
 ((call 71 [a0, (V.int .i64 8)] r4.2).bind fun r5 =>
 (binV Try.prog .add 3 (V.int .i64 95) r5.1).bind fun v6 =>
 S48_j6 call a0 (V.sl 0 0 0 0) p1 v6 r5.2)
 (S48_j6 call a0 (V.sl 0 0 0 0) p1 r3.1 r4.2) := by kernel_rfl
theorem S48_j6_eq (x0 x3 x4 x5 : V) (h : H) : S48_j6 call x0 x3 x4 x5 h =
 S48_l6 call x0 x3 x4 x5 h := by kernel_rfl
theorem S48_l6_eq (x0 x3 x4 x5 : V) (h : H) : S48_l6 call x0 x3 x4 x5 h =
 (binV Try.prog .gtr 3 x5 (V.int .i64 0)).bind fun v7 =>
 onB v7
 ((call 63 [x0] h).bind fun r8 =>
 alK [(V.int .i64 0), (V.int .i64 0), (V.int .i64 0), (V.str ⟨#[]⟩), (V.str ⟨#[]⟩), (V.str ⟨#[]⟩)] r8.2 fun p9 h10 =>
 stN 6 h10 p9 r8.1 fun h11 =>
 (fA 0 p9).bind fun v12 =>
 (ld1 h11 v12).bind fun v13 =>
 (call 67 [v13, (V.int .i64 0), (V.int .i64 3)] h11).bind fun r14 =>
 spB r14.1
 ((call 72 [x0, (V.int .i64 5)] r14.2).bind fun r15 =>
 (unV .not r15.1).bind fun v16 =>
 onB v16
 ((fA 0 p9).bind fun v17 =>
 (ld1 r15.2 v17).bind fun v18 =>
 (iA 1 x4 v18).bind fun v19 =>
 (ld1 r15.2 v19).bind fun v20 =>
 (binV Try.prog .add 3 v20 (V.int .i64 1)).bind fun v21 =>
 (iA 1 x4 v18).bind fun v22 =>
 stN 1 r15.2 v22 v21 fun h23 =>
 (fA 0 p9).bind fun v24 =>
 (ld1 h23 v24).bind fun v25 =>
 (iA 1 x4 v25).bind fun v26 =>
 (ld1 h23 v26).bind fun v27 =>
 (fA 1 p9).bind fun v28 =>
 stN 1 h23 v28 v27 fun h29 =>
 S48_j12 call x0 x3 x4 x5 p9 h29)
 (S48_j12 call x0 x3 x4 x5 p9 r15.2))
 (S48_j12 call x0 x3 x4 x5 p9 r14.2))
 ((ress [(some x3)]).map fun vs => (tupOf vs, h)) := by
  refine (loopK_eq _ _ _ _ _ _ _).trans ?_
  kernel_rfl
theorem S48_j12_eq (x0 x3 x4 x5 x6 : V) (h : H) : S48_j12 call x0 x3 x4 x5 x6 h =
 (ldn 6 h x6).bind fun v30 =>
 bsK 6 1 h [(V.int .i64 0), (V.int .i64 0), (V.int .i64 0), (V.str ⟨#[]⟩), (V.str ⟨#[]⟩), (V.str ⟨#[]⟩)] [(0, 6, v30)] fun p31 h32 =>
 (apL 6 72 h32 x3 p31).bind fun r33 =>
 (call 72 [x0, (V.int .i64 6)] r33.2).bind fun r34 =>
 spB r34.1
 ((lenL r33.1).bind fun v35 =>
 (binV Try.prog .gtr 3 v35 (V.int .i64 1)).bind fun v36 =>
 onB v36
 ((lenL r33.1).bind fun v37 =>
 (call 71 [x0, v37] r34.2).bind fun r38 =>
 (iA 6 r33.1 r38.1).bind fun v39 =>
 (ldn 6 r38.2 v39).bind fun v40 =>
 bsK 6 1 r38.2 [(V.int .i64 0), (V.int .i64 0), (V.int .i64 0), (V.str ⟨#[]⟩), (V.str ⟨#[]⟩), (V.str ⟨#[]⟩)] [(0, 6, v40)] fun p41 h42 =>
 (apL 6 72 h42 r33.1 p41).bind fun r43 =>
 (binV Try.prog .sub 3 x5 (V.int .i64 1)).bind fun v44 =>
 S48_l6 call x0 r43.1 x4 v44 r43.2)
 ((binV Try.prog .sub 3 x5 (V.int .i64 1)).bind fun v45 =>
 S48_l6 call x0 r33.1 x4 v45 r34.2))
 ((binV Try.prog .sub 3 x5 (V.int .i64 1)).bind fun v46 =>
 S48_l6 call x0 r33.1 x4 v46 r34.2) := by kernel_rfl
-- (*loop.example/g00224/impl.KvState).apply
def an49 : Nat → List Nat := fun i => ([[0, 1], [0, 3, 4], [4], [0, 3, 4], [0, 3, 4, 5, 6], [4], [0, 3, 4, 5, 6], [0, 4, 5], [0, 3, 4, 5, 6], [4], [0, 3, 4, 5, 6], [0, 3, 4, 5], [0, 3, 4, 5], [0, 3, 4, 5, 7], [4, 7]] : List (List Nat)).getD i []
noncomputable def kf49 (call : CallF) : X → Env → H → Option (V × H) := finK Try.prog Try.f49.results.toList
noncomputable def S49_j12 (call : CallF) (x0 x3 x4 x5 : V) (h : H) : Option (V × H) := kC Try.prog call an49 107 (cdAt [1, 1, 1, 1] (bodyOf Try.f49)) (kf49 call) [(0, x0), (3, x3), (4, x4), (5, x5)] h
theorem S49_eq (a0 a1 : V) (h : H) : bodyK Try.prog call an49 Try.f49 (bodyOf Try.f49) [a0, a1] h =
 bxK h a1 fun p1 h2 =>
 alK [(V.int .i64 0), (V.str ⟨#[]⟩)] h2 fun p3 h4 =>
 (ldn 6 h4 p1).bind fun v5 =>
 (call 39 [v5] h4).bind fun r6 =>
 (unV .not r6.1).bind fun v7 =>
 onB v7
 ((bldV [(V.int .i64 0), (V.str ⟨#[]⟩)] [(0, 1, (V.int .i64 4))]).bind fun v8 =>
 stN 2 r6.2 p3 v8 fun h9 =>
 (ress [(ldn 2 h9 p3)]).map fun vs => (tupOf vs, h9))
 ((fA 0 p1).bind fun v10 =>
 (ld1 r6.2 v10).bind fun v11 =>
 (call 73 [a0, v11] r6.2).bind fun r12 =>
 (extV r12.1 0).bind fun v13 =>
 (extV r12.1 1).bind fun v14 =>
 (unV .not v14).bind fun v15 =>
 spB v15
 ((nilC a0).bind fun v16 =>
 (fA 1 v16).bind fun v17 =>
 (ld1 r12.2 v17).bind fun v18 =>
 (lenL v18).bind fun v19 =>
 (binV Try.prog .eql 3 v19 (V.int .i64 12)).bind fun v20 =>
 onB v20
 ((bldV [(V.int .i64 0), (V.str ⟨#[]⟩)] [(0, 1, (V.int .i64 4))]).bind fun v21 =>
 stN 2 r12.2 p3 v21 fun h22 =>
 (ress [(ldn 2 h22 p3)]).map fun vs => (tupOf vs, h22))
 (spB v14
 ((fA 1 p1).bind fun v23 =>
 (ld1 r12.2 v23).bind fun v24 =>
 (nilC a0).bind fun v25 =>
 (fA 1 v25).bind fun v26 =>
 (ld1 r12.2 v26).bind fun v27 =>
 (iA 4 v27 v13).bind fun v28 =>
 (fA 1 v28).bind fun v29 =>
 (ld1 r12.2 v29).bind fun v30 =>
 (binV Try.prog .eql 3 v24 v30).bind fun v31 =>
 onB v31
 ((nilC a0).bind fun v32 =>
 (fA 1 v32).bind fun v33 =>
 (ld1 r12.2 v33).bind fun v34 =>
 (iA 4 v34 v13).bind fun v35 =>
 (fA 2 v35).bind fun v36 =>
 (ldn 2 r12.2 v36).bind fun v37 =>
 stN 2 r12.2 p3 v37 fun h38 =>
 (ress [(ldn 2 h38 p3)]).map fun vs => (tupOf vs, h38))
 (spB v14
 ((fA 1 p1).bind fun v39 =>
 (ld1 r12.2 v39).bind fun v40 =>
 (nilC a0).bind fun v41 =>
 (fA 1 v41).bind fun v42 =>
 (ld1 r12.2 v42).bind fun v43 =>
 (iA 4 v43 v13).bind fun v44 =>
 (fA 1 v44).bind fun v45 =>
 (ld1 r12.2 v45).bind fun v46 =>
 (binV Try.prog .lss 3 v40 v46).bind fun v47 =>
 onB v47
 ((bldV [(V.int .i64 0), (V.str ⟨#[]⟩)] [(0, 1, (V.int .i64 2))]).bind fun v48 =>
 stN 2 r12.2 p3 v48 fun h49 =>
 (ress [(ldn 2 h49 p3)]).map fun vs => (tupOf vs, h49))
 ((unV .not v14).bind fun v50 =>
 onB v50
 ((nilC a0).bind fun v51 =>
 (fA 1 v51).bind fun v52 =>
 (ld1 r12.2 v52).bind fun v53 =>
 (fA 0 p1).bind fun v54 =>
 (ld1 r12.2 v54).bind fun v55 =>
 (bldV [(V.int .i64 0), (V.int .i64 0), (V.int .i64 0), (V.str ⟨#[]⟩)] [(0, 1, v55)]).bind fun v56 =>
 bsK 4 1 r12.2 [(V.int .i64 0), (V.int .i64 0), (V.int .i64 0), (V.str ⟨#[]⟩)] [(0, 4, v56)] fun p57 h58 =>
 pdV h58 v54 r12.2 (
 pdV h58 v52 r12.2 (
 (call 74 [v53, v13, p57] h58).bind fun r59 =>
 pdV r59.2 v54 r12.2 (
 (nilC a0).bind fun v60 =>
 (fA 1 v60).bind fun v61 =>
 stN 1 r59.2 v61 r59.1 fun h62 =>
 S49_j12 call a0 p1 p3 v13 h62))))
 (S49_j12 call a0 p1 p3 v13 r12.2)))
 ((unV .not v14).bind fun v63 =>
 onB v63
 ((nilC a0).bind fun v64 =>
 (fA 1 v64).bind fun v65 =>
 (ld1 r12.2 v65).bind fun v66 =>
 (fA 0 p1).bind fun v67 =>
 (ld1 r12.2 v67).bind fun v68 =>
 (bldV [(V.int .i64 0), (V.int .i64 0), (V.int .i64 0), (V.str ⟨#[]⟩)] [(0, 1, v68)]).bind fun v69 =>
 bsK 4 1 r12.2 [(V.int .i64 0), (V.int .i64 0), (V.int .i64 0), (V.str ⟨#[]⟩)] [(0, 4, v69)] fun p70 h71 =>
 pdV h71 v67 r12.2 (
 pdV h71 v65 r12.2 (
 (call 74 [v66, v13, p70] h71).bind fun r72 =>
 pdV r72.2 v67 r12.2 (
 (nilC a0).bind fun v73 =>
 (fA 1 v73).bind fun v74 =>
 stN 1 r72.2 v74 r72.1 fun h75 =>
 S49_j12 call a0 p1 p3 v13 h75))))
 (S49_j12 call a0 p1 p3 v13 r12.2))))
 (spB v14
 ((fA 1 p1).bind fun v76 =>
 (ld1 r12.2 v76).bind fun v77 =>
 (nilC a0).bind fun v78 =>
 (fA 1 v78).bind fun v79 =>
 (ld1 r12.2 v79).bind fun v80 =>
 (iA 4 v80 v13).bind fun v81 =>
 (fA 1 v81).bind fun v82 =>
 (ld1 r12.2 v82).bind fun v83 =>
 (binV Try.prog .lss 3 v77 v83).bind fun v84 =>
 onB v84
 ((bldV [(V.int .i64 0), (V.str ⟨#[]⟩)] [(0, 1, (V.int .i64 2))]).bind fun v85 =>
 stN 2 r12.2 p3 v85 fun h86 =>
 (ress [(ldn 2 h86 p3)]).map fun vs => (tupOf vs, h86))
 ((unV .not v14).bind fun v87 =>
 onB v87
 ((nilC a0).bind fun v88 =>
 (fA 1 v88).bind fun v89 =>
 (ld1 r12.2 v89).bind fun v90 =>
 (fA 0 p1).bind fun v91 =>
 (ld1 r12.2 v91).bind fun v92 =>
 (bldV [(V.int .i64 0), (V.int .i64 0), (V.int .i64 0), (V.str ⟨#[]⟩)] [(0, 1, v92)]).bind fun v93 =>
 bsK 4 1 r12.2 [(V.int .i64 0), (V.int .i64 0), (V.int .i64 0), (V.str ⟨#[]⟩)] [(0, 4, v93)] fun p94 h95 =>
 pdV h95 v91 r12.2 (
 pdV h95 v89 r12.2 (
 (call 74 [v90, v13, p94] h95).bind fun r96 =>
 pdV r96.2 v91 r12.2 (
 (nilC a0).bind fun v97 =>
 (fA 1 v97).bind fun v98 =>
 stN 1 r96.2 v98 r96.1 fun h99 =>
 S49_j12 call a0 p1 p3 v13 h99))))
 (S49_j12 call a0 p1 p3 v13 r12.2)))
 ((unV .not v14).bind fun v100 =>
 onB v100
 ((nilC a0).bind fun v101 =>
 (fA 1 v101).bind fun v102 =>
 (ld1 r12.2 v102).bind fun v103 =>
 (fA 0 p1).bind fun v104 =>
 (ld1 r12.2 v104).bind fun v105 =>
 (bldV [(V.int .i64 0), (V.int .i64 0), (V.int .i64 0), (V.str ⟨#[]⟩)] [(0, 1, v105)]).bind fun v106 =>
 bsK 4 1 r12.2 [(V.int .i64 0), (V.int .i64 0), (V.int .i64 0), (V.str ⟨#[]⟩)] [(0, 4, v106)] fun p107 h108 =>
 pdV h108 v104 r12.2 (
 pdV h108 v102 r12.2 (
 (call 74 [v103, v13, p107] h108).bind fun r109 =>
 pdV r109.2 v104 r12.2 (
 (nilC a0).bind fun v110 =>
 (fA 1 v110).bind fun v111 =>
 stN 1 r109.2 v111 r109.1 fun h112 =>
 S49_j12 call a0 p1 p3 v13 h112))))
 (S49_j12 call a0 p1 p3 v13 r12.2)))))
 (spB v14
 ((fA 1 p1).bind fun v113 =>
 (ld1 r12.2 v113).bind fun v114 =>
 (nilC a0).bind fun v115 =>
 (fA 1 v115).bind fun v116 =>
 (ld1 r12.2 v116).bind fun v117 =>
 (iA 4 v117 v13).bind fun v118 =>
 (fA 1 v118).bind fun v119 =>
 (ld1 r12.2 v119).bind fun v120 =>
 (binV Try.prog .eql 3 v114 v120).bind fun v121 =>
 onB v121
 ((nilC a0).bind fun v122 =>
 (fA 1 v122).bind fun v123 =>
 (ld1 r12.2 v123).bind fun v124 =>
 (iA 4 v124 v13).bind fun v125 =>
 (fA 2 v125).bind fun v126 =>
 (ldn 2 r12.2 v126).bind fun v127 =>
 stN 2 r12.2 p3 v127 fun h128 =>
 (ress [(ldn 2 h128 p3)]).map fun vs => (tupOf vs, h128))
 (spB v14
 ((fA 1 p1).bind fun v129 =>
 (ld1 r12.2 v129).bind fun v130 =>
 (nilC a0).bind fun v131 =>
 (fA 1 v131).bind fun v132 =>
 (ld1 r12.2 v132).bind fun v133 =>
 (iA 4 v133 v13).bind fun v134 =>
 (fA 1 v134).bind fun v135 =>
 (ld1 r12.2 v135).bind fun v136 =>
 (binV Try.prog .lss 3 v130 v136).bind fun v137 =>
 onB v137
 ((bldV [(V.int .i64 0), (V.str ⟨#[]⟩)] [(0, 1, (V.int .i64 2))]).bind fun v138 =>
 stN 2 r12.2 p3 v138 fun h139 =>
 (ress [(ldn 2 h139 p3)]).map fun vs => (tupOf vs, h139))
 ((unV .not v14).bind fun v140 =>
 onB v140
 ((nilC a0).bind fun v141 =>
 (fA 1 v141).bind fun v142 =>
 (ld1 r12.2 v142).bind fun v143 =>
 (fA 0 p1).bind fun v144 =>
 (ld1 r12.2 v144).bind fun v145 =>
 (bldV [(V.int .i64 0), (V.int .i64 0), (V.int .i64 0), (V.str ⟨#[]⟩)] [(0, 1, v145)]).bind fun v146 =>
 bsK 4 1 r12.2 [(V.int .i64 0), (V.int .i64 0), (V.int .i64 0), (V.str ⟨#[]⟩)] [(0, 4, v146)] fun p147 h148 =>
 pdV h148 v144 r12.2 (
 pdV h148 v142 r12.2 (
 (call 74 [v143, v13, p147] h148).bind fun r149 =>
 pdV r149.2 v144 r12.2 (
 (nilC a0).bind fun v150 =>
 (fA 1 v150).bind fun v151 =>
 stN 1 r149.2 v151 r149.1 fun h152 =>
 S49_j12 call a0 p1 p3 v13 h152))))
 (S49_j12 call a0 p1 p3 v13 r12.2)))
 ((unV .not v14).bind fun v153 =>
 onB v153
 ((nilC a0).bind fun v154 =>
 (fA 1 v154).bind fun v155 =>
 (ld1 r12.2 v155).bind fun v156 =>
 (fA 0 p1).bind fun v157 =>
 (ld1 r12.2 v157).bind fun v158 =>
 (bldV [(V.int .i64 0), (V.int .i64 0), (V.int .i64 0), (V.str ⟨#[]⟩)] [(0, 1, v158)]).bind fun v159 =>
 bsK 4 1 r12.2 [(V.int .i64 0), (V.int .i64 0), (V.int .i64 0), (V.str ⟨#[]⟩)] [(0, 4, v159)] fun p160 h161 =>
 pdV h161 v157 r12.2 (
 pdV h161 v155 r12.2 (
 (call 74 [v156, v13, p160] h161).bind fun r162 =>
 pdV r162.2 v157 r12.2 (
 (nilC a0).bind fun v163 =>
 (fA 1 v163).bind fun v164 =>
 stN 1 r162.2 v164 r162.1 fun h165 =>
 S49_j12 call a0 p1 p3 v13 h165))))
 (S49_j12 call a0 p1 p3 v13 r12.2))))
 (spB v14
 ((fA 1 p1).bind fun v166 =>
 (ld1 r12.2 v166).bind fun v167 =>
 (nilC a0).bind fun v168 =>
 (fA 1 v168).bind fun v169 =>
 (ld1 r12.2 v169).bind fun v170 =>
 (iA 4 v170 v13).bind fun v171 =>
 (fA 1 v171).bind fun v172 =>
 (ld1 r12.2 v172).bind fun v173 =>
 (binV Try.prog .lss 3 v167 v173).bind fun v174 =>
 onB v174
 ((bldV [(V.int .i64 0), (V.str ⟨#[]⟩)] [(0, 1, (V.int .i64 2))]).bind fun v175 =>
 stN 2 r12.2 p3 v175 fun h176 =>
 (ress [(ldn 2 h176 p3)]).map fun vs => (tupOf vs, h176))
 ((unV .not v14).bind fun v177 =>
 onB v177
 ((nilC a0).bind fun v178 =>
 (fA 1 v178).bind fun v179 =>
 (ld1 r12.2 v179).bind fun v180 =>
 (fA 0 p1).bind fun v181 =>
 (ld1 r12.2 v181).bind fun v182 =>
 (bldV [(V.int .i64 0), (V.int .i64 0), (V.int .i64 0), (V.str ⟨#[]⟩)] [(0, 1, v182)]).bind fun v183 =>
 bsK 4 1 r12.2 [(V.int .i64 0), (V.int .i64 0), (V.int .i64 0), (V.str ⟨#[]⟩)] [(0, 4, v183)] fun p184 h185 =>
 pdV h185 v181 r12.2 (
 pdV h185 v179 r12.2 (
 (call 74 [v180, v13, p184] h185).bind fun r186 =>
 pdV r186.2 v181 r12.2 (
 (nilC a0).bind fun v187 =>
 (fA 1 v187).bind fun v188 =>
 stN 1 r186.2 v188 r186.1 fun h189 =>
 S49_j12 call a0 p1 p3 v13 h189))))
 (S49_j12 call a0 p1 p3 v13 r12.2)))
 ((unV .not v14).bind fun v190 =>
 onB v190
 ((nilC a0).bind fun v191 =>
 (fA 1 v191).bind fun v192 =>
 (ld1 r12.2 v192).bind fun v193 =>
 (fA 0 p1).bind fun v194 =>
 (ld1 r12.2 v194).bind fun v195 =>
 (bldV [(V.int .i64 0), (V.int .i64 0), (V.int .i64 0), (V.str ⟨#[]⟩)] [(0, 1, v195)]).bind fun v196 =>
 bsK 4 1 r12.2 [(V.int .i64 0), (V.int .i64 0), (V.int .i64 0), (V.str ⟨#[]⟩)] [(0, 4, v196)] fun p197 h198 =>
 pdV h198 v194 r12.2 (
 pdV h198 v192 r12.2 (
 (call 74 [v193, v13, p197] h198).bind fun r199 =>
 pdV r199.2 v194 r12.2 (
 (nilC a0).bind fun v200 =>
 (fA 1 v200).bind fun v201 =>
 stN 1 r199.2 v201 r199.1 fun h202 =>
 S49_j12 call a0 p1 p3 v13 h202))))
 (S49_j12 call a0 p1 p3 v13 r12.2))))) := by kernel_rfl
theorem S49_j12_eq (x0 x3 x4 x5 : V) (h : H) : S49_j12 call x0 x3 x4 x5 h =
 (ldn 6 h x3).bind fun v203 =>
 (call 75 [x0, v203] h).bind fun r204 =>
 alK [(V.int .i64 0), (V.str ⟨#[]⟩)] r204.2 fun p205 h206 =>
 stN 2 h206 p205 r204.1 fun h207 =>
 (nilC x0).bind fun v208 =>
 (fA 1 v208).bind fun v209 =>
 (ld1 h207 v209).bind fun v210 =>
 (nilC x0).bind fun v211 =>
 (fA 1 v211).bind fun v212 =>
 (ld1 h207 v212).bind fun v213 =>
 (fA 1 x3).bind fun v214 =>
 (ld1 h207 v214).bind fun v215 =>
 (ldn 2 h207 p205).bind fun v216 =>
 (iA 4 v210 x5).bind fun v217 =>
 (fA 1 v217).bind fun v218 =>
 stN 1 h207 v218 v215 fun h219 =>
 pdV h219 p205 h207 (
 (iA 4 v213 x5).bind fun v220 =>
 (fA 2 v220).bind fun v221 =>
 stN 2 h219 v221 v216 fun h222 =>
 (ldn 2 h222 p205).bind fun v223 =>
 stN 2 h222 x4 v223 fun h224 =>
 (ress [(ldn 2 h224 x4)]).map fun vs => (tupOf vs, h224)) := by kernel_rfl
-- loop.example/g00224/spec.l14Own
def an50 : Nat → List Nat := fun i => ([[0], [1, 2], [1, 2], [1, 2]] : List (List Nat)).getD i []
theorem S50_eq (a0 : V) (h : H) : bodyK Try.prog call an50 Try.f50 (bodyOf Try.f50) [a0] h =
 bxK h a0 fun p1 h2 =>
 alK [(V.sl 0 0 0 0), (V.sl 0 0 0 0)] h2 fun p3 h4 =>
 bsK 2 0 h4 [] [] fun p5 h6 =>
 (fA 0 p1).bind fun v7 =>
 (ld1 h6 v7).bind fun v8 =>
 (apL 2 32 h6 p5 v8).bind fun r9 =>
 (fA 0 p1).bind fun v10 =>
 stN 1 r9.2 v10 r9.1 fun h11 =>
 bsK 4 0 h11 [] [] fun p12 h13 =>
 (fA 1 p1).bind fun v14 =>
 (ld1 h13 v14).bind fun v15 =>
 (apL 4 40 h13 p12 v15).bind fun r16 =>
 (fA 1 p1).bind fun v17 =>
 stN 1 r16.2 v17 r16.1 fun h18 =>
 (ldn 2 h18 p1).bind fun v19 =>
 stN 2 h18 p3 v19 fun h20 =>
 (ress [(ldn 2 h20 p3)]).map fun vs => (tupOf vs, h20) := by kernel_rfl
-- loop.example/g00224/laws.eqPairS
def an51 : Nat → List Nat := fun i => ([[0, 1], [0, 1], [], [0, 1], [0, 1, 5], [0, 1, 5], [0, 1, 5], [], []] : List (List Nat)).getD i []
noncomputable def kf51 (call : CallF) : X → Env → H → Option (V × H) := finK Try.prog Try.f51.results.toList
noncomputable def k51_1 (call : CallF) : X → Env → H → Option (V × H) := sqK (fun _ E h => kC Try.prog call an51 27 (cdAt [1, 1, 1] (bodyOf Try.f51)) (kf51 call) (keepAt an51 (cdAt [1, 1, 1] (bodyOf Try.f51)) E) h) (kf51 call)
noncomputable def k51_2 (call : CallF) : X → Env → H → Option (V × H) := bkK 0 (k51_1 call)
noncomputable def S51_l4 (call : CallF) (x0 x1 x5 : V) (h : H) : Option (V × H) := loopK Try.prog call an51 27 (cdAt [1, 1, 0, 1, 0, 0] (bodyOf Try.f51)) (k51_2 call) [(0, x0), (1, x1), (5, x5)] h
theorem S51_eq (a0 a1 : V) (h : H) : bodyK Try.prog call an51 Try.f51 (bodyOf Try.f51) [a0, a1] h =
 (lenL a0).bind fun v1 =>
 (lenL a1).bind fun v2 =>
 (binV Try.prog .neq 3 v1 v2).bind fun v3 =>
 onB v3
 ((ress [(some (V.bool false))]).map fun vs => (tupOf vs, h))
 (S51_l4 call a0 a1 (V.int .i64 0) h) := by kernel_rfl
theorem S51_l4_eq (x0 x1 x5 : V) (h : H) : S51_l4 call x0 x1 x5 h =
 (lenL x0).bind fun v4 =>
 (binV Try.prog .lss 3 x5 v4).bind fun v5 =>
 onB v5
 ((iA 2 x0 x5).bind fun v6 =>
 (ldn 2 h v6).bind fun v7 =>
 (iA 2 x1 x5).bind fun v8 =>
 (ldn 2 h v8).bind fun v9 =>
 (call 76 [v7, v9] h).bind fun r10 =>
 (unV .not r10.1).bind fun v11 =>
 onB v11
 ((ress [(some (V.bool false))]).map fun vs => (tupOf vs, r10.2))
 ((binV Try.prog .add 3 x5 (V.int .i64 1)).bind fun v12 =>
 S51_l4 call x0 x1 v12 r10.2))
 ((ress [(some (V.bool true))]).map fun vs => (tupOf vs, h)) := by
  refine (loopK_eq _ _ _ _ _ _ _).trans ?_
  kernel_rfl
-- loop.example/g00224/laws.eqSessionS
def an52 : Nat → List Nat := fun i => ([[0, 1], [0, 1], [], [0, 1], [0, 1, 5], [0, 1, 5], [0, 1, 5], [], []] : List (List Nat)).getD i []
noncomputable def kf52 (call : CallF) : X → Env → H → Option (V × H) := finK Try.prog Try.f52.results.toList
noncomputable def k52_1 (call : CallF) : X → Env → H → Option (V × H) := sqK (fun _ E h => kC Try.prog call an52 27 (cdAt [1, 1, 1] (bodyOf Try.f52)) (kf52 call) (keepAt an52 (cdAt [1, 1, 1] (bodyOf Try.f52)) E) h) (kf52 call)
noncomputable def k52_2 (call : CallF) : X → Env → H → Option (V × H) := bkK 0 (k52_1 call)
noncomputable def S52_l4 (call : CallF) (x0 x1 x5 : V) (h : H) : Option (V × H) := loopK Try.prog call an52 27 (cdAt [1, 1, 0, 1, 0, 0] (bodyOf Try.f52)) (k52_2 call) [(0, x0), (1, x1), (5, x5)] h
theorem S52_eq (a0 a1 : V) (h : H) : bodyK Try.prog call an52 Try.f52 (bodyOf Try.f52) [a0, a1] h =
 (lenL a0).bind fun v1 =>
 (lenL a1).bind fun v2 =>
 (binV Try.prog .neq 3 v1 v2).bind fun v3 =>
 onB v3
 ((ress [(some (V.bool false))]).map fun vs => (tupOf vs, h))
 (S52_l4 call a0 a1 (V.int .i64 0) h) := by kernel_rfl
theorem S52_l4_eq (x0 x1 x5 : V) (h : H) : S52_l4 call x0 x1 x5 h =
 (lenL x0).bind fun v4 =>
 (binV Try.prog .lss 3 x5 v4).bind fun v5 =>
 onB v5
 ((iA 4 x0 x5).bind fun v6 =>
 (ldn 4 h v6).bind fun v7 =>
 (iA 4 x1 x5).bind fun v8 =>
 (ldn 4 h v8).bind fun v9 =>
 (call 77 [v7, v9] h).bind fun r10 =>
 (unV .not r10.1).bind fun v11 =>
 onB v11
 ((ress [(some (V.bool false))]).map fun vs => (tupOf vs, r10.2))
 ((binV Try.prog .add 3 x5 (V.int .i64 1)).bind fun v12 =>
 S52_l4 call x0 x1 v12 r10.2))
 ((ress [(some (V.bool true))]).map fun vs => (tupOf vs, h)) := by
  refine (loopK_eq _ _ _ _ _ _ _).trans ?_
  kernel_rfl
-- loop.example/g00224/laws.eqReply
def an53 : Nat → List Nat := fun i => ([[0, 1], [2, 3], [], [2, 3], [], []] : List (List Nat)).getD i []
theorem S53_eq (a0 a1 : V) (h : H) : bodyK Try.prog call an53 Try.f53 (bodyOf Try.f53) [a0, a1] h =
 bxK h a0 fun p1 h2 =>
 bxK h2 a1 fun p3 h4 =>
 (fA 0 p1).bind fun v5 =>
 (ld1 h4 v5).bind fun v6 =>
 (fA 0 p3).bind fun v7 =>
 (ld1 h4 v7).bind fun v8 =>
 (binV Try.prog .neq 3 v6 v8).bind fun v9 =>
 onB v9
 ((ress [(some (V.bool false))]).map fun vs => (tupOf vs, h4))
 ((fA 1 p1).bind fun v10 =>
 (ld1 h4 v10).bind fun v11 =>
 (fA 1 p3).bind fun v12 =>
 (ld1 h4 v12).bind fun v13 =>
 (binV Try.prog .neq 9 v11 v13).bind fun v14 =>
 onB v14
 ((ress [(some (V.bool false))]).map fun vs => (tupOf vs, h4))
 ((ress [(some (V.bool true))]).map fun vs => (tupOf vs, h4))) := by kernel_rfl
-- loop.example/g00224/laws.markPairS
def an54 : Nat → List Nat := fun i => ([[0, 1], [0, 1], [0, 1, 5], [0, 1, 5], [0, 1, 5], [0, 1, 5], [0, 1, 5], [0, 1, 5], [1]] : List (List Nat)).getD i []
noncomputable def kf54 (call : CallF) : X → Env → H → Option (V × H) := finK Try.prog Try.f54.results.toList
noncomputable def k54_1 (call : CallF) : X → Env → H → Option (V × H) := sqK (fun _ E h => kC Try.prog call an54 29 (cdAt [1, 1] (bodyOf Try.f54)) (kf54 call) (keepAt an54 (cdAt [1, 1] (bodyOf Try.f54)) E) h) (kf54 call)
noncomputable def k54_2 (call : CallF) : X → Env → H → Option (V × H) := bkK 0 (k54_1 call)
noncomputable def S54_l2 (call : CallF) (x0 x1 x5 : V) (h : H) : Option (V × H) := loopK Try.prog call an54 29 (cdAt [1, 0, 1, 0, 0] (bodyOf Try.f54)) (k54_2 call) [(0, x0), (1, x1), (5, x5)] h
theorem S54_eq (a0 a1 : V) (h : H) : bodyK Try.prog call an54 Try.f54 (bodyOf Try.f54) [a0, a1] h =
 S54_l2 call a0 a1 (V.int .i64 0) h := by kernel_rfl
theorem S54_l2_eq (x0 x1 x5 : V) (h : H) : S54_l2 call x0 x1 x5 h =
 (lenL x0).bind fun v1 =>
 (binV Try.prog .lss 3 x5 v1).bind fun v2 =>
 onB v2
 ((call 37 [x1] h).bind fun r3 =>
 (iA 2 x0 x5).bind fun v4 =>
 (fA 0 v4).bind fun v5 =>
 stN 1 r3.2 v5 r3.1 fun h6 =>
 (binV Try.prog .add 3 x1 (V.int .i64 1)).bind fun v7 =>
 (call 37 [v7] h6).bind fun r8 =>
 (iA 2 x0 x5).bind fun v9 =>
 (fA 1 v9).bind fun v10 =>
 stN 1 r8.2 v10 r8.1 fun h11 =>
 (binV Try.prog .add 3 v7 (V.int .i64 1)).bind fun v12 =>
 (binV Try.prog .add 3 x5 (V.int .i64 1)).bind fun v13 =>
 S54_l2 call x0 v12 v13 h11)
 ((ress [(some x1)]).map fun vs => (tupOf vs, h)) := by
  refine (loopK_eq _ _ _ _ _ _ _).trans ?_
  kernel_rfl
-- loop.example/g00224/laws.markSessionS
def an55 : Nat → List Nat := fun i => ([[0, 1], [0, 1], [0, 1, 5], [0, 1, 5], [0, 1, 5], [0, 1, 5], [0, 1, 5], [0, 1, 5], [0, 1, 5], [0, 1, 5], [0, 1, 5], [0, 1, 5], [1]] : List (List Nat)).getD i []
noncomputable def kf55 (call : CallF) : X → Env → H → Option (V × H) := finK Try.prog Try.f55.results.toList
noncomputable def k55_1 (call : CallF) : X → Env → H → Option (V × H) := sqK (fun _ E h => kC Try.prog call an55 44 (cdAt [1, 1] (bodyOf Try.f55)) (kf55 call) (keepAt an55 (cdAt [1, 1] (bodyOf Try.f55)) E) h) (kf55 call)
noncomputable def k55_2 (call : CallF) : X → Env → H → Option (V × H) := bkK 0 (k55_1 call)
noncomputable def S55_l2 (call : CallF) (x0 x1 x5 : V) (h : H) : Option (V × H) := loopK Try.prog call an55 44 (cdAt [1, 0, 1, 0, 0] (bodyOf Try.f55)) (k55_2 call) [(0, x0), (1, x1), (5, x5)] h
theorem S55_eq (a0 a1 : V) (h : H) : bodyK Try.prog call an55 Try.f55 (bodyOf Try.f55) [a0, a1] h =
 S55_l2 call a0 a1 (V.int .i64 0) h := by kernel_rfl
theorem S55_l2_eq (x0 x1 x5 : V) (h : H) : S55_l2 call x0 x1 x5 h =
 (lenL x0).bind fun v1 =>
 (binV Try.prog .lss 3 x5 v1).bind fun v2 =>
 onB v2
 ((iA 4 x0 x5).bind fun v3 =>
 (fA 0 v3).bind fun v4 =>
 stN 1 h v4 x1 fun h5 =>
 (binV Try.prog .add 3 x1 (V.int .i64 1)).bind fun v6 =>
 (iA 4 x0 x5).bind fun v7 =>
 (fA 1 v7).bind fun v8 =>
 stN 1 h5 v8 v6 fun h9 =>
 (binV Try.prog .add 3 v6 (V.int .i64 1)).bind fun v10 =>
 (iA 4 x0 x5).bind fun v11 =>
 (fA 2 v11).bind fun v12 =>
 (fA 0 v12).bind fun v13 =>
 stN 1 h9 v13 v10 fun h14 =>
 (binV Try.prog .add 3 v10 (V.int .i64 1)).bind fun v15 =>
 (call 37 [v15] h14).bind fun r16 =>
 (iA 4 x0 x5).bind fun v17 =>
 (fA 2 v17).bind fun v18 =>
 (fA 1 v18).bind fun v19 =>
 stN 1 r16.2 v19 r16.1 fun h20 =>
 (binV Try.prog .add 3 v15 (V.int .i64 1)).bind fun v21 =>
 (binV Try.prog .add 3 x5 (V.int .i64 1)).bind fun v22 =>
 S55_l2 call x0 v21 v22 h20)
 ((ress [(some x1)]).map fun vs => (tupOf vs, h)) := by
  refine (loopK_eq _ _ _ _ _ _ _).trans ?_
  kernel_rfl
-- loop.example/g00224/laws.heldPairS
def an56 : Nat → List Nat := fun i => ([[0, 1], [0, 1], [0, 1, 5], [0, 1, 5], [0, 1, 5], [], [0, 1, 5], [0, 1, 5], [], [0, 1, 5], [1]] : List (List Nat)).getD i []
noncomputable def kf56 (call : CallF) : X → Env → H → Option (V × H) := finK Try.prog Try.f56.results.toList
noncomputable def k56_1 (call : CallF) : X → Env → H → Option (V × H) := sqK (fun _ E h => kC Try.prog call an56 33 (cdAt [1, 1] (bodyOf Try.f56)) (kf56 call) (keepAt an56 (cdAt [1, 1] (bodyOf Try.f56)) E) h) (kf56 call)
noncomputable def k56_2 (call : CallF) : X → Env → H → Option (V × H) := bkK 0 (k56_1 call)
noncomputable def S56_l2 (call : CallF) (x0 x1 x5 : V) (h : H) : Option (V × H) := loopK Try.prog call an56 33 (cdAt [1, 0, 1, 0, 0] (bodyOf Try.f56)) (k56_2 call) [(0, x0), (1, x1), (5, x5)] h
theorem S56_eq (a0 a1 : V) (h : H) : bodyK Try.prog call an56 Try.f56 (bodyOf Try.f56) [a0, a1] h =
 S56_l2 call a0 a1 (V.int .i64 0) h := by kernel_rfl
theorem S56_l2_eq (x0 x1 x5 : V) (h : H) : S56_l2 call x0 x1 x5 h =
 (lenL x0).bind fun v1 =>
 (binV Try.prog .lss 3 x5 v1).bind fun v2 =>
 onB v2
 ((iA 2 x0 x5).bind fun v3 =>
 (fA 0 v3).bind fun v4 =>
 (ld1 h v4).bind fun v5 =>
 (call 37 [x1] h).bind fun r6 =>
 pdV r6.2 v4 h (
 (binV Try.prog .neq 9 v5 r6.1).bind fun v7 =>
 onB v7
 ((ress [(some (V.int .i64 (-1)))]).map fun vs => (tupOf vs, r6.2))
 ((binV Try.prog .add 3 x1 (V.int .i64 1)).bind fun v8 =>
 (iA 2 x0 x5).bind fun v9 =>
 (fA 1 v9).bind fun v10 =>
 (ld1 r6.2 v10).bind fun v11 =>
 (call 37 [v8] r6.2).bind fun r12 =>
 pdV r12.2 v10 r6.2 (
 (binV Try.prog .neq 9 v11 r12.1).bind fun v13 =>
 onB v13
 ((ress [(some (V.int .i64 (-1)))]).map fun vs => (tupOf vs, r12.2))
 ((binV Try.prog .add 3 v8 (V.int .i64 1)).bind fun v14 =>
 (binV Try.prog .add 3 x5 (V.int .i64 1)).bind fun v15 =>
 S56_l2 call x0 v14 v15 r12.2)))))
 ((ress [(some x1)]).map fun vs => (tupOf vs, h)) := by
  refine (loopK_eq _ _ _ _ _ _ _).trans ?_
  kernel_rfl
-- loop.example/g00224/laws.heldSessionS
def an57 : Nat → List Nat := fun i => ([[0, 1], [0, 1], [0, 1, 5], [0, 1, 5], [0, 1, 5], [], [0, 1, 5], [0, 1, 5], [], [0, 1, 5], [0, 1, 5], [], [0, 1, 5], [0, 1, 5], [], [0, 1, 5], [1]] : List (List Nat)).getD i []
noncomputable def kf57 (call : CallF) : X → Env → H → Option (V × H) := finK Try.prog Try.f57.results.toList
noncomputable def k57_1 (call : CallF) : X → Env → H → Option (V × H) := sqK (fun _ E h => kC Try.prog call an57 52 (cdAt [1, 1] (bodyOf Try.f57)) (kf57 call) (keepAt an57 (cdAt [1, 1] (bodyOf Try.f57)) E) h) (kf57 call)
noncomputable def k57_2 (call : CallF) : X → Env → H → Option (V × H) := bkK 0 (k57_1 call)
noncomputable def S57_l2 (call : CallF) (x0 x1 x5 : V) (h : H) : Option (V × H) := loopK Try.prog call an57 52 (cdAt [1, 0, 1, 0, 0] (bodyOf Try.f57)) (k57_2 call) [(0, x0), (1, x1), (5, x5)] h
theorem S57_eq (a0 a1 : V) (h : H) : bodyK Try.prog call an57 Try.f57 (bodyOf Try.f57) [a0, a1] h =
 S57_l2 call a0 a1 (V.int .i64 0) h := by kernel_rfl
theorem S57_l2_eq (x0 x1 x5 : V) (h : H) : S57_l2 call x0 x1 x5 h =
 (lenL x0).bind fun v1 =>
 (binV Try.prog .lss 3 x5 v1).bind fun v2 =>
 onB v2
 ((iA 4 x0 x5).bind fun v3 =>
 (fA 0 v3).bind fun v4 =>
 (ld1 h v4).bind fun v5 =>
 (binV Try.prog .neq 3 v5 x1).bind fun v6 =>
 onB v6
 ((ress [(some (V.int .i64 (-1)))]).map fun vs => (tupOf vs, h))
 ((binV Try.prog .add 3 x1 (V.int .i64 1)).bind fun v7 =>
 (iA 4 x0 x5).bind fun v8 =>
 (fA 1 v8).bind fun v9 =>
 (ld1 h v9).bind fun v10 =>
 (binV Try.prog .neq 3 v10 v7).bind fun v11 =>
 onB v11
 ((ress [(some (V.int .i64 (-1)))]).map fun vs => (tupOf vs, h))
 ((binV Try.prog .add 3 v7 (V.int .i64 1)).bind fun v12 =>
 (iA 4 x0 x5).bind fun v13 =>
 (fA 2 v13).bind fun v14 =>
 (fA 0 v14).bind fun v15 =>
 (ld1 h v15).bind fun v16 =>
 (binV Try.prog .neq 3 v16 v12).bind fun v17 =>
 onB v17
 ((ress [(some (V.int .i64 (-1)))]).map fun vs => (tupOf vs, h))
 ((binV Try.prog .add 3 v12 (V.int .i64 1)).bind fun v18 =>
 (iA 4 x0 x5).bind fun v19 =>
 (fA 2 v19).bind fun v20 =>
 (fA 1 v20).bind fun v21 =>
 (ld1 h v21).bind fun v22 =>
 (call 37 [v18] h).bind fun r23 =>
 pdV r23.2 v21 h (
 (binV Try.prog .neq 9 v22 r23.1).bind fun v24 =>
 onB v24
 ((ress [(some (V.int .i64 (-1)))]).map fun vs => (tupOf vs, r23.2))
 ((binV Try.prog .add 3 v18 (V.int .i64 1)).bind fun v25 =>
 (binV Try.prog .add 3 x5 (V.int .i64 1)).bind fun v26 =>
 S57_l2 call x0 v25 v26 r23.2))))))
 ((ress [(some x1)]).map fun vs => (tupOf vs, h)) := by
  refine (loopK_eq _ _ _ _ _ _ _).trans ?_
  kernel_rfl
-- loop.example/g00224/spec.l14Session
def an58 : Nat → List Nat := fun i => ([[0, 1], [0, 1], [0, 1, 6], [0, 1, 6], [0, 1, 6]] : List (List Nat)).getD i []
noncomputable def kf58 (call : CallF) : X → Env → H → Option (V × H) := finK Try.prog Try.f58.results.toList
noncomputable def k58_1 (call : CallF) : X → Env → H → Option (V × H) := sqK (fun _ E h => kC Try.prog call an58 36 (cdAt [1, 1, 1] (bodyOf Try.f58)) (kf58 call) (keepAt an58 (cdAt [1, 1, 1] (bodyOf Try.f58)) E) h) (kf58 call)
noncomputable def k58_2 (call : CallF) : X → Env → H → Option (V × H) := bkK 0 (k58_1 call)
noncomputable def S58_l2 (call : CallF) (x0 x1 x6 : V) (h : H) : Option (V × H) := loopK Try.prog call an58 36 (cdAt [1, 1, 0, 0, 0] (bodyOf Try.f58)) (k58_2 call) [(0, x0), (1, x1), (6, x6)] h
theorem S58_eq (a0 a1 : V) (h : H) : bodyK Try.prog call an58 Try.f58 (bodyOf Try.f58) [a0, a1] h =
 S58_l2 call a0 a1 (V.int .i64 0) h := by kernel_rfl
theorem S58_l2_eq (x0 x1 x6 : V) (h : H) : S58_l2 call x0 x1 x6 h =
 (lenL x0).bind fun v1 =>
 (binV Try.prog .lss 3 x6 v1).bind fun v2 =>
 spB v2
 ((iA 4 x0 x6).bind fun v3 =>
 (fA 0 v3).bind fun v4 =>
 (ld1 h v4).bind fun v5 =>
 (binV Try.prog .lss 3 v5 x1).bind fun v6 =>
 onB v6
 ((binV Try.prog .add 3 x6 (V.int .i64 1)).bind fun v7 =>
 S58_l2 call x0 x1 v7 h)
 ((lenL x0).bind fun v8 =>
 (binV Try.prog .lss 3 x6 v8).bind fun v9 =>
 spB v9
 ((iA 4 x0 x6).bind fun v10 =>
 (fA 0 v10).bind fun v11 =>
 (ld1 h v11).bind fun v12 =>
 (binV Try.prog .eql 3 v12 x1).bind fun v13 =>
 (ress [(some x6), (some v13)]).map fun vs => (tupOf vs, h))
 ((ress [(some x6), (some (V.bool false))]).map fun vs => (tupOf vs, h))))
 ((lenL x0).bind fun v14 =>
 (binV Try.prog .lss 3 x6 v14).bind fun v15 =>
 spB v15
 ((iA 4 x0 x6).bind fun v16 =>
 (fA 0 v16).bind fun v17 =>
 (ld1 h v17).bind fun v18 =>
 (binV Try.prog .eql 3 v18 x1).bind fun v19 =>
 (ress [(some x6), (some v19)]).map fun vs => (tupOf vs, h))
 ((ress [(some x6), (some (V.bool false))]).map fun vs => (tupOf vs, h))) := by
  refine (loopK_eq _ _ _ _ _ _ _).trans ?_
  kernel_rfl
-- loop.example/g00224/spec.l14Do
def an59 : Nat → List Nat := fun i => ([[0, 1], [0, 3, 5], [0, 3, 5, 6, 7], [0, 3, 5, 7], [0, 5], [0, 3, 5], [0, 3, 5, 6, 7], [0, 5], [0, 3, 5, 6], [0, 3, 5, 6, 8], [0, 5, 8], [0, 3, 5, 6, 8], [0, 5, 6, 8], [0, 3, 5, 8], [0, 5, 8], [0, 3, 5]] : List (List Nat)).getD i []
noncomputable def kf59 (call : CallF) : X → Env → H → Option (V × H) := finK Try.prog Try.f59.results.toList
noncomputable def k59_1 (call : CallF) : X → Env → H → Option (V × H) := sqK (fun _ E h => kC Try.prog call an59 84 (cdAt [1, 1, 1] (bodyOf Try.f59)) (kf59 call) (keepAt an59 (cdAt [1, 1, 1] (bodyOf Try.f59)) E) h) (kf59 call)
noncomputable def S59_j5 (call : CallF) (x0 x3 x5 : V) (h : H) : Option (V × H) := kC Try.prog call an59 84 (cdAt [1, 1, 0, 1, 0, 1] (bodyOf Try.f59)) (k59_1 call) [(0, x0), (3, x3), (5, x5)] h
theorem S59_eq (a0 a1 : V) (h : H) : bodyK Try.prog call an59 Try.f59 (bodyOf Try.f59) [a0, a1] h =
 bxK h a1 fun p1 h2 =>
 alK [(V.int .i64 0), (V.str ⟨#[]⟩)] h2 fun p3 h4 =>
 (fA 3 p1).bind fun v5 =>
 (ld1 h4 v5).bind fun v6 =>
 (call 78 [a0, v6] h4).bind fun r7 =>
 (extV r7.1 0).bind fun v8 =>
 (extV r7.1 1).bind fun v9 =>
 (fA 2 p1).bind fun v10 =>
 (ld1 r7.2 v10).bind fun v11 =>
 (binV Try.prog .eql 3 v11 (V.int .i64 2)).bind fun v12 =>
 onB v12
 ((unV .not v9).bind fun v13 =>
 spB v13
 ((lenL a0).bind fun v14 =>
 (binV Try.prog .eql 3 v14 (V.int .i64 40)).bind fun v15 =>
 onB v15
 ((bldV [(V.int .i64 0), (V.str ⟨#[]⟩)] [(0, 1, (V.int .i64 4))]).bind fun v16 =>
 stN 2 r7.2 p3 v16 fun h17 =>
 (ress [(some a0), (ldn 2 h17 p3)]).map fun vs => (tupOf vs, h17))
 (S59_j5 call a0 p1 p3 r7.2))
 (S59_j5 call a0 p1 p3 r7.2))
 ((unV .not v9).bind fun v18 =>
 onB v18
 ((bldV [(V.int .i64 0), (V.str ⟨#[]⟩)] [(0, 1, (V.int .i64 1))]).bind fun v19 =>
 stN 2 r7.2 p3 v19 fun h20 =>
 (ress [(some a0), (ldn 2 h20 p3)]).map fun vs => (tupOf vs, h20))
 ((iA 2 a0 v8).bind fun v21 =>
 (fA 1 v21).bind fun v22 =>
 (ld1 r7.2 v22).bind fun v23 =>
 (fA 2 p1).bind fun v24 =>
 (ld1 r7.2 v24).bind fun v25 =>
 (binV Try.prog .eql 3 v25 (V.int .i64 1)).bind fun v26 =>
 onB v26
 ((bldV [(V.int .i64 0), (V.str ⟨#[]⟩)] [(1, 1, v23)]).bind fun v27 =>
 stN 2 r7.2 p3 v27 fun h28 =>
 (ress [(some a0), (ldn 2 h28 p3)]).map fun vs => (tupOf vs, h28))
 ((fA 2 p1).bind fun v29 =>
 (ld1 r7.2 v29).bind fun v30 =>
 (binV Try.prog .eql 3 v30 (V.int .i64 3)).bind fun v31 =>
 onB v31
 ((slL 2 a0 none (some v8) none).bind fun v32 =>
 (binV Try.prog .add 3 v8 (V.int .i64 1)).bind fun v33 =>
 (slL 2 a0 (some v33) none none).bind fun v34 =>
 (bldV [(V.int .i64 0), (V.str ⟨#[]⟩)] [(1, 1, v23)]).bind fun v35 =>
 bsK 2 0 r7.2 [] [] fun p36 h37 =>
 (apL 2 32 h37 p36 v32).bind fun r38 =>
 (apL 2 32 r38.2 r38.1 v34).bind fun r39 =>
 stN 2 r39.2 p3 v35 fun h40 =>
 (ress [(some r39.1), (ldn 2 h40 p3)]).map fun vs => (tupOf vs, h40))
 ((fA 5 p1).bind fun v41 =>
 (ld1 r7.2 v41).bind fun v42 =>
 (binV Try.prog .neq 9 v23 v42).bind fun v43 =>
 onB v43
 ((bldV [(V.int .i64 0), (V.str ⟨#[]⟩)] [(0, 1, (V.int .i64 3)), (1, 1, v23)]).bind fun v44 =>
 stN 2 r7.2 p3 v44 fun h45 =>
 (ress [(some a0), (ldn 2 h45 p3)]).map fun vs => (tupOf vs, h45))
 ((fA 3 p1).bind fun v46 =>
 (ld1 r7.2 v46).bind fun v47 =>
 (fA 4 p1).bind fun v48 =>
 (ld1 r7.2 v48).bind fun v49 =>
 (bldV [(V.str ⟨#[]⟩), (V.str ⟨#[]⟩)] [(0, 1, v47), (1, 1, v49)]).bind fun v50 =>
 (call 79 [a0, v50] r7.2).bind fun r51 =>
 (bldV [(V.int .i64 0), (V.str ⟨#[]⟩)] []).bind fun v52 =>
 stN 2 r51.2 p3 v52 fun h53 =>
 (ress [(some r51.1), (ldn 2 h53 p3)]).map fun vs => (tupOf vs, h53)))))) := by kernel_rfl
theorem S59_j5_eq (x0 x3 x5 : V) (h : H) : S59_j5 call x0 x3 x5 h =
 (fA 3 x3).bind fun v54 =>
 (ld1 h v54).bind fun v55 =>
 (fA 4 x3).bind fun v56 =>
 (ld1 h v56).bind fun v57 =>
 (bldV [(V.str ⟨#[]⟩), (V.str ⟨#[]⟩)] [(0, 1, v55), (1, 1, v57)]).bind fun v58 =>
 (call 79 [x0, v58] h).bind fun r59 =>
 (bldV [(V.int .i64 0), (V.str ⟨#[]⟩)] []).bind fun v60 =>
 stN 2 r59.2 x5 v60 fun h61 =>
 (ress [(some r59.1), (ldn 2 h61 x5)]).map fun vs => (tupOf vs, h61) := by kernel_rfl
-- slices.Clone[[]loop.example/g00224/impl.Pair,loop.example/g00224/impl.Pair]
def an60 : Nat → List Nat := fun i => ([[0], [0], [], [0]] : List (List Nat)).getD i []
theorem S60_eq (a0 : V) (h : H) : bodyK Try.prog call an60 Try.f60 (bodyOf Try.f60) [a0] h =
 (binV Try.prog .eql 43 a0 (V.sl 0 0 0 0)).bind fun v1 =>
 onB v1
 ((ress [(some (V.sl 0 0 0 0))]).map fun vs => (tupOf vs, h))
 (bsK 2 0 h [] [] fun p2 h3 =>
 (apL 2 32 h3 p2 a0).bind fun r4 =>
 (ress [(some r4.1)]).map fun vs => (tupOf vs, r4.2)) := by kernel_rfl
-- slices.Equal[[]loop.example/g00224/impl.Pair,loop.example/g00224/impl.Pair]
def an61 : Nat → List Nat := fun i => ([[0, 1], [0, 1], [], [0, 1], [0, 1, 12, 13], [0, 1, 12, 13], [0, 1, 5, 12, 13], [], [0, 1, 12, 13], []] : List (List Nat)).getD i []
noncomputable def kf61 (call : CallF) : X → Env → H → Option (V × H) := finK Try.prog Try.f61.results.toList
noncomputable def k61_1 (call : CallF) : X → Env → H → Option (V × H) := sqK (fun _ E h => kC Try.prog call an61 26 (cdAt [1, 1, 1] (bodyOf Try.f61)) (kf61 call) (keepAt an61 (cdAt [1, 1, 1] (bodyOf Try.f61)) E) h) (kf61 call)
noncomputable def k61_2 (call : CallF) : X → Env → H → Option (V × H) := bkK 0 (k61_1 call)
noncomputable def S61_l4 (call : CallF) (x0 x1 x12 x13 : V) (h : H) : Option (V × H) := loopK Try.prog call an61 26 (cdAt [1, 1, 0, 1, 0, 0] (bodyOf Try.f61)) (k61_2 call) [(0, x0), (1, x1), (12, x12), (13, x13)] h
theorem S61_eq (a0 a1 : V) (h : H) : bodyK Try.prog call an61 Try.f61 (bodyOf Try.f61) [a0, a1] h =
 (lenL a0).bind fun v1 =>
 (lenL a1).bind fun v2 =>
 (binV Try.prog .neq 3 v1 v2).bind fun v3 =>
 onB v3
 ((ress [(some (V.bool false))]).map fun vs => (tupOf vs, h))
 ((lenL a0).bind fun v4 =>
 S61_l4 call a0 a1 v4 (V.int .i64 0) h) := by kernel_rfl
theorem S61_l4_eq (x0 x1 x12 x13 : V) (h : H) : S61_l4 call x0 x1 x12 x13 h =
 (binV Try.prog .lss 3 x13 x12).bind fun v5 =>
 onB v5
 ((iA 2 x0 x13).bind fun v6 =>
 (ldn 2 h v6).bind fun v7 =>
 (iA 2 x1 x13).bind fun v8 =>
 (ldn 2 h v8).bind fun v9 =>
 (binV Try.prog .neq 88 v7 v9).bind fun v10 =>
 onB v10
 ((ress [(some (V.bool false))]).map fun vs => (tupOf vs, h))
 ((binV Try.prog .add 3 x13 (V.int .i64 1)).bind fun v11 =>
 S61_l4 call x0 x1 x12 v11 h))
 ((ress [(some (V.bool true))]).map fun vs => (tupOf vs, h)) := by
  refine (loopK_eq _ _ _ _ _ _ _).trans ?_
  kernel_rfl
-- (*loop.example/g00224/impl.KvState).cellAt
def an62 : Nat → List Nat := fun i => ([[0, 1], [0, 1]] : List (List Nat)).getD i []
theorem S62_eq (a0 a1 : V) (h : H) : bodyK Try.prog call an62 Try.f62 (bodyOf Try.f62) [a0, a1] h =
 (nilC a0).bind fun v1 =>
 (fA 0 v1).bind fun v2 =>
 (ld1 h v2).bind fun v3 =>
 (call 80 [v3, a1, (V.fn 81 [])] h).bind fun r4 =>
 (extV r4.1 0).bind fun v5 =>
 (extV r4.1 1).bind fun v6 =>
 (ress [(some v5), (some v6)]).map fun vs => (tupOf vs, r4.2) := by kernel_rfl
-- (*loop.example/g00224/spec.l1Cur).command
def an63 : Nat → List Nat := fun i => ([[0], [0, 2], [0, 2, 3], [0, 2, 3], [0, 2, 3], [0, 2, 3], [0, 2, 3], [0, 2, 3, 35], [0, 2, 3], [0, 2, 3, 35], [0, 2, 3], [0, 2, 3, 35], [0, 2, 3], [2, 3]] : List (List Nat)).getD i []
noncomputable def kf63 (call : CallF) : X → Env → H → Option (V × H) := finK Try.prog Try.f63.results.toList
noncomputable def S63_j4 (call : CallF) (x0 x2 x3 : V) (h : H) : Option (V × H) := kC Try.prog call an63 57 (cdAt [1, 1, 1] (bodyOf Try.f63)) (kf63 call) [(0, x0), (2, x2), (3, x3)] h
noncomputable def S63_j6 (call : CallF) (x0 x2 x3 : V) (h : H) : Option (V × H) := kC Try.prog call an63 57 (cdAt [1, 1, 1, 1] (bodyOf Try.f63)) (kf63 call) [(0, x0), (2, x2), (3, x3)] h
theorem S63_eq (a0 : V) (h : H) : bodyK Try.prog call an63 Try.f63 (bodyOf Try.f63) [a0] h =
 alK [(V.int .i64 0), (V.int .i64 0), (V.int .i64 0), (V.str ⟨#[]⟩), (V.str ⟨#[]⟩), (V.str ⟨#[]⟩)] h fun p1 h2 =>
 (call 71 [a0, (V.int .i64 4)] h2).bind fun r3 =>
 (call 71 [a0, (V.int .i64 6)] r3.2).bind fun r4 =>
 (binV Try.prog .add 3 (V.int .i64 1) r4.1).bind fun v5 =>
 (call 71 [a0, (V.int .i64 4)] r4.2).bind fun r6 =>
 (binV Try.prog .add 3 (V.int .i64 1) r6.1).bind fun v7 =>
 (call 83 [a0] r6.2).bind fun r8 =>
 (bldV [(V.int .i64 0), (V.int .i64 0), (V.int .i64 0), (V.str ⟨#[]⟩), (V.str ⟨#[]⟩), (V.str ⟨#[]⟩)] [(0, 1, r3.1), (1, 1, v5), (2, 1, v7), (3, 1, r8.1)]).bind fun v9 =>
 alK [(V.int .i64 0), (V.int .i64 0), (V.int .i64 0), (V.str ⟨#[]⟩), (V.str ⟨#[]⟩), (V.str ⟨#[]⟩)] r8.2 fun p10 h11 =>
 stN 6 h11 p10 v9 fun h12 =>
 (fA 2 p10).bind fun v13 =>
 (ld1 h12 v13).bind fun v14 =>
 (binV Try.prog .eql 3 v14 (V.int .i64 2)).bind fun v15 =>
 spB v15
 (bsK 1 4 h12 [(V.str ⟨#[]⟩), (V.str ⟨#[]⟩), (V.str ⟨#[]⟩), (V.str ⟨#[]⟩)] [(0, 1, (V.str ⟨#[49]⟩)), (1, 1, (V.str ⟨#[50]⟩)), (2, 1, (V.str ⟨#[51]⟩)), (3, 1, (V.str ⟨#[]⟩))] fun p16 h17 =>
 (call 84 [a0, p16] h17).bind fun r18 =>
 (fA 4 p10).bind fun v19 =>
 stN 1 r18.2 v19 r18.1 fun h20 =>
 S63_j4 call a0 p1 p10 h20)
 ((fA 2 p10).bind fun v21 =>
 (ld1 h12 v21).bind fun v22 =>
 (binV Try.prog .eql 3 v22 (V.int .i64 4)).bind fun v23 =>
 onB v23
 (bsK 1 4 h12 [(V.str ⟨#[]⟩), (V.str ⟨#[]⟩), (V.str ⟨#[]⟩), (V.str ⟨#[]⟩)] [(0, 1, (V.str ⟨#[49]⟩)), (1, 1, (V.str ⟨#[50]⟩)), (2, 1, (V.str ⟨#[51]⟩)), (3, 1, (V.str ⟨#[]⟩))] fun p24 h25 =>
 (call 84 [a0, p24] h25).bind fun r26 =>
 (fA 4 p10).bind fun v27 =>
 stN 1 r26.2 v27 r26.1 fun h28 =>
 S63_j4 call a0 p1 p10 h28)
 (S63_j4 call a0 p1 p10 h12)) := by kernel_rfl
theorem S63_j4_eq (x0 x2 x3 : V) (h : H) : S63_j4 call x0 x2 x3 h =
 (fA 2 x3).bind fun v29 =>
 (ld1 h v29).bind fun v30 =>
 (binV Try.prog .eql 3 v30 (V.int .i64 4)).bind fun v31 =>
 onB v31
 (bsK 1 3 h [(V.str ⟨#[]⟩), (V.str ⟨#[]⟩), (V.str ⟨#[]⟩)] [(0, 1, (V.str ⟨#[49]⟩)), (1, 1, (V.str ⟨#[50]⟩)), (2, 1, (V.str ⟨#[]⟩))] fun p32 h33 =>
 (call 84 [x0, p32] h33).bind fun r34 =>
 (fA 5 x3).bind fun v35 =>
 stN 1 r34.2 v35 r34.1 fun h36 =>
 S63_j6 call x0 x2 x3 h36)
 (S63_j6 call x0 x2 x3 h) := by kernel_rfl
theorem S63_j6_eq (x0 x2 x3 : V) (h : H) : S63_j6 call x0 x2 x3 h =
 (call 71 [x0, (V.int .i64 60)] h).bind fun r37 =>
 (binV Try.prog .eql 3 r37.1 (V.int .i64 0)).bind fun v38 =>
 onB v38
 (bsK 1 3 r37.2 [(V.int .i64 0), (V.int .i64 0), (V.int .i64 0)] [(0, 1, (V.int .i64 (-1))), (1, 1, (V.int .i64 99)), (2, 1, (V.int .i64 100))] fun p39 h40 =>
 (call 85 [x0, p39] h40).bind fun r41 =>
 (fA 0 x3).bind fun v42 =>
 stN 1 r41.2 v42 r41.1 fun h43 =>
 (ldn 6 h43 x3).bind fun v44 =>
 stN 6 h43 x2 v44 fun h45 =>
 (ress [(ldn 6 h45 x2)]).map fun vs => (tupOf vs, h45))
 ((binV Try.prog .eql 3 r37.1 (V.int .i64 1)).bind fun v46 =>
 onB v46
 (bsK 1 3 r37.2 [(V.int .i64 0), (V.int .i64 0), (V.int .i64 0)] [(0, 1, (V.int .i64 0)), (1, 1, (V.int .i64 1000000)), (2, 1, (V.int .i64 1000001))] fun p47 h48 =>
 (call 85 [x0, p47] h48).bind fun r49 =>
 (fA 1 x3).bind fun v50 =>
 stN 1 r49.2 v50 r49.1 fun h51 =>
 (ldn 6 h51 x3).bind fun v52 =>
 stN 6 h51 x2 v52 fun h53 =>
 (ress [(ldn 6 h53 x2)]).map fun vs => (tupOf vs, h53))
 ((binV Try.prog .eql 3 r37.1 (V.int .i64 2)).bind fun v54 =>
 onB v54
 ((call 71 [x0, (V.int .i64 2)] r37.2).bind fun r55 =>
 (binV Try.prog .add 3 (V.int .i64 40) r55.1).bind fun v56 =>
 mkK 1 1 [(V.int .u8 0)] r55.2 v56 v56 fun p57 h58 =>
 (cvB h58 p57).bind fun v59 =>
 (fA 4 x3).bind fun v60 =>
 stN 1 h58 v60 v59 fun h61 =>
 (ldn 6 h61 x3).bind fun v62 =>
 stN 6 h61 x2 v62 fun h63 =>
 (ress [(ldn 6 h63 x2)]).map fun vs => (tupOf vs, h63))
 ((ldn 6 r37.2 x3).bind fun v64 =>
 stN 6 r37.2 x2 v64 fun h65 =>
 (ress [(ldn 6 h65 x2)]).map fun vs => (tupOf vs, h65)))) := by kernel_rfl
-- loop.example/g00224/impl.in
def an64 : Nat → List Nat := fun i => ([[0, 1, 2], [0, 1, 2]] : List (List Nat)).getD i []
theorem S64_eq (a0 a1 a2 : V) (h : H) : bodyK Try.prog call an64 Try.f64 (bodyOf Try.f64) [a0, a1, a2] h =
 (binV Try.prog .geq 3 a0 a1).bind fun v1 =>
 spB v1
 ((binV Try.prog .leq 3 a0 a2).bind fun v2 =>
 (ress [(some v2)]).map fun vs => (tupOf vs, h))
 ((ress [(some (V.bool false))]).map fun vs => (tupOf vs, h)) := by kernel_rfl
-- loop.example/g00224/impl.isKey
def an65 : Nat → List Nat := fun i => ([[0], [0]] : List (List Nat)).getD i []
theorem S65_eq (a0 : V) (h : H) : bodyK Try.prog call an65 Try.f65 (bodyOf Try.f65) [a0] h =
 (lenS a0).bind fun v1 =>
 (call 64 [v1, (V.int .i64 1), (V.int .i64 16)] h).bind fun r2 =>
 (ress [(some r2.1)]).map fun vs => (tupOf vs, r2.2) := by kernel_rfl
-- loop.example/g00224/impl.isValue
def an66 : Nat → List Nat := fun i => ([[0], [0]] : List (List Nat)).getD i []
theorem S66_eq (a0 : V) (h : H) : bodyK Try.prog call an66 Try.f66 (bodyOf Try.f66) [a0] h =
 (lenS a0).bind fun v1 =>
 (binV Try.prog .leq 3 v1 (V.int .i64 40)).bind fun v2 =>
 (ress [(some v2)]).map fun vs => (tupOf vs, h) := by kernel_rfl
-- loop.example/g00224/spec.l1In
def an67 : Nat → List Nat := fun i => ([[0, 1, 2], [0, 1, 2]] : List (List Nat)).getD i []
theorem S67_eq (a0 a1 a2 : V) (h : H) : bodyK Try.prog call an67 Try.f67 (bodyOf Try.f67) [a0, a1, a2] h =
 (binV Try.prog .geq 3 a0 a1).bind fun v1 =>
 spB v1
 ((binV Try.prog .leq 3 a0 a2).bind fun v2 =>
 (ress [(some v2)]).map fun vs => (tupOf vs, h))
 ((ress [(some (V.bool false))]).map fun vs => (tupOf vs, h)) := by kernel_rfl
-- loop.example/g00224/spec.l4Key
def an68 : Nat → List Nat := fun i => ([[0], [0]] : List (List Nat)).getD i []
theorem S68_eq (a0 : V) (h : H) : bodyK Try.prog call an68 Try.f68 (bodyOf Try.f68) [a0] h =
 (lenS a0).bind fun v1 =>
 (call 67 [v1, (V.int .i64 1), (V.int .i64 16)] h).bind fun r2 =>
 (ress [(some r2.1)]).map fun vs => (tupOf vs, r2.2) := by kernel_rfl
-- loop.example/g00224/spec.l2Var
def an69 : Nat → List Nat := fun i => ([[0], [0], [0, 3], [0, 3], [0, 3], [0, 3]] : List (List Nat)).getD i []
noncomputable def kf69 (call : CallF) : X → Env → H → Option (V × H) := finK Try.prog Try.f69.results.toList
noncomputable def k69_1 (call : CallF) : X → Env → H → Option (V × H) := sqK (fun _ E h => kC Try.prog call an69 21 (cdAt [1, 1, 1] (bodyOf Try.f69)) (kf69 call) (keepAt an69 (cdAt [1, 1, 1] (bodyOf Try.f69)) E) h) (kf69 call)
noncomputable def k69_2 (call : CallF) : X → Env → H → Option (V × H) := bkK 0 (k69_1 call)
noncomputable def S69_l2 (call : CallF) (x0 x3 : V) (h : H) : Option (V × H) := loopK Try.prog call an69 21 (cdAt [1, 1, 0, 0, 0] (bodyOf Try.f69)) (k69_2 call) [(0, x0), (3, x3)] h
theorem S69_eq (a0 : V) (h : H) : bodyK Try.prog call an69 Try.f69 (bodyOf Try.f69) [a0] h =
 S69_l2 call a0 (V.sl 0 0 0 0) h := by kernel_rfl
theorem S69_l2_eq (x0 x3 : V) (h : H) : S69_l2 call x0 x3 h =
 (binV Try.prog .gtr 3 x0 (V.int .i64 127)).bind fun v1 =>
 onB v1
 ((binV Try.prog .and 3 x0 (V.int .i64 127)).bind fun v2 =>
 (binV Try.prog .or 3 v2 (V.int .i64 128)).bind fun v3 =>
 (cvI .u8 v3).bind fun v4 =>
 bsK 1 1 h [(V.int .u8 0)] [(0, 1, v4)] fun p5 h6 =>
 (apL 1 1 h6 x3 p5).bind fun r7 =>
 (binV Try.prog .shr 3 x0 (V.int .u64 7)).bind fun v8 =>
 S69_l2 call v8 r7.1 r7.2)
 ((cvI .u8 x0).bind fun v9 =>
 bsK 1 1 h [(V.int .u8 0)] [(0, 1, v9)] fun p10 h11 =>
 (apL 1 1 h11 x3 p10).bind fun r12 =>
 (cvB r12.2 r12.1).bind fun v13 =>
 (ress [(some v13)]).map fun vs => (tupOf vs, r12.2)) := by
  refine (loopK_eq _ _ _ _ _ _ _).trans ?_
  kernel_rfl
-- loop.example/g00224/impl.TakeVar
def an70 : Nat → List Nat := fun i => ([[0], [0], [0, 4], [0, 4, 5], [0, 4, 5], [0, 4, 5], [0, 4, 5, 6], [0, 4, 5, 6], [4, 5, 6], [], [4, 5], []] : List (List Nat)).getD i []
noncomputable def kf70 (call : CallF) : X → Env → H → Option (V × H) := finK Try.prog Try.f70.results.toList
noncomputable def k70_1 (call : CallF) : X → Env → H → Option (V × H) := sqK (fun _ E h => kC Try.prog call an70 36 (cdAt [1, 1, 1] (bodyOf Try.f70)) (kf70 call) (keepAt an70 (cdAt [1, 1, 1] (bodyOf Try.f70)) E) h) (kf70 call)
noncomputable def k70_2 (call : CallF) : X → Env → H → Option (V × H) := bkK 0 (k70_1 call)
noncomputable def S70_l3 (call : CallF) (x0 x4 x5 : V) (h : H) : Option (V × H) := loopK Try.prog call an70 36 (cdAt [1, 1, 0, 1, 0, 0] (bodyOf Try.f70)) (k70_2 call) [(0, x0), (4, x4), (5, x5)] h
theorem S70_eq (a0 : V) (h : H) : bodyK Try.prog call an70 Try.f70 (bodyOf Try.f70) [a0] h =
 S70_l3 call a0 (V.int .i64 0) (V.int .i64 0) h := by kernel_rfl
theorem S70_l3_eq (x0 x4 x5 : V) (h : H) : S70_l3 call x0 x4 x5 h =
 (lenS x0).bind fun v1 =>
 (mms false v1 [(V.int .i64 9)]).bind fun v2 =>
 (binV Try.prog .lss 3 x5 v2).bind fun v3 =>
 onB v3
 ((ixS x0 x5).bind fun v4 =>
 (cvI .i64 v4).bind fun v5 =>
 (binV Try.prog .rem 3 v5 (V.int .i64 128)).bind fun v6 =>
 (binV Try.prog .mul 3 (V.int .i64 7) x5).bind fun v7 =>
 (binV Try.prog .shl 3 v6 v7).bind fun v8 =>
 (binV Try.prog .or 3 x4 v8).bind fun v9 =>
 (binV Try.prog .lss 3 v5 (V.int .i64 128)).bind fun v10 =>
 onB v10
 ((binV Try.prog .gtr 3 x5 (V.int .i64 0)).bind fun v11 =>
 spB v11
 ((binV Try.prog .eql 3 v5 (V.int .i64 0)).bind fun v12 =>
 onB v12
 ((ress [(some (V.int .i64 0)), (some (V.int .i64 0))]).map fun vs => (tupOf vs, h))
 ((binV Try.prog .add 3 x5 (V.int .i64 1)).bind fun v13 =>
 (ress [(some v9), (some v13)]).map fun vs => (tupOf vs, h)))
 ((binV Try.prog .add 3 x5 (V.int .i64 1)).bind fun v14 =>
 (ress [(some v9), (some v14)]).map fun vs => (tupOf vs, h)))
 ((binV Try.prog .add 3 x5 (V.int .i64 1)).bind fun v15 =>
 S70_l3 call x0 v9 v15 h))
 ((ress [(some (V.int .i64 0)), (some (V.int .i64 0))]).map fun vs => (tupOf vs, h)) := by
  refine (loopK_eq _ _ _ _ _ _ _).trans ?_
  kernel_rfl
-- (*loop.example/g00224/spec.l1Cur).pick
def an71 : Nat → List Nat := fun i => ([[0, 1], [0, 1], [], [0, 1], [0, 1, 5], [0, 1, 5], [1, 5]] : List (List Nat)).getD i []
theorem S71_eq (a0 a1 : V) (h : H) : bodyK Try.prog call an71 Try.f71 (bodyOf Try.f71) [a0, a1] h =
 (binV Try.prog .leq 3 a1 (V.int .i64 1)).bind fun v1 =>
 onB v1
 ((ress [(some (V.int .i64 0))]).map fun vs => (tupOf vs, h))
 ((call 86 [a0] h).bind fun r2 =>
 (binV Try.prog .gtr 3 a1 (V.int .i64 200)).bind fun v3 =>
 onB v3
 ((binV Try.prog .mul 3 r2.1 (V.int .i64 256)).bind fun v4 =>
 (call 86 [a0] r2.2).bind fun r5 =>
 (binV Try.prog .add 3 v4 r5.1).bind fun v6 =>
 (binV Try.prog .rem 3 v6 a1).bind fun v7 =>
 (ress [(some v7)]).map fun vs => (tupOf vs, r5.2))
 ((binV Try.prog .rem 3 r2.1 a1).bind fun v8 =>
 (ress [(some v8)]).map fun vs => (tupOf vs, r2.2))) := by kernel_rfl
-- (*loop.example/g00224/spec.l1Cur).one
def an72 : Nat → List Nat := fun i => ([[0, 1], [0, 1]] : List (List Nat)).getD i []
theorem S72_eq (a0 a1 : V) (h : H) : bodyK Try.prog call an72 Try.f72 (bodyOf Try.f72) [a0, a1] h =
 (call 71 [a0, a1] h).bind fun r1 =>
 (binV Try.prog .eql 3 r1.1 (V.int .i64 0)).bind fun v2 =>
 (ress [(some v2)]).map fun vs => (tupOf vs, r1.2) := by kernel_rfl
-- (*loop.example/g00224/impl.KvState).sessionAt
def an73 : Nat → List Nat := fun i => ([[0, 1], [0, 1]] : List (List Nat)).getD i []
theorem S73_eq (a0 a1 : V) (h : H) : bodyK Try.prog call an73 Try.f73 (bodyOf Try.f73) [a0, a1] h =
 (nilC a0).bind fun v1 =>
 (fA 1 v1).bind fun v2 =>
 (ld1 h v2).bind fun v3 =>
 (call 87 [v3, a1, (V.fn 88 [])] h).bind fun r4 =>
 (extV r4.1 0).bind fun v5 =>
 (extV r4.1 1).bind fun v6 =>
 (ress [(some v5), (some v6)]).map fun vs => (tupOf vs, r4.2) := by kernel_rfl
-- (*loop.example/g00224/impl.KvState).do
def an75 : Nat → List Nat := fun i => ([[0, 1], [0, 3, 4], [0, 3, 4, 5, 6], [0, 3, 4, 5], [4], [0, 3, 4, 5, 6], [4], [0, 3, 4, 5, 6], [0, 3, 4, 5], [4], [0, 3, 4, 5, 6], [4], [0, 3, 4, 5], [0, 3, 4, 5, 7], [4, 7], [0, 3, 4, 5, 7], [0, 4, 5, 7], [4, 7], [0, 3, 4, 5, 7], [4, 7], [0, 3, 4, 5], [4]] : List (List Nat)).getD i []
noncomputable def kf75 (call : CallF) : X → Env → H → Option (V × H) := finK Try.prog Try.f75.results.toList
noncomputable def S75_j12 (call : CallF) (x0 x3 x4 x5 : V) (h : H) : Option (V × H) := kC Try.prog call an75 117 (cdAt [1, 1, 1] (bodyOf Try.f75)) (kf75 call) [(0, x0), (3, x3), (4, x4), (5, x5)] h
theorem S75_eq (a0 a1 : V) (h : H) : bodyK Try.prog call an75 Try.f75 (bodyOf Try.f75) [a0, a1] h =
 bxK h a1 fun p1 h2 =>
 alK [(V.int .i64 0), (V.str ⟨#[]⟩)] h2 fun p3 h4 =>
 (fA 3 p1).bind fun v5 =>
 (ld1 h4 v5).bind fun v6 =>
 (call 62 [a0, v6] h4).bind fun r7 =>
 (extV r7.1 0).bind fun v8 =>
 (extV r7.1 1).bind fun v9 =>
 (fA 2 p1).bind fun v10 =>
 (ld1 r7.2 v10).bind fun v11 =>
 (binV Try.prog .eql 3 v11 (V.int .i64 2)).bind fun v12 =>
 spB v12
 (onB v9
 ((nilC a0).bind fun v13 =>
 (fA 0 v13).bind fun v14 =>
 (ld1 r7.2 v14).bind fun v15 =>
 (fA 4 p1).bind fun v16 =>
 (ld1 r7.2 v16).bind fun v17 =>
 (iA 2 v15 v8).bind fun v18 =>
 (fA 1 v18).bind fun v19 =>
 stN 1 r7.2 v19 v17 fun h20 =>
 (bldV [(V.int .i64 0), (V.str ⟨#[]⟩)] []).bind fun v21 =>
 stN 2 h20 p3 v21 fun h22 =>
 (ress [(ldn 2 h22 p3)]).map fun vs => (tupOf vs, h22))
 ((fA 2 p1).bind fun v23 =>
 (ld1 r7.2 v23).bind fun v24 =>
 (binV Try.prog .eql 3 v24 (V.int .i64 2)).bind fun v25 =>
 spB v25
 ((nilC a0).bind fun v26 =>
 (fA 0 v26).bind fun v27 =>
 (ld1 r7.2 v27).bind fun v28 =>
 (lenL v28).bind fun v29 =>
 (binV Try.prog .eql 3 v29 (V.int .i64 40)).bind fun v30 =>
 onB v30
 ((bldV [(V.int .i64 0), (V.str ⟨#[]⟩)] [(0, 1, (V.int .i64 4))]).bind fun v31 =>
 stN 2 r7.2 p3 v31 fun h32 =>
 (ress [(ldn 2 h32 p3)]).map fun vs => (tupOf vs, h32))
 ((fA 2 p1).bind fun v33 =>
 (ld1 r7.2 v33).bind fun v34 =>
 (binV Try.prog .eql 3 v34 (V.int .i64 2)).bind fun v35 =>
 onB v35
 ((nilC a0).bind fun v36 =>
 (fA 0 v36).bind fun v37 =>
 (ld1 r7.2 v37).bind fun v38 =>
 (fA 3 p1).bind fun v39 =>
 (ld1 r7.2 v39).bind fun v40 =>
 (fA 4 p1).bind fun v41 =>
 (ld1 r7.2 v41).bind fun v42 =>
 (bldV [(V.str ⟨#[]⟩), (V.str ⟨#[]⟩)] [(0, 1, v40), (1, 1, v42)]).bind fun v43 =>
 bsK 2 1 r7.2 [(V.str ⟨#[]⟩), (V.str ⟨#[]⟩)] [(0, 2, v43)] fun p44 h45 =>
 pdV h45 v41 r7.2 (
 pdV h45 v39 r7.2 (
 pdV h45 v37 r7.2 (
 (call 92 [v38, v8, p44] h45).bind fun r46 =>
 pdV r46.2 v41 r7.2 (
 pdV r46.2 v39 r7.2 (
 (nilC a0).bind fun v47 =>
 (fA 0 v47).bind fun v48 =>
 stN 1 r46.2 v48 r46.1 fun h49 =>
 (bldV [(V.int .i64 0), (V.str ⟨#[]⟩)] []).bind fun v50 =>
 stN 2 h49 p3 v50 fun h51 =>
 (ress [(ldn 2 h51 p3)]).map fun vs => (tupOf vs, h51)))))))
 ((unV .not v9).bind fun v52 =>
 onB v52
 ((bldV [(V.int .i64 0), (V.str ⟨#[]⟩)] [(0, 1, (V.int .i64 1))]).bind fun v53 =>
 stN 2 r7.2 p3 v53 fun h54 =>
 (ress [(ldn 2 h54 p3)]).map fun vs => (tupOf vs, h54))
 (S75_j12 call a0 p1 p3 v8 r7.2))))
 ((fA 2 p1).bind fun v55 =>
 (ld1 r7.2 v55).bind fun v56 =>
 (binV Try.prog .eql 3 v56 (V.int .i64 2)).bind fun v57 =>
 onB v57
 ((nilC a0).bind fun v58 =>
 (fA 0 v58).bind fun v59 =>
 (ld1 r7.2 v59).bind fun v60 =>
 (fA 3 p1).bind fun v61 =>
 (ld1 r7.2 v61).bind fun v62 =>
 (fA 4 p1).bind fun v63 =>
 (ld1 r7.2 v63).bind fun v64 =>
 (bldV [(V.str ⟨#[]⟩), (V.str ⟨#[]⟩)] [(0, 1, v62), (1, 1, v64)]).bind fun v65 =>
 bsK 2 1 r7.2 [(V.str ⟨#[]⟩), (V.str ⟨#[]⟩)] [(0, 2, v65)] fun p66 h67 =>
 pdV h67 v63 r7.2 (
 pdV h67 v61 r7.2 (
 pdV h67 v59 r7.2 (
 (call 92 [v60, v8, p66] h67).bind fun r68 =>
 pdV r68.2 v63 r7.2 (
 pdV r68.2 v61 r7.2 (
 (nilC a0).bind fun v69 =>
 (fA 0 v69).bind fun v70 =>
 stN 1 r68.2 v70 r68.1 fun h71 =>
 (bldV [(V.int .i64 0), (V.str ⟨#[]⟩)] []).bind fun v72 =>
 stN 2 h71 p3 v72 fun h73 =>
 (ress [(ldn 2 h73 p3)]).map fun vs => (tupOf vs, h73)))))))
 ((unV .not v9).bind fun v74 =>
 onB v74
 ((bldV [(V.int .i64 0), (V.str ⟨#[]⟩)] [(0, 1, (V.int .i64 1))]).bind fun v75 =>
 stN 2 r7.2 p3 v75 fun h76 =>
 (ress [(ldn 2 h76 p3)]).map fun vs => (tupOf vs, h76))
 (S75_j12 call a0 p1 p3 v8 r7.2)))))
 ((fA 2 p1).bind fun v77 =>
 (ld1 r7.2 v77).bind fun v78 =>
 (binV Try.prog .eql 3 v78 (V.int .i64 2)).bind fun v79 =>
 spB v79
 ((nilC a0).bind fun v80 =>
 (fA 0 v80).bind fun v81 =>
 (ld1 r7.2 v81).bind fun v82 =>
 (lenL v82).bind fun v83 =>
 (binV Try.prog .eql 3 v83 (V.int .i64 40)).bind fun v84 =>
 onB v84
 ((bldV [(V.int .i64 0), (V.str ⟨#[]⟩)] [(0, 1, (V.int .i64 4))]).bind fun v85 =>
 stN 2 r7.2 p3 v85 fun h86 =>
 (ress [(ldn 2 h86 p3)]).map fun vs => (tupOf vs, h86))
 ((fA 2 p1).bind fun v87 =>
 (ld1 r7.2 v87).bind fun v88 =>
 (binV Try.prog .eql 3 v88 (V.int .i64 2)).bind fun v89 =>
 onB v89
 ((nilC a0).bind fun v90 =>
 (fA 0 v90).bind fun v91 =>
 (ld1 r7.2 v91).bind fun v92 =>
 (fA 3 p1).bind fun v93 =>
 (ld1 r7.2 v93).bind fun v94 =>
 (fA 4 p1).bind fun v95 =>
 (ld1 r7.2 v95).bind fun v96 =>
 (bldV [(V.str ⟨#[]⟩), (V.str ⟨#[]⟩)] [(0, 1, v94), (1, 1, v96)]).bind fun v97 =>
 bsK 2 1 r7.2 [(V.str ⟨#[]⟩), (V.str ⟨#[]⟩)] [(0, 2, v97)] fun p98 h99 =>
 pdV h99 v95 r7.2 (
 pdV h99 v93 r7.2 (
 pdV h99 v91 r7.2 (
 (call 92 [v92, v8, p98] h99).bind fun r100 =>
 pdV r100.2 v95 r7.2 (
 pdV r100.2 v93 r7.2 (
 (nilC a0).bind fun v101 =>
 (fA 0 v101).bind fun v102 =>
 stN 1 r100.2 v102 r100.1 fun h103 =>
 (bldV [(V.int .i64 0), (V.str ⟨#[]⟩)] []).bind fun v104 =>
 stN 2 h103 p3 v104 fun h105 =>
 (ress [(ldn 2 h105 p3)]).map fun vs => (tupOf vs, h105)))))))
 ((unV .not v9).bind fun v106 =>
 onB v106
 ((bldV [(V.int .i64 0), (V.str ⟨#[]⟩)] [(0, 1, (V.int .i64 1))]).bind fun v107 =>
 stN 2 r7.2 p3 v107 fun h108 =>
 (ress [(ldn 2 h108 p3)]).map fun vs => (tupOf vs, h108))
 (S75_j12 call a0 p1 p3 v8 r7.2))))
 ((fA 2 p1).bind fun v109 =>
 (ld1 r7.2 v109).bind fun v110 =>
 (binV Try.prog .eql 3 v110 (V.int .i64 2)).bind fun v111 =>
 onB v111
 ((nilC a0).bind fun v112 =>
 (fA 0 v112).bind fun v113 =>
 (ld1 r7.2 v113).bind fun v114 =>
 (fA 3 p1).bind fun v115 =>
 (ld1 r7.2 v115).bind fun v116 =>
 (fA 4 p1).bind fun v117 =>
 (ld1 r7.2 v117).bind fun v118 =>
 (bldV [(V.str ⟨#[]⟩), (V.str ⟨#[]⟩)] [(0, 1, v116), (1, 1, v118)]).bind fun v119 =>
 bsK 2 1 r7.2 [(V.str ⟨#[]⟩), (V.str ⟨#[]⟩)] [(0, 2, v119)] fun p120 h121 =>
 pdV h121 v117 r7.2 (
 pdV h121 v115 r7.2 (
 pdV h121 v113 r7.2 (
 (call 92 [v114, v8, p120] h121).bind fun r122 =>
 pdV r122.2 v117 r7.2 (
 pdV r122.2 v115 r7.2 (
 (nilC a0).bind fun v123 =>
 (fA 0 v123).bind fun v124 =>
 stN 1 r122.2 v124 r122.1 fun h125 =>
 (bldV [(V.int .i64 0), (V.str ⟨#[]⟩)] []).bind fun v126 =>
 stN 2 h125 p3 v126 fun h127 =>
 (ress [(ldn 2 h127 p3)]).map fun vs => (tupOf vs, h127)))))))
 ((unV .not v9).bind fun v128 =>
 onB v128
 ((bldV [(V.int .i64 0), (V.str ⟨#[]⟩)] [(0, 1, (V.int .i64 1))]).bind fun v129 =>
 stN 2 r7.2 p3 v129 fun h130 =>
 (ress [(ldn 2 h130 p3)]).map fun vs => (tupOf vs, h130))
 (S75_j12 call a0 p1 p3 v8 r7.2)))) := by kernel_rfl
theorem S75_j12_eq (x0 x3 x4 x5 : V) (h : H) : S75_j12 call x0 x3 x4 x5 h =
 (nilC x0).bind fun v131 =>
 (fA 0 v131).bind fun v132 =>
 (ld1 h v132).bind fun v133 =>
 (iA 2 v133 x5).bind fun v134 =>
 (fA 1 v134).bind fun v135 =>
 (ld1 h v135).bind fun v136 =>
 (fA 2 x3).bind fun v137 =>
 (ld1 h v137).bind fun v138 =>
 (binV Try.prog .eql 3 v138 (V.int .i64 1)).bind fun v139 =>
 onB v139
 ((bldV [(V.int .i64 0), (V.str ⟨#[]⟩)] [(0, 1, (V.int .i64 0)), (1, 1, v136)]).bind fun v140 =>
 stN 2 h x4 v140 fun h141 =>
 (ress [(ldn 2 h141 x4)]).map fun vs => (tupOf vs, h141))
 ((fA 2 x3).bind fun v142 =>
 (ld1 h v142).bind fun v143 =>
 (binV Try.prog .eql 3 v143 (V.int .i64 3)).bind fun v144 =>
 onB v144
 ((nilC x0).bind fun v145 =>
 (fA 0 v145).bind fun v146 =>
 (ld1 h v146).bind fun v147 =>
 (binV Try.prog .add 3 x5 (V.int .i64 1)).bind fun v148 =>
 (call 93 [v147, x5, v148] h).bind fun r149 =>
 (nilC x0).bind fun v150 =>
 (fA 0 v150).bind fun v151 =>
 stN 1 r149.2 v151 r149.1 fun h152 =>
 (bldV [(V.int .i64 0), (V.str ⟨#[]⟩)] [(0, 1, (V.int .i64 0)), (1, 1, v136)]).bind fun v153 =>
 stN 2 h152 x4 v153 fun h154 =>
 (ress [(ldn 2 h154 x4)]).map fun vs => (tupOf vs, h154))
 ((fA 5 x3).bind fun v155 =>
 (ld1 h v155).bind fun v156 =>
 (binV Try.prog .neq 9 v136 v156).bind fun v157 =>
 onB v157
 ((bldV [(V.int .i64 0), (V.str ⟨#[]⟩)] [(0, 1, (V.int .i64 3)), (1, 1, v136)]).bind fun v158 =>
 stN 2 h x4 v158 fun h159 =>
 (ress [(ldn 2 h159 x4)]).map fun vs => (tupOf vs, h159))
 ((nilC x0).bind fun v160 =>
 (fA 0 v160).bind fun v161 =>
 (ld1 h v161).bind fun v162 =>
 (fA 4 x3).bind fun v163 =>
 (ld1 h v163).bind fun v164 =>
 (iA 2 v162 x5).bind fun v165 =>
 (fA 1 v165).bind fun v166 =>
 stN 1 h v166 v164 fun h167 =>
 (bldV [(V.int .i64 0), (V.str ⟨#[]⟩)] []).bind fun v168 =>
 stN 2 h167 x4 v168 fun h169 =>
 (ress [(ldn 2 h169 x4)]).map fun vs => (tupOf vs, h169)))) := by kernel_rfl
-- loop.example/g00224/laws.eqPair
def an76 : Nat → List Nat := fun i => ([[0, 1], [2, 3], [], [2, 3], [], []] : List (List Nat)).getD i []
theorem S76_eq (a0 a1 : V) (h : H) : bodyK Try.prog call an76 Try.f76 (bodyOf Try.f76) [a0, a1] h =
 bxK h a0 fun p1 h2 =>
 bxK h2 a1 fun p3 h4 =>
 (fA 0 p1).bind fun v5 =>
 (ld1 h4 v5).bind fun v6 =>
 (fA 0 p3).bind fun v7 =>
 (ld1 h4 v7).bind fun v8 =>
 (binV Try.prog .neq 9 v6 v8).bind fun v9 =>
 onB v9
 ((ress [(some (V.bool false))]).map fun vs => (tupOf vs, h4))
 ((fA 1 p1).bind fun v10 =>
 (ld1 h4 v10).bind fun v11 =>
 (fA 1 p3).bind fun v12 =>
 (ld1 h4 v12).bind fun v13 =>
 (binV Try.prog .neq 9 v11 v13).bind fun v14 =>
 onB v14
 ((ress [(some (V.bool false))]).map fun vs => (tupOf vs, h4))
 ((ress [(some (V.bool true))]).map fun vs => (tupOf vs, h4))) := by kernel_rfl
-- loop.example/g00224/laws.eqSession
def an77 : Nat → List Nat := fun i => ([[0, 1], [2, 3], [], [2, 3], [], [2, 3], [], []] : List (List Nat)).getD i []
theorem S77_eq (a0 a1 : V) (h : H) : bodyK Try.prog call an77 Try.f77 (bodyOf Try.f77) [a0, a1] h =
 bxK h a0 fun p1 h2 =>
 bxK h2 a1 fun p3 h4 =>
 (fA 0 p1).bind fun v5 =>
 (ld1 h4 v5).bind fun v6 =>
 (fA 0 p3).bind fun v7 =>
 (ld1 h4 v7).bind fun v8 =>
 (binV Try.prog .neq 3 v6 v8).bind fun v9 =>
 onB v9
 ((ress [(some (V.bool false))]).map fun vs => (tupOf vs, h4))
 ((fA 1 p1).bind fun v10 =>
 (ld1 h4 v10).bind fun v11 =>
 (fA 1 p3).bind fun v12 =>
 (ld1 h4 v12).bind fun v13 =>
 (binV Try.prog .neq 3 v11 v13).bind fun v14 =>
 onB v14
 ((ress [(some (V.bool false))]).map fun vs => (tupOf vs, h4))
 ((fA 2 p1).bind fun v15 =>
 (ldn 2 h4 v15).bind fun v16 =>
 (fA 2 p3).bind fun v17 =>
 (ldn 2 h4 v17).bind fun v18 =>
 (call 53 [v16, v18] h4).bind fun r19 =>
 (unV .not r19.1).bind fun v20 =>
 onB v20
 ((ress [(some (V.bool false))]).map fun vs => (tupOf vs, r19.2))
 ((ress [(some (V.bool true))]).map fun vs => (tupOf vs, r19.2)))) := by kernel_rfl
-- loop.example/g00224/spec.l14Cell
def an78 : Nat → List Nat := fun i => ([[0, 1], [0, 1], [0, 1, 6], [0, 1, 6], [0, 1, 6]] : List (List Nat)).getD i []
noncomputable def kf78 (call : CallF) : X → Env → H → Option (V × H) := finK Try.prog Try.f78.results.toList
noncomputable def k78_1 (call : CallF) : X → Env → H → Option (V × H) := sqK (fun _ E h => kC Try.prog call an78 36 (cdAt [1, 1, 1] (bodyOf Try.f78)) (kf78 call) (keepAt an78 (cdAt [1, 1, 1] (bodyOf Try.f78)) E) h) (kf78 call)
noncomputable def k78_2 (call : CallF) : X → Env → H → Option (V × H) := bkK 0 (k78_1 call)
noncomputable def S78_l2 (call : CallF) (x0 x1 x6 : V) (h : H) : Option (V × H) := loopK Try.prog call an78 36 (cdAt [1, 1, 0, 0, 0] (bodyOf Try.f78)) (k78_2 call) [(0, x0), (1, x1), (6, x6)] h
theorem S78_eq (a0 a1 : V) (h : H) : bodyK Try.prog call an78 Try.f78 (bodyOf Try.f78) [a0, a1] h =
 S78_l2 call a0 a1 (V.int .i64 0) h := by kernel_rfl
theorem S78_l2_eq (x0 x1 x6 : V) (h : H) : S78_l2 call x0 x1 x6 h =
 (lenL x0).bind fun v1 =>
 (binV Try.prog .lss 3 x6 v1).bind fun v2 =>
 spB v2
 ((iA 2 x0 x6).bind fun v3 =>
 (fA 0 v3).bind fun v4 =>
 (ld1 h v4).bind fun v5 =>
 (binV Try.prog .lss 9 v5 x1).bind fun v6 =>
 onB v6
 ((binV Try.prog .add 3 x6 (V.int .i64 1)).bind fun v7 =>
 S78_l2 call x0 x1 v7 h)
 ((lenL x0).bind fun v8 =>
 (binV Try.prog .lss 3 x6 v8).bind fun v9 =>
 spB v9
 ((iA 2 x0 x6).bind fun v10 =>
 (fA 0 v10).bind fun v11 =>
 (ld1 h v11).bind fun v12 =>
 (binV Try.prog .eql 9 v12 x1).bind fun v13 =>
 (ress [(some x6), (some v13)]).map fun vs => (tupOf vs, h))
 ((ress [(some x6), (some (V.bool false))]).map fun vs => (tupOf vs, h))))
 ((lenL x0).bind fun v14 =>
 (binV Try.prog .lss 3 x6 v14).bind fun v15 =>
 spB v15
 ((iA 2 x0 x6).bind fun v16 =>
 (fA 0 v16).bind fun v17 =>
 (ld1 h v17).bind fun v18 =>
 (binV Try.prog .eql 9 v18 x1).bind fun v19 =>
 (ress [(some x6), (some v19)]).map fun vs => (tupOf vs, h))
 ((ress [(some x6), (some (V.bool false))]).map fun vs => (tupOf vs, h))) := by
  refine (loopK_eq _ _ _ _ _ _ _).trans ?_
  kernel_rfl
-- loop.example/g00224/spec.l14Put
def an79 : Nat → List Nat := fun i => ([[0, 1], [0, 3], [0, 3, 5, 6], [0, 3, 5, 6, 7], [0, 3, 5, 6, 7], [0, 5, 6, 7], [0, 5, 7], [0, 5, 7]] : List (List Nat)).getD i []
theorem S79_eq (a0 a1 : V) (h : H) : bodyK Try.prog call an79 Try.f79 (bodyOf Try.f79) [a0, a1] h =
 bxK h a1 fun p1 h2 =>
 (fA 0 p1).bind fun v3 =>
 (ld1 h2 v3).bind fun v4 =>
 (call 78 [a0, v4] h2).bind fun r5 =>
 (extV r5.1 0).bind fun v6 =>
 (extV r5.1 1).bind fun v7 =>
 (slL 2 a0 none (some v6) none).bind fun v8 =>
 (apL 2 32 r5.2 (V.sl 0 0 0 0) v8).bind fun r9 =>
 (ldn 2 r9.2 p1).bind fun v10 =>
 bsK 2 1 r9.2 [(V.str ⟨#[]⟩), (V.str ⟨#[]⟩)] [(0, 2, v10)] fun p11 h12 =>
 (apL 2 32 h12 r9.1 p11).bind fun r13 =>
 onB v7
 ((binV Try.prog .add 3 v6 (V.int .i64 1)).bind fun v14 =>
 (slL 2 a0 (some v14) none none).bind fun v15 =>
 (apL 2 32 r13.2 r13.1 v15).bind fun r16 =>
 (ress [(some r16.1)]).map fun vs => (tupOf vs, r16.2))
 ((slL 2 a0 (some v6) none none).bind fun v17 =>
 (apL 2 32 r13.2 r13.1 v17).bind fun r18 =>
 (ress [(some r18.1)]).map fun vs => (tupOf vs, r18.2)) := by kernel_rfl
-- slices.BinarySearchFunc[[]loop.example/g00224/impl.Pair,loop.example/g00224/impl.Pair,string]
def an80 : Nat → List Nat := fun i => ([[0, 1, 2], [0, 1, 2], [0, 1, 2, 8], [0, 1, 2, 8, 9, 10], [0, 1, 2, 8, 9, 10], [0, 1, 2, 8, 9, 10, 11], [0, 1, 2, 8, 10, 11], [0, 1, 2, 8, 9, 11], [0, 1, 2, 8, 9]] : List (List Nat)).getD i []
noncomputable def kf80 (call : CallF) : X → Env → H → Option (V × H) := finK Try.prog Try.f80.results.toList
noncomputable def k80_1 (call : CallF) : X → Env → H → Option (V × H) := sqK (fun _ E h => kC Try.prog call an80 49 (cdAt [1, 1, 1, 1] (bodyOf Try.f80)) (kf80 call) (keepAt an80 (cdAt [1, 1, 1, 1] (bodyOf Try.f80)) E) h) (kf80 call)
noncomputable def k80_2 (call : CallF) : X → Env → H → Option (V × H) := bkK 0 (k80_1 call)
noncomputable def S80_l3 (call : CallF) (x0 x1 x2 x8 x9 x10 : V) (h : H) : Option (V × H) := loopK Try.prog call an80 49 (cdAt [1, 1, 1, 0, 0, 0] (bodyOf Try.f80)) (k80_2 call) [(0, x0), (1, x1), (2, x2), (8, x8), (9, x9), (10, x10)] h
theorem S80_eq (a0 a1 a2 : V) (h : H) : bodyK Try.prog call an80 Try.f80 (bodyOf Try.f80) [a0, a1, a2] h =
 (lenL a0).bind fun v1 =>
 S80_l3 call a0 a1 a2 v1 (V.int .i64 0) v1 h := by kernel_rfl
theorem S80_l3_eq (x0 x1 x2 x8 x9 x10 : V) (h : H) : S80_l3 call x0 x1 x2 x8 x9 x10 h =
 (binV Try.prog .lss 3 x9 x10).bind fun v2 =>
 onB v2
 ((binV Try.prog .add 3 x9 x10).bind fun v3 =>
 (cvI .u64 v3).bind fun v4 =>
 (binV Try.prog .shr 119 v4 (V.int .u64 1)).bind fun v5 =>
 (cvI .i64 v5).bind fun v6 =>
 (iA 2 x0 v6).bind fun v7 =>
 (ldn 2 h v7).bind fun v8 =>
 dynK call x2 [v8, x1] h fun r9 =>
 (binV Try.prog .lss 3 r9.1 (V.int .i64 0)).bind fun v10 =>
 onB v10
 ((binV Try.prog .add 3 v6 (V.int .i64 1)).bind fun v11 =>
 S80_l3 call x0 x1 x2 x8 v11 x10 r9.2)
 (S80_l3 call x0 x1 x2 x8 x9 v6 r9.2))
 ((binV Try.prog .lss 3 x9 x8).bind fun v12 =>
 spB v12
 ((iA 2 x0 x9).bind fun v13 =>
 (ldn 2 h v13).bind fun v14 =>
 dynK call x2 [v14, x1] h fun r15 =>
 (binV Try.prog .eql 3 r15.1 (V.int .i64 0)).bind fun v16 =>
 (ress [(some x9), (some v16)]).map fun vs => (tupOf vs, r15.2))
 ((ress [(some x9), (some (V.bool false))]).map fun vs => (tupOf vs, h))) := by
  refine (loopK_eq _ _ _ _ _ _ _).trans ?_
  kernel_rfl
-- (*loop.example/g00224/impl.KvState).cellAt$1
def an81 : Nat → List Nat := fun i => ([[0, 1], [1, 2]] : List (List Nat)).getD i []
theorem S81_eq (a0 a1 : V) (h : H) : bodyK Try.prog call an81 Try.f81 (bodyOf Try.f81) [a0, a1] h =
 bxK h a0 fun p1 h2 =>
 (fA 0 p1).bind fun v3 =>
 (ld1 h2 v3).bind fun v4 =>
 (call 82 [v4, a1] h2).bind fun r5 =>
 (ress [(some r5.1)]).map fun vs => (tupOf vs, r5.2) := by kernel_rfl
-- cmp.Compare[string]
def an82 : Nat → List Nat := fun i => ([[0, 1], [0, 1], [0, 1, 5], [0, 1, 5, 6], [6], [], [], [0, 1, 6], [], [0, 1], [], [0, 1], [], []] : List (List Nat)).getD i []
theorem S82_eq (a0 a1 : V) (h : H) : bodyK Try.prog call an82 Try.f82 (bodyOf Try.f82) [a0, a1] h =
 (call 94 [a0] h).bind fun r1 =>
 (call 94 [a1] r1.2).bind fun r2 =>
 onB r1.1
 (onB r2.1
 ((ress [(some (V.int .i64 0))]).map fun vs => (tupOf vs, r2.2))
 ((ress [(some (V.int .i64 (-1)))]).map fun vs => (tupOf vs, r2.2)))
 (onB r2.1
 ((ress [(some (V.int .i64 1))]).map fun vs => (tupOf vs, r2.2))
 ((binV Try.prog .lss 9 a0 a1).bind fun v3 =>
 onB v3
 ((ress [(some (V.int .i64 (-1)))]).map fun vs => (tupOf vs, r2.2))
 ((binV Try.prog .gtr 9 a0 a1).bind fun v4 =>
 onB v4
 ((ress [(some (V.int .i64 1))]).map fun vs => (tupOf vs, r2.2))
 ((ress [(some (V.int .i64 0))]).map fun vs => (tupOf vs, r2.2))))) := by kernel_rfl
-- (*loop.example/g00224/spec.l1Cur).key
def an83 : Nat → List Nat := fun i => ([[0], [0], [0], [0]] : List (List Nat)).getD i []
theorem S83_eq (a0 : V) (h : H) : bodyK Try.prog call an83 Try.f83 (bodyOf Try.f83) [a0] h =
 (call 72 [a0, (V.int .i64 60)] h).bind fun r1 =>
 onB r1.1
 (bsK 1 2 r1.2 [(V.str ⟨#[]⟩), (V.str ⟨#[]⟩)] [(0, 1, (V.str ⟨#[]⟩)), (1, 1, (V.str ⟨#[49, 50, 51, 52, 53, 54, 55, 56, 57, 48, 49, 50, 51, 52, 53, 54, 55]⟩))] fun p2 h3 =>
 (call 84 [a0, p2] h3).bind fun r4 =>
 (ress [(some r4.1)]).map fun vs => (tupOf vs, r4.2))
 (bsK 1 7 r1.2 [(V.str ⟨#[]⟩), (V.str ⟨#[]⟩), (V.str ⟨#[]⟩), (V.str ⟨#[]⟩), (V.str ⟨#[]⟩), (V.str ⟨#[]⟩), (V.str ⟨#[]⟩)] [(0, 1, (V.str ⟨#[97]⟩)), (1, 1, (V.str ⟨#[98]⟩)), (2, 1, (V.str ⟨#[98, 97]⟩)), (3, 1, (V.str ⟨#[99]⟩)), (4, 1, (V.str ⟨#[99, 97, 114]⟩)), (5, 1, (V.str ⟨#[100]⟩)), (6, 1, (V.str ⟨#[101]⟩))] fun p5 h6 =>
 (call 84 [a0, p5] h6).bind fun r7 =>
 (ress [(some r7.1)]).map fun vs => (tupOf vs, r7.2)) := by kernel_rfl
-- (*loop.example/g00224/spec.l1Cur).of
def an84 : Nat → List Nat := fun i => ([[0, 1], [0, 1]] : List (List Nat)).getD i []
theorem S84_eq (a0 a1 : V) (h : H) : bodyK Try.prog call an84 Try.f84 (bodyOf Try.f84) [a0, a1] h =
 (lenL a1).bind fun v1 =>
 (call 71 [a0, v1] h).bind fun r2 =>
 (iA 1 a1 r2.1).bind fun v3 =>
 (ld1 r2.2 v3).bind fun v4 =>
 (ress [(some v4)]).map fun vs => (tupOf vs, r2.2) := by kernel_rfl
-- (*loop.example/g00224/spec.l1Cur).among
def an85 : Nat → List Nat := fun i => ([[0, 1], [0, 1]] : List (List Nat)).getD i []
theorem S85_eq (a0 a1 : V) (h : H) : bodyK Try.prog call an85 Try.f85 (bodyOf Try.f85) [a0, a1] h =
 (lenL a1).bind fun v1 =>
 (call 71 [a0, v1] h).bind fun r2 =>
 (iA 1 a1 r2.1).bind fun v3 =>
 (ld1 r2.2 v3).bind fun v4 =>
 (ress [(some v4)]).map fun vs => (tupOf vs, r2.2) := by kernel_rfl
-- (*loop.example/g00224/spec.l1Cur).next
def an86 : Nat → List Nat := fun i => ([[0], [0], [0, 3], [0], [0, 3], [0, 3], [0, 3], [3], [0]] : List (List Nat)).getD i []
noncomputable def kf86 (call : CallF) : X → Env → H → Option (V × H) := finK Try.prog Try.f86.results.toList
noncomputable def S86_j1 (call : CallF) (x0 : V) (h : H) : Option (V × H) := kC Try.prog call an86 62 (cdAt [1] (bodyOf Try.f86)) (kf86 call) [(0, x0)] h
noncomputable def S86_j2 (call : CallF) (x0 x3 : V) (h : H) : Option (V × H) := kC Try.prog call an86 62 (cdAt [1, 1] (bodyOf Try.f86)) (kf86 call) [(0, x0), (3, x3)] h
noncomputable def S86_j4 (call : CallF) (x0 x3 : V) (h : H) : Option (V × H) := kC Try.prog call an86 62 (cdAt [1, 1, 1] (bodyOf Try.f86)) (kf86 call) [(0, x0), (3, x3)] h
noncomputable def S86_j5 (call : CallF) (x0 x3 : V) (h : H) : Option (V × H) := kC Try.prog call an86 62 (cdAt [1, 1, 1, 1] (bodyOf Try.f86)) (kf86 call) [(0, x0), (3, x3)] h
noncomputable def S86_j6 (call : CallF) (x0 x3 : V) (h : H) : Option (V × H) := kC Try.prog call an86 62 (cdAt [1, 1, 1, 1, 1] (bodyOf Try.f86)) (kf86 call) [(0, x0), (3, x3)] h
noncomputable def S86_j8 (call : CallF) (x0 : V) (h : H) : Option (V × H) := kC Try.prog call an86 62 (cdAt [1, 1, 1, 1, 1, 1] (bodyOf Try.f86)) (kf86 call) [(0, x0)] h
theorem S86_g (K : Env → H → Option (V × H)) (a0 : V) (h : H) : kC Try.prog call an86 62 (cdAt [0] (bodyOf Try.f86)) (sqK (fun _ E h => K E h) (kf86 call)) [(0, a0)] h =
 K [(0, a0), (2, (V.int .i64 0))] h := by kernel_rfl
theorem S86_eq (a0 : V) (h : H) : bodyK Try.prog call an86 Try.f86 (bodyOf Try.f86) [a0] h =
 S86_j1 call a0 h :=
  ((show bodyK Try.prog call an86 Try.f86 (bodyOf Try.f86) [a0] h = kC Try.prog call an86 62 (.seq (cdAt [0] (bodyOf Try.f86)) (cdAt [1] (bodyOf Try.f86))) (kf86 call) [(0, a0)] h by kernel_rfl).trans (kC_seq _ _ _ _ _ _ _ _)).trans ((S86_g call (fun E h => kC Try.prog call an86 62 (cdAt [1] (bodyOf Try.f86)) (kf86 call) (keepAt an86 (cdAt [1] (bodyOf Try.f86)) E) h) a0 h).trans (by kernel_rfl))
theorem S86_j1_g (K : Env → H → Option (V × H)) (x0 : V) (h : H) : kC Try.prog call an86 62 (cdAt [1, 0] (bodyOf Try.f86)) (sqK (fun _ E h => K E h) (kf86 call)) [(0, x0)] h =
 K [(0, x0), (3, (V.int .i64 0))] h := by kernel_rfl
theorem S86_j1_eq (x0 : V) (h : H) : S86_j1 call x0 h =
 S86_j2 call x0 (V.int .i64 0) h :=
  ((show S86_j1 call x0 h = kC Try.prog call an86 62 (.seq (cdAt [1, 0] (bodyOf Try.f86)) (cdAt [1, 1] (bodyOf Try.f86))) (kf86 call) [(0, x0)] h by kernel_rfl).trans (kC_seq _ _ _ _ _ _ _ _)).trans ((S86_j1_g call (fun E h => kC Try.prog call an86 62 (cdAt [1, 1] (bodyOf Try.f86)) (kf86 call) (keepAt an86 (cdAt [1, 1] (bodyOf Try.f86)) E) h) x0 h).trans (by kernel_rfl))
theorem S86_j2_g (K : Env → H → Option (V × H)) (x0 x3 : V) (h : H) : kC Try.prog call an86 62 (cdAt [1, 1, 0] (bodyOf Try.f86)) (sqK (fun _ E h => K E h) (kf86 call)) [(0, x0), (3, x3)] h =
 (nilC x0).bind fun v18 =>
 (fA 1 v18).bind fun v19 =>
 (ld1 h v19).bind fun v20 =>
 (nilC x0).bind fun v21 =>
 (fA 0 v21).bind fun v22 =>
 (ld1 h v22).bind fun v23 =>
 (lenL v23).bind fun v24 =>
 (binV Try.prog .lss 3 v20 v24).bind fun v25 =>
 onB v25
 ((nilC x0).bind fun v26 =>
 (fA 0 v26).bind fun v27 =>
 (ld1 h v27).bind fun v28 =>
 (nilC x0).bind fun v29 =>
 (fA 1 v29).bind fun v30 =>
 (ld1 h v30).bind fun v31 =>
 (iA 1 v28 v31).bind fun v32 =>
 (ld1 h v32).bind fun v33 =>
 (cvI .i64 v33).bind fun v34 =>
 K [(0, x0), (14, x0), (15, v26), (16, v27), (17, v28), (18, x0), (19, v29), (20, v30), (21, v31), (22, v32), (23, v33), (24, v34), (3, v34)] h)
 (K [(0, x0), (3, x3), (4, x0), (5, v18), (6, v19), (7, v20), (8, x0), (9, v21), (10, v22), (11, v23), (12, v24), (13, v25)] h) := by kernel_rfl
theorem S86_j2_eq (x0 x3 : V) (h : H) : S86_j2 call x0 x3 h =
 (nilC x0).bind fun v1 =>
 (fA 1 v1).bind fun v2 =>
 (ld1 h v2).bind fun v3 =>
 (nilC x0).bind fun v4 =>
 (fA 0 v4).bind fun v5 =>
 (ld1 h v5).bind fun v6 =>
 (lenL v6).bind fun v7 =>
 (binV Try.prog .lss 3 v3 v7).bind fun v8 =>
 onB v8
 ((nilC x0).bind fun v9 =>
 (fA 0 v9).bind fun v10 =>
 (ld1 h v10).bind fun v11 =>
 (nilC x0).bind fun v12 =>
 (fA 1 v12).bind fun v13 =>
 (ld1 h v13).bind fun v14 =>
 (iA 1 v11 v14).bind fun v15 =>
 (ld1 h v15).bind fun v16 =>
 (cvI .i64 v16).bind fun v17 =>
 S86_j4 call x0 v17 h)
 (S86_j4 call x0 x3 h) :=
  ((show S86_j2 call x0 x3 h = kC Try.prog call an86 62 (.seq (cdAt [1, 1, 0] (bodyOf Try.f86)) (cdAt [1, 1, 1] (bodyOf Try.f86))) (kf86 call) [(0, x0), (3, x3)] h by kernel_rfl).trans (kC_seq _ _ _ _ _ _ _ _)).trans ((S86_j2_g call (fun E h => kC Try.prog call an86 62 (cdAt [1, 1, 1] (bodyOf Try.f86)) (kf86 call) (keepAt an86 (cdAt [1, 1, 1] (bodyOf Try.f86)) E) h) x0 x3 h).trans (by kernel_rfl))
theorem S86_j4_g (K : Env → H → Option (V × H)) (x0 x3 : V) (h : H) : kC Try.prog call an86 62 (cdAt [1, 1, 1, 0] (bodyOf Try.f86)) (sqK (fun _ E h => K E h) (kf86 call)) [(0, x0), (3, x3)] h =
 (nilC x0).bind fun v42 =>
 (fA 1 v42).bind fun v43 =>
 (ld1 h v43).bind fun v44 =>
 (binV Try.prog .add 3 v44 (V.int .i64 1)).bind fun v45 =>
 (nilC x0).bind fun v46 =>
 (fA 1 v46).bind fun v47 =>
 stN 1 h v47 v45 fun h48 =>
 K [(0, x0), (3, x3), (25, x0), (26, v42), (27, v43), (28, v44), (29, v45), (30, v46), (31, v47)] h48 := by kernel_rfl
theorem S86_j4_eq (x0 x3 : V) (h : H) : S86_j4 call x0 x3 h =
 (nilC x0).bind fun v35 =>
 (fA 1 v35).bind fun v36 =>
 (ld1 h v36).bind fun v37 =>
 (binV Try.prog .add 3 v37 (V.int .i64 1)).bind fun v38 =>
 (nilC x0).bind fun v39 =>
 (fA 1 v39).bind fun v40 =>
 stN 1 h v40 v38 fun h41 =>
 S86_j5 call x0 x3 h41 :=
  ((show S86_j4 call x0 x3 h = kC Try.prog call an86 62 (.seq (cdAt [1, 1, 1, 0] (bodyOf Try.f86)) (cdAt [1, 1, 1, 1] (bodyOf Try.f86))) (kf86 call) [(0, x0), (3, x3)] h by kernel_rfl).trans (kC_seq _ _ _ _ _ _ _ _)).trans ((S86_j4_g call (fun E h => kC Try.prog call an86 62 (cdAt [1, 1, 1, 1] (bodyOf Try.f86)) (kf86 call) (keepAt an86 (cdAt [1, 1, 1, 1] (bodyOf Try.f86)) E) h) x0 x3 h).trans (by kernel_rfl))
theorem S86_j5_g (K : Env → H → Option (V × H)) (x0 x3 : V) (h : H) : kC Try.prog call an86 62 (cdAt [1, 1, 1, 1, 0] (bodyOf Try.f86)) (sqK (fun _ E h => K E h) (kf86 call)) [(0, x0), (3, x3)] h =
 (nilC x0).bind fun v59 =>
 (fA 2 v59).bind fun v60 =>
 (ld1 h v60).bind fun v61 =>
 (binV Try.prog .mul 79 v61 (V.int .u64 6364136223846793005)).bind fun v62 =>
 (cvI .u64 x3).bind fun v63 =>
 (binV Try.prog .add 79 v62 v63).bind fun v64 =>
 (binV Try.prog .add 79 v64 (V.int .u64 1442695040888963407)).bind fun v65 =>
 (nilC x0).bind fun v66 =>
 (fA 2 v66).bind fun v67 =>
 stN 1 h v67 v65 fun h68 =>
 K [(0, x0), (3, x3), (32, x0), (33, x0), (34, v59), (35, v60), (36, v61), (37, v62), (38, x3), (39, v63), (40, v64), (41, v65), (42, v66), (43, v67)] h68 := by kernel_rfl
theorem S86_j5_eq (x0 x3 : V) (h : H) : S86_j5 call x0 x3 h =
 (nilC x0).bind fun v49 =>
 (fA 2 v49).bind fun v50 =>
 (ld1 h v50).bind fun v51 =>
 (binV Try.prog .mul 79 v51 (V.int .u64 6364136223846793005)).bind fun v52 =>
 (cvI .u64 x3).bind fun v53 =>
 (binV Try.prog .add 79 v52 v53).bind fun v54 =>
 (binV Try.prog .add 79 v54 (V.int .u64 1442695040888963407)).bind fun v55 =>
 (nilC x0).bind fun v56 =>
 (fA 2 v56).bind fun v57 =>
 stN 1 h v57 v55 fun h58 =>
 S86_j6 call x0 x3 h58 :=
  ((show S86_j5 call x0 x3 h = kC Try.prog call an86 62 (.seq (cdAt [1, 1, 1, 1, 0] (bodyOf Try.f86)) (cdAt [1, 1, 1, 1, 1] (bodyOf Try.f86))) (kf86 call) [(0, x0), (3, x3)] h by kernel_rfl).trans (kC_seq _ _ _ _ _ _ _ _)).trans ((S86_j5_g call (fun E h => kC Try.prog call an86 62 (cdAt [1, 1, 1, 1, 1] (bodyOf Try.f86)) (kf86 call) (keepAt an86 (cdAt [1, 1, 1, 1, 1] (bodyOf Try.f86)) E) h) x0 x3 h).trans (by kernel_rfl))
theorem S86_j6_g (K : Env → H → Option (V × H)) (x0 x3 : V) (h : H) : kC Try.prog call an86 62 (cdAt [1, 1, 1, 1, 1, 0] (bodyOf Try.f86)) (sqK (fun _ E h => K E h) (kf86 call)) [(0, x0), (3, x3)] h =
 (nilC x0).bind fun v77 =>
 (fA 1 v77).bind fun v78 =>
 (ld1 h v78).bind fun v79 =>
 (nilC x0).bind fun v80 =>
 (fA 0 v80).bind fun v81 =>
 (ld1 h v81).bind fun v82 =>
 (lenL v82).bind fun v83 =>
 (binV Try.prog .leq 3 v79 v83).bind fun v84 =>
 onB v84
 ((ress [(some x3)]).map fun vs => (tupOf vs, h))
 (K [(0, x0), (3, x3), (44, x0), (45, v77), (46, v78), (47, v79), (48, x0), (49, v80), (50, v81), (51, v82), (52, v83), (53, v84)] h) := by kernel_rfl
theorem S86_j6_eq (x0 x3 : V) (h : H) : S86_j6 call x0 x3 h =
 (nilC x0).bind fun v69 =>
 (fA 1 v69).bind fun v70 =>
 (ld1 h v70).bind fun v71 =>
 (nilC x0).bind fun v72 =>
 (fA 0 v72).bind fun v73 =>
 (ld1 h v73).bind fun v74 =>
 (lenL v74).bind fun v75 =>
 (binV Try.prog .leq 3 v71 v75).bind fun v76 =>
 onB v76
 ((ress [(some x3)]).map fun vs => (tupOf vs, h))
 (S86_j8 call x0 h) :=
  ((show S86_j6 call x0 x3 h = kC Try.prog call an86 62 (.seq (cdAt [1, 1, 1, 1, 1, 0] (bodyOf Try.f86)) (cdAt [1, 1, 1, 1, 1, 1] (bodyOf Try.f86))) (kf86 call) [(0, x0), (3, x3)] h by kernel_rfl).trans (kC_seq _ _ _ _ _ _ _ _)).trans ((S86_j6_g call (fun E h => kC Try.prog call an86 62 (cdAt [1, 1, 1, 1, 1, 1] (bodyOf Try.f86)) (kf86 call) (keepAt an86 (cdAt [1, 1, 1, 1, 1, 1] (bodyOf Try.f86)) E) h) x0 x3 h).trans (by kernel_rfl))
theorem S86_j8_eq (x0 : V) (h : H) : S86_j8 call x0 h =
 (nilC x0).bind fun v85 =>
 (fA 2 v85).bind fun v86 =>
 (ld1 h v86).bind fun v87 =>
 (binV Try.prog .shr 79 v87 (V.int .u64 40)).bind fun v88 =>
 (binV Try.prog .and 79 v88 (V.int .u64 255)).bind fun v89 =>
 (cvI .i64 v89).bind fun v90 =>
 (ress [(some v90)]).map fun vs => (tupOf vs, h) := by kernel_rfl
-- slices.BinarySearchFunc[[]loop.example/g00224/impl.Session,loop.example/g00224/impl.Session,int]
def an87 : Nat → List Nat := fun i => ([[0, 1, 2], [0, 1, 2], [0, 1, 2, 8], [0, 1, 2, 8, 9, 10], [0, 1, 2, 8, 9, 10], [0, 1, 2, 8, 9, 10, 11], [0, 1, 2, 8, 10, 11], [0, 1, 2, 8, 9, 11], [0, 1, 2, 8, 9]] : List (List Nat)).getD i []
noncomputable def kf87 (call : CallF) : X → Env → H → Option (V × H) := finK Try.prog Try.f87.results.toList
noncomputable def k87_1 (call : CallF) : X → Env → H → Option (V × H) := sqK (fun _ E h => kC Try.prog call an87 49 (cdAt [1, 1, 1, 1] (bodyOf Try.f87)) (kf87 call) (keepAt an87 (cdAt [1, 1, 1, 1] (bodyOf Try.f87)) E) h) (kf87 call)
noncomputable def k87_2 (call : CallF) : X → Env → H → Option (V × H) := bkK 0 (k87_1 call)
noncomputable def S87_l3 (call : CallF) (x0 x1 x2 x8 x9 x10 : V) (h : H) : Option (V × H) := loopK Try.prog call an87 49 (cdAt [1, 1, 1, 0, 0, 0] (bodyOf Try.f87)) (k87_2 call) [(0, x0), (1, x1), (2, x2), (8, x8), (9, x9), (10, x10)] h
theorem S87_eq (a0 a1 a2 : V) (h : H) : bodyK Try.prog call an87 Try.f87 (bodyOf Try.f87) [a0, a1, a2] h =
 (lenL a0).bind fun v1 =>
 S87_l3 call a0 a1 a2 v1 (V.int .i64 0) v1 h := by kernel_rfl
theorem S87_l3_eq (x0 x1 x2 x8 x9 x10 : V) (h : H) : S87_l3 call x0 x1 x2 x8 x9 x10 h =
 (binV Try.prog .lss 3 x9 x10).bind fun v2 =>
 onB v2
 ((binV Try.prog .add 3 x9 x10).bind fun v3 =>
 (cvI .u64 v3).bind fun v4 =>
 (binV Try.prog .shr 119 v4 (V.int .u64 1)).bind fun v5 =>
 (cvI .i64 v5).bind fun v6 =>
 (iA 4 x0 v6).bind fun v7 =>
 (ldn 4 h v7).bind fun v8 =>
 dynK call x2 [v8, x1] h fun r9 =>
 (binV Try.prog .lss 3 r9.1 (V.int .i64 0)).bind fun v10 =>
 onB v10
 ((binV Try.prog .add 3 v6 (V.int .i64 1)).bind fun v11 =>
 S87_l3 call x0 x1 x2 x8 v11 x10 r9.2)
 (S87_l3 call x0 x1 x2 x8 x9 v6 r9.2))
 ((binV Try.prog .lss 3 x9 x8).bind fun v12 =>
 spB v12
 ((iA 4 x0 x9).bind fun v13 =>
 (ldn 4 h v13).bind fun v14 =>
 dynK call x2 [v14, x1] h fun r15 =>
 (binV Try.prog .eql 3 r15.1 (V.int .i64 0)).bind fun v16 =>
 (ress [(some x9), (some v16)]).map fun vs => (tupOf vs, r15.2))
 ((ress [(some x9), (some (V.bool false))]).map fun vs => (tupOf vs, h))) := by
  refine (loopK_eq _ _ _ _ _ _ _).trans ?_
  kernel_rfl
-- (*loop.example/g00224/impl.KvState).sessionAt$1
def an88 : Nat → List Nat := fun i => ([[0, 1], [1, 2]] : List (List Nat)).getD i []
theorem S88_eq (a0 a1 : V) (h : H) : bodyK Try.prog call an88 Try.f88 (bodyOf Try.f88) [a0, a1] h =
 bxK h a0 fun p1 h2 =>
 (fA 0 p1).bind fun v3 =>
 (ld1 h2 v3).bind fun v4 =>
 (call 89 [v4, a1] h2).bind fun r5 =>
 (ress [(some r5.1)]).map fun vs => (tupOf vs, r5.2) := by kernel_rfl
-- cmp.Compare[int]
def an89 : Nat → List Nat := fun i => ([[0, 1], [0, 1], [0, 1, 5], [0, 1, 5, 6], [6], [], [], [0, 1, 6], [], [0, 1], [], [0, 1], [], []] : List (List Nat)).getD i []
theorem S89_eq (a0 a1 : V) (h : H) : bodyK Try.prog call an89 Try.f89 (bodyOf Try.f89) [a0, a1] h =
 (call 95 [a0] h).bind fun r1 =>
 (call 95 [a1] r1.2).bind fun r2 =>
 onB r1.1
 (onB r2.1
 ((ress [(some (V.int .i64 0))]).map fun vs => (tupOf vs, r2.2))
 ((ress [(some (V.int .i64 (-1)))]).map fun vs => (tupOf vs, r2.2)))
 (onB r2.1
 ((ress [(some (V.int .i64 1))]).map fun vs => (tupOf vs, r2.2))
 ((binV Try.prog .lss 3 a0 a1).bind fun v3 =>
 onB v3
 ((ress [(some (V.int .i64 (-1)))]).map fun vs => (tupOf vs, r2.2))
 ((binV Try.prog .gtr 3 a0 a1).bind fun v4 =>
 onB v4
 ((ress [(some (V.int .i64 1))]).map fun vs => (tupOf vs, r2.2))
 ((ress [(some (V.int .i64 0))]).map fun vs => (tupOf vs, r2.2))))) := by kernel_rfl
-- cmp.isNaN[string]
def an94 : Nat → List Nat := fun i => ([[0], [0]] : List (List Nat)).getD i []
theorem S94_eq (a0 : V) (h : H) : bodyK Try.prog call an94 Try.f94 (bodyOf Try.f94) [a0] h =
 (binV Try.prog .neq 9 a0 a0).bind fun v1 =>
 (ress [(some v1)]).map fun vs => (tupOf vs, h) := by kernel_rfl
-- cmp.isNaN[int]
def an95 : Nat → List Nat := fun i => ([[0], [0]] : List (List Nat)).getD i []
theorem S95_eq (a0 : V) (h : H) : bodyK Try.prog call an95 Try.f95 (bodyOf Try.f95) [a0] h =
 (binV Try.prog .neq 3 a0 a0).bind fun v1 =>
 (ress [(some v1)]).map fun vs => (tupOf vs, h) := by kernel_rfl
end Go.Proofs.Ythoabddfionmoaa.AH
