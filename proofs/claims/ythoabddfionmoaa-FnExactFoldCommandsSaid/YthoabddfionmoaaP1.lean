/- PRINTED BY insdel.py (this session's own program): slices.Insert and slices.Delete over the model. No condition. -/
import Derived.Test.YthoabddfionmoaaAL
import Derived.Test.YthoabddfionmoaaProg
import Derived.WalkKit
import Derived.Shelf.Spec.SlicesInsert
set_option linter.unusedVariables false
set_option linter.unusedSimpArgs false
namespace Go.Proofs.Ythoabddfionmoaa.AH
open Go Go.RowKit Go.Lib
set_option maxHeartbeats 4000000 in
set_option maxRecDepth 100000 in
theorem i74_non (w : World) (a x : Option Addr) (n c i vc : Nat) (h1 : i ≤ n) (h2 : n ≤ c) : Calls Try.prog 74 #[.slice a n c, .int .i64 i, .slice x 0 vc] w fun e w' => e = .returned (.slice a n c) ∧ w' = w := by
  have mixed : Try.prog.follows .mixedOrders = true := by kernel_rfl
  go_enter Try.func74, Try.ntmps74
  go_wp2
  all_goals (go_ret; exact ⟨rfl, rfl⟩)
set_option maxHeartbeats 4000000 in
set_option maxRecDepth 100000 in
theorem i74_app (w w1 : World) (a x : Option Addr) (n c m vc : Nat) (r : Value) (h1 : n ≤ c) (h3 : 0 < m) (hr : ∀ ty, (Builtin.append_ #[44, 44] ty #[.slice a n c, .slice x m vc]).run Try.prog w = .ok r w1) :
    Calls Try.prog 74 #[.slice a n c, .int .i64 n, .slice x m vc] w fun e w' => e = .returned r ∧ w' = w1 := by
  have hz1 : ¬ ((m : Int) = 0) := by omega
  have mixed : Try.prog.follows .mixedOrders = true := by kernel_rfl
  go_enter Try.func74, Try.ntmps74
  go_wp2_with (at_builtin; refine Lib.wpList_append_run _ rfl _ _ _ _ rfl _ _ rfl rfl _ _ (hr _) ?_)
  all_goals (go_ret; exact ⟨rfl, rfl⟩)
set_option maxHeartbeats 4000000 in
set_option maxRecDepth 100000 in
theorem i74_shift (w W1 W2 : World) (b off n c i vb voff m vc : Nat) (hi : i < n) (hm : 0 < m) (hroom : n + m ≤ c) (hc63 : n + m ≤ 9223372036854775807)
    (hov : ∀ lb cb, (callFunc 90 #[.slice (some (ad vb voff)) m vc, .slice (some (ad b (off + (i + m) * 4))) lb cb]).run Try.prog w = .ok (.value (.bool false)) w)
    (hcp1 : ∀ ty dc sc, (Builtin.copy_ #[44, 44] ty #[.slice (some (ad b (off + (i + m) * 4))) (n + m - (i + m)) dc, .slice (some (ad b (off + i * 4))) (n + m - i) sc]).run Try.prog w.drew = .ok (goInt ((n - i : Nat) : Int)) W1)
    (hcp2 : ∀ ty dc, (Builtin.copy_ #[44, 44] ty #[.slice (some (ad b (off + i * 4))) (n + m - i) dc, .slice (some (ad vb voff)) m vc]).run Try.prog W1 = .ok (goInt (m : Int)) W2) :
    Calls Try.prog 74 #[.slice (some (ad b off)) n c, .int .i64 i, .slice (some (ad vb voff)) m vc] w fun e w' => e = .returned (.slice (some (ad b off)) (n + m) c) ∧ w' = W2 := by
  have hz1 : ¬ ((m : Int) = 0) := by omega
  have hz2 : ¬ ((i : Int) = (n : Int)) := by omega
  have hw1 : IntKind.i64.wrap ((i : Int) + (m : Int)) = (i : Int) + (m : Int) := by rw [IntKind.wrap_i64]; omega
  have hb1 : (0 : Int) ≤ (i : Int) + (m : Int) := by omega
  have hin : i ≤ n := by omega
  have htn : ((i : Int) + (m : Int)).toNat = i + m := by omega
  have hb2 : ¬ (c = i + m) := by omega
  have hb3 : (i : Int) ≤ (n : Int) + (m : Int) := by omega
  have hb4 : ¬ (c = i) := by omega
  have mixed : Try.prog.follows .mixedOrders = true := by kernel_rfl
  go_enter Try.func74, Try.ntmps74
  go_wp2_with (simp only [hov])
  go_region_law_o (refine step_copy_runI rfl _ _ 44 44 rfl _ _ (by simp [Act.eval, Act.put]) (by simp [Act.eval, Act.put]) (hcp1 _ _ _) ?_)
  go_wp2_with (at_builtin; refine wpList_copy_runI _ rfl _ _ 44 44 rfl _ _ rfl rfl (hcp2 _ _) ?_)
  go_ret
  exact ⟨rfl, rfl⟩
set_option maxHeartbeats 4000000 in
set_option maxRecDepth 100000 in
theorem i74_grow (w W1 W2 W3 : World) (b off n c i vb voff m vc N G : Nat) (hi : i < n) (hm : 0 < m) (hnc : n ≤ c) (hroom : c < n + m) (hGn : n + m ≤ G) (hc63 : n + m ≤ 9223372036854775807)
    (hrz : ∀ ty, (Builtin.append_ #[44, 3] ty #[.slice (some (ad b off)) i c, .int .i64 ((n : Int) + (m : Int) - (i : Int))]).run Try.prog w = .ok (.slice (some (ad N 0)) (n + m) G) W1)
    (hcpA : ∀ ty dc, (Builtin.copy_ #[44, 44] ty #[.slice (some (ad N (i * 4))) (n + m - i) dc, .slice (some (ad vb voff)) m vc]).run Try.prog W1 = .ok (goInt (m : Int)) W2)
    (hcpB : ∀ ty dc sc, (Builtin.copy_ #[44, 44] ty #[.slice (some (ad N ((i + m) * 4))) (n + m - (i + m)) dc, .slice (some (ad b (off + i * 4))) (n - i) sc]).run Try.prog W2.drew = .ok (goInt ((n - i : Nat) : Int)) W3) :
    Calls Try.prog 74 #[.slice (some (ad b off)) n c, .int .i64 i, .slice (some (ad vb voff)) m vc] w fun e w' => e = .returned (.slice (some (ad N 0)) (n + m) G) ∧ w' = W3 := by
  have hz1 : ¬ ((m : Int) = 0) := by omega
  have hz2 : ¬ ((i : Int) = (n : Int)) := by omega
  have hz3 : (c : Int) < (n : Int) + (m : Int) := by omega
  have hGi : ¬ (G = i) := by omega
  have hGim : ¬ (G = i + m) := by omega
  have hci : ¬ (c = i) := by omega
  have hw1 : IntKind.i64.wrap ((i : Int) + (m : Int)) = (i : Int) + (m : Int) := by rw [IntKind.wrap_i64]; omega
  have hb1 : (0 : Int) ≤ (i : Int) + (m : Int) := by omega
  have hin : i ≤ n := by omega
  have htn : ((i : Int) + (m : Int)).toNat = i + m := by omega
  have hb3 : (i : Int) ≤ (n : Int) := by omega
  have mixed : Try.prog.follows .mixedOrders = true := by kernel_rfl
  go_enter Try.func74, Try.ntmps74
  go_wp2_with (first
    | (at_builtin; refine Lib.wpList_append_run _ rfl _ _ _ _ rfl _ _ rfl rfl _ _ (hrz _) ?_)
    | (at_builtin; refine wpList_copy_runI _ rfl _ _ 44 44 rfl _ _ rfl rfl (hcpA _ _) ?_))
  go_region_law_o (refine step_copy_runI rfl _ _ 44 44 rfl _ _ (by simp [Act.eval, Act.put]) (by simp [Act.eval, Act.put]) (hcpB _ _ _) ?_)
  go_wp2
  go_ret
  exact ⟨rfl, rfl⟩
theorem i74_walk : InsWalk Try.prog 74 90 44 86 3 4 :=
  ⟨⟨_, (by kernel_rfl : Try.prog.funcs[74]? = some Try.f74), by kernel_rfl, by kernel_rfl⟩, fun w a x n c i vc => i74_non w a x n c i vc, fun w w1 a x n c m vc r => i74_app w w1 a x n c m vc r, fun w W1 W2 b off n c i vb voff m vc => i74_shift w W1 W2 b off n c i vb voff m vc, fun w W1 W2 W3 b off n c i vb voff m vc N G => i74_grow w W1 W2 W3 b off n c i vb voff m vc N G⟩
theorem p74_ok (B : Nat) : PrimOk Try.prog B 74 (insP 4 40) :=
  insP_ok (tE := 86) i74_walk (by kernel_rfl) (by kernel_rfl) ⟨(zeroOf Try.prog 86).getD [], by kernel_rfl, by kernel_rfl⟩
    fun w a b la ca lb cb hne tA tB kA kB hsa hsb hkb hfa hfe => by
      have hs : ((Try.prog.info? 86).getD default).size = 4 := by kernel_rfl
      have hz : ∀ w, (Go.sizeOf 86).run Try.prog w = .ok 4 w := fun w => by rw [← hs]; exact sizeOf_run (by kernel_rfl : Try.prog.info? 86 = some ((Try.prog.info? 86).getD default)) w
      rw [run_callFunc_extern (by kernel_rfl : Try.prog.funcs[90]? = some Try.f90) (by kernel_rfl) (by kernel_rfl) (by kernel_rfl) (e := Extern.SlicesOverlaps.overlaps #[44, 44] #[4]) (by kernel_rfl),
        Lib.run_overlaps_apart w 44 4 86 (by kernel_rfl) 4 hz a b la ca lb cb hne tA tB kA kB hsa hsb hkb hfa hfe]
      rfl
set_option maxHeartbeats 4000000 in
set_option maxRecDepth 100000 in
theorem i92_non (w : World) (a x : Option Addr) (n c i vc : Nat) (h1 : i ≤ n) (h2 : n ≤ c) : Calls Try.prog 92 #[.slice a n c, .int .i64 i, .slice x 0 vc] w fun e w' => e = .returned (.slice a n c) ∧ w' = w := by
  have mixed : Try.prog.follows .mixedOrders = true := by kernel_rfl
  go_enter Try.func92, Try.ntmps92
  go_wp2
  all_goals (go_ret; exact ⟨rfl, rfl⟩)
set_option maxHeartbeats 4000000 in
set_option maxRecDepth 100000 in
theorem i92_app (w w1 : World) (a x : Option Addr) (n c m vc : Nat) (r : Value) (h1 : n ≤ c) (h3 : 0 < m) (hr : ∀ ty, (Builtin.append_ #[43, 43] ty #[.slice a n c, .slice x m vc]).run Try.prog w = .ok r w1) :
    Calls Try.prog 92 #[.slice a n c, .int .i64 n, .slice x m vc] w fun e w' => e = .returned r ∧ w' = w1 := by
  have hz1 : ¬ ((m : Int) = 0) := by omega
  have mixed : Try.prog.follows .mixedOrders = true := by kernel_rfl
  go_enter Try.func92, Try.ntmps92
  go_wp2_with (at_builtin; refine Lib.wpList_append_run _ rfl _ _ _ _ rfl _ _ rfl rfl _ _ (hr _) ?_)
  all_goals (go_ret; exact ⟨rfl, rfl⟩)
set_option maxHeartbeats 4000000 in
set_option maxRecDepth 100000 in
theorem i92_shift (w W1 W2 : World) (b off n c i vb voff m vc : Nat) (hi : i < n) (hm : 0 < m) (hroom : n + m ≤ c) (hc63 : n + m ≤ 9223372036854775807)
    (hov : ∀ lb cb, (callFunc 97 #[.slice (some (ad vb voff)) m vc, .slice (some (ad b (off + (i + m) * 2))) lb cb]).run Try.prog w = .ok (.value (.bool false)) w)
    (hcp1 : ∀ ty dc sc, (Builtin.copy_ #[43, 43] ty #[.slice (some (ad b (off + (i + m) * 2))) (n + m - (i + m)) dc, .slice (some (ad b (off + i * 2))) (n + m - i) sc]).run Try.prog w.drew = .ok (goInt ((n - i : Nat) : Int)) W1)
    (hcp2 : ∀ ty dc, (Builtin.copy_ #[43, 43] ty #[.slice (some (ad b (off + i * 2))) (n + m - i) dc, .slice (some (ad vb voff)) m vc]).run Try.prog W1 = .ok (goInt (m : Int)) W2) :
    Calls Try.prog 92 #[.slice (some (ad b off)) n c, .int .i64 i, .slice (some (ad vb voff)) m vc] w fun e w' => e = .returned (.slice (some (ad b off)) (n + m) c) ∧ w' = W2 := by
  have hz1 : ¬ ((m : Int) = 0) := by omega
  have hz2 : ¬ ((i : Int) = (n : Int)) := by omega
  have hw1 : IntKind.i64.wrap ((i : Int) + (m : Int)) = (i : Int) + (m : Int) := by rw [IntKind.wrap_i64]; omega
  have hb1 : (0 : Int) ≤ (i : Int) + (m : Int) := by omega
  have hin : i ≤ n := by omega
  have htn : ((i : Int) + (m : Int)).toNat = i + m := by omega
  have hb2 : ¬ (c = i + m) := by omega
  have hb3 : (i : Int) ≤ (n : Int) + (m : Int) := by omega
  have hb4 : ¬ (c = i) := by omega
  have mixed : Try.prog.follows .mixedOrders = true := by kernel_rfl
  go_enter Try.func92, Try.ntmps92
  go_wp2_with (simp only [hov])
  go_region_law_o (refine step_copy_runI rfl _ _ 43 43 rfl _ _ (by simp [Act.eval, Act.put]) (by simp [Act.eval, Act.put]) (hcp1 _ _ _) ?_)
  go_wp2_with (at_builtin; refine wpList_copy_runI _ rfl _ _ 43 43 rfl _ _ rfl rfl (hcp2 _ _) ?_)
  go_ret
  exact ⟨rfl, rfl⟩
set_option maxHeartbeats 4000000 in
set_option maxRecDepth 100000 in
theorem i92_grow (w W1 W2 W3 : World) (b off n c i vb voff m vc N G : Nat) (hi : i < n) (hm : 0 < m) (hnc : n ≤ c) (hroom : c < n + m) (hGn : n + m ≤ G) (hc63 : n + m ≤ 9223372036854775807)
    (hrz : ∀ ty, (Builtin.append_ #[43, 3] ty #[.slice (some (ad b off)) i c, .int .i64 ((n : Int) + (m : Int) - (i : Int))]).run Try.prog w = .ok (.slice (some (ad N 0)) (n + m) G) W1)
    (hcpA : ∀ ty dc, (Builtin.copy_ #[43, 43] ty #[.slice (some (ad N (i * 2))) (n + m - i) dc, .slice (some (ad vb voff)) m vc]).run Try.prog W1 = .ok (goInt (m : Int)) W2)
    (hcpB : ∀ ty dc sc, (Builtin.copy_ #[43, 43] ty #[.slice (some (ad N ((i + m) * 2))) (n + m - (i + m)) dc, .slice (some (ad b (off + i * 2))) (n - i) sc]).run Try.prog W2.drew = .ok (goInt ((n - i : Nat) : Int)) W3) :
    Calls Try.prog 92 #[.slice (some (ad b off)) n c, .int .i64 i, .slice (some (ad vb voff)) m vc] w fun e w' => e = .returned (.slice (some (ad N 0)) (n + m) G) ∧ w' = W3 := by
  have hz1 : ¬ ((m : Int) = 0) := by omega
  have hz2 : ¬ ((i : Int) = (n : Int)) := by omega
  have hz3 : (c : Int) < (n : Int) + (m : Int) := by omega
  have hGi : ¬ (G = i) := by omega
  have hGim : ¬ (G = i + m) := by omega
  have hci : ¬ (c = i) := by omega
  have hw1 : IntKind.i64.wrap ((i : Int) + (m : Int)) = (i : Int) + (m : Int) := by rw [IntKind.wrap_i64]; omega
  have hb1 : (0 : Int) ≤ (i : Int) + (m : Int) := by omega
  have hin : i ≤ n := by omega
  have htn : ((i : Int) + (m : Int)).toNat = i + m := by omega
  have hb3 : (i : Int) ≤ (n : Int) := by omega
  have mixed : Try.prog.follows .mixedOrders = true := by kernel_rfl
  go_enter Try.func92, Try.ntmps92
  go_wp2_with (first
    | (at_builtin; refine Lib.wpList_append_run _ rfl _ _ _ _ rfl _ _ rfl rfl _ _ (hrz _) ?_)
    | (at_builtin; refine wpList_copy_runI _ rfl _ _ 43 43 rfl _ _ rfl rfl (hcpA _ _) ?_))
  go_region_law_o (refine step_copy_runI rfl _ _ 43 43 rfl _ _ (by simp [Act.eval, Act.put]) (by simp [Act.eval, Act.put]) (hcpB _ _ _) ?_)
  go_wp2
  go_ret
  exact ⟨rfl, rfl⟩
theorem i92_walk : InsWalk Try.prog 92 97 43 88 3 2 :=
  ⟨⟨_, (by kernel_rfl : Try.prog.funcs[92]? = some Try.f92), by kernel_rfl, by kernel_rfl⟩, fun w a x n c i vc => i92_non w a x n c i vc, fun w w1 a x n c m vc r => i92_app w w1 a x n c m vc r, fun w W1 W2 b off n c i vb voff m vc => i92_shift w W1 W2 b off n c i vb voff m vc, fun w W1 W2 W3 b off n c i vb voff m vc N G => i92_grow w W1 W2 W3 b off n c i vb voff m vc N G⟩
theorem p92_ok (B : Nat) : PrimOk Try.prog B 92 (insP 2 32) :=
  insP_ok (tE := 88) i92_walk (by kernel_rfl) (by kernel_rfl) ⟨(zeroOf Try.prog 88).getD [], by kernel_rfl, by kernel_rfl⟩
    fun w a b la ca lb cb hne tA tB kA kB hsa hsb hkb hfa hfe => by
      have hs : ((Try.prog.info? 88).getD default).size = 2 := by kernel_rfl
      have hz : ∀ w, (Go.sizeOf 88).run Try.prog w = .ok 2 w := fun w => by rw [← hs]; exact sizeOf_run (by kernel_rfl : Try.prog.info? 88 = some ((Try.prog.info? 88).getD default)) w
      rw [run_callFunc_extern (by kernel_rfl : Try.prog.funcs[97]? = some Try.f97) (by kernel_rfl) (by kernel_rfl) (by kernel_rfl) (e := Extern.SlicesOverlaps.overlaps #[43, 43] #[4]) (by kernel_rfl),
        Lib.run_overlaps_apart w 43 4 88 (by kernel_rfl) 2 hz a b la ca lb cb hne tA tB kA kB hsa hsb hkb hfa hfe]
      rfl
set_option maxHeartbeats 4000000 in
set_option maxRecDepth 100000 in
theorem d93_non (w : World) (a : Option Addr) (n c i : Nat) (h1 : i ≤ n) (h2 : n ≤ c) : Calls Try.prog 93 #[.slice a n c, .int .i64 i, .int .i64 i] w fun e w' => e = .returned (.slice a n c) ∧ w' = w := by
  have mixed : Try.prog.follows .mixedOrders = true := by kernel_rfl
  go_enter Try.func93, Try.ntmps93
  go_wp2
  all_goals (go_ret; exact ⟨rfl, rfl⟩)
set_option maxHeartbeats 4000000 in
set_option maxRecDepth 100000 in
theorem d93_del (w W1 W2 : World) (b off n c i j : Nat) (hij : i < j) (hj : j ≤ n) (hnc : n ≤ c)
    (hap : ∀ ty, (Builtin.append_ #[43, 43] ty #[.slice (some (ad b off)) i c, .slice (some (if c = j then ad b off else ad b (off + j * 2))) (n - j) (c - j)]).run Try.prog w.drew = .ok (.slice (some (ad b off)) (i + (n - j)) c) W1)
    (hcl : ∀ ty, (Builtin.clear_ #[43] ty #[.slice (some (ad b (off + (i + (n - j)) * 2))) (n - (i + (n - j))) (c - (i + (n - j)))]).run Try.prog W1 = .ok (.tuple #[]) W2) :
    Calls Try.prog 93 #[.slice (some (ad b off)) n c, .int .i64 i, .int .i64 j] w fun e w' => e = .returned (.slice (some (ad b off)) (i + (n - j)) c) ∧ w' = W2 := by
  have hz1 : ¬ ((i : Int) = (j : Int)) := by omega
  have hic : i ≤ c := by omega
  have hjc : j ≤ c := by omega
  have hij' : i ≤ j := by omega
  have hcn : ¬ (c = i + (n - j)) := by omega
  have hin : i + (n - j) ≤ n := by omega
  have hin2 : i + (n - j) ≤ c := by omega
  have hapA : ∀ ty, (Builtin.append_ #[43, 43] ty #[.slice (some (ad b off)) i c, .slice (if c = j then some (ad b off) else some (ad b (off + j * 2))) (n - j) (c - j)]).run Try.prog w.drew = .ok (.slice (some (ad b off)) (i + (n - j)) c) W1 := by
    intro ty
    have := hap ty
    by_cases h : c = j <;> simpa [h] using this
  clear hap
  have mixed : Try.prog.follows .mixedOrders = true := by kernel_rfl
  go_enter Try.func93, Try.ntmps93
  go_wp2_with fail
  go_region_law_o (refine step_append_runI rfl _ _ 43 43 rfl _ _ (by simp [Act.eval, Act.put]) (by simp [Act.eval, Act.put]) (hapA _) ?_)
  go_wp2
  all_goals (go_ret; exact ⟨rfl, rfl⟩)
theorem d93_walk : DelWalk Try.prog 93 43 88 2 :=
  ⟨⟨_, (by kernel_rfl : Try.prog.funcs[93]? = some Try.f93), by kernel_rfl, by kernel_rfl⟩, fun w a n c i => d93_non w a n c i, fun w W1 W2 b off n c i j => d93_del w W1 W2 b off n c i j⟩
theorem p93_ok (B : Nat) : PrimOk Try.prog B 93 (delP 2) :=
  delP_ok (bytes := 32) (tE := 88) d93_walk (by kernel_rfl) ⟨(zeroOf Try.prog 88).getD [], by kernel_rfl, by kernel_rfl⟩
end Go.Proofs.Ythoabddfionmoaa.AH
