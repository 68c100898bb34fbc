/- The reference's cursor over drawn bytes: numbers and texts that it picks. The reference draws commands. The reference draws lists of commands. Pairs, replies, sessions and commands compared; the same pairs, the same states. The reference folds commands. The law FnCommands over the abstract heap. The law FnCommands over the abstract heap: it answers true. What came in, as blocks of the abstract heap that nobody writes. From the abstract machine's answer to the model's call of a law. Its conditions: the law's own, on what comes in. The law FnCommands on what came in. What slices.Insert and slices.Delete do to cells, in the words of the abstract heap. What is asked of a walk over slices.Insert and slices.Delete. slices.Insert, slices.Delete: from the walk to the words insP, delP. No condition. -/
import Derived.Test.YthoabddfionmoaaK36
import Derived.Test.YthoabddfionmoaaK35
import Derived.Test.YthoabddfionmoaaK34
import Derived.Deep.Slices
import Derived.Laws.LoneSync
import Derived.SizedLaws
import Derived.WalkKit
import Derived.ProofKit
import Derived.OpenShut
import Derived.ShutString
import Derived.ChangeOld
import Derived.Carry
import Derived.Lib.AppendZerosOnto
import Derived.Lib.Overlaps
import Derived.Lib.SlicesDelete
import Derived.Laws.IdiomCopy
import Derived.Test.YthoabddfionmoaaK31
import Derived.Test.YthoabddfionmoaaK32
import Derived.Test.YthoabddfionmoaaK3St
set_option linter.unusedVariables false
set_option linter.unusedSimpArgs false
set_option maxRecDepth 100000
namespace Go.Proofs.Ythoabddfionmoaa.AH
open Go Go.RowKit
/-- A cursor over v, that has moved N times at the most, ahead of other blocks. -/
def CurP (v : V) (h0 : H) (M : List (Nat × List V)) (b N : Nat) (g : H) : Prop := ∃ (a : Nat) (z : Int), a ≤ N ∧ Mm h0 g ((b, [v, .int .i64 a, .int .u64 z]) :: M)
theorem CurP.up {v : V} {h0 g : H} {M : List (Nat × List V)} {b N N' : Nat} (s : CurP v h0 M b N g) (k : N ≤ N') : CurP v h0 M b N' g := by
  obtain ⟨a, z, ha, s⟩ := s
  exact ⟨a, z, by omega, s⟩
theorem CurP.sub {v : V} {h0 g : H} {M M' : List (Nat × List V)} {b N : Nat} (s : CurP v h0 M b N g) (k : M'.Sublist M) : CurP v h0 M' b N g := by
  obtain ⟨a, z, ha, s⟩ := s
  exact ⟨a, z, by omega, s.sub (k.cons_cons _)⟩
theorem wu64 {n : Nat} (k : n < 18446744073709551616) : IntKind.u64.wrap (n : Int) = (n : Int) := by
  unfold IntKind.wrap
  simp [IntKind.bits, IntKind.signed]
  omega
theorem shr_any {P : Program} {t : TypeId} (y : Int) : ∃ z, binV P .shr t (.int .u64 y) (.int .u64 40) = some (.int .u64 z) := ⟨_, rfl⟩
theorem and255 {P : Program} {t : TypeId} (y : Int) : ∃ x : Nat, x < 256 ∧ binV P .and t (.int .u64 y) (.int .u64 255) = some (.int .u64 x) := by
  have e : binV P .and t (.int .u64 y) (.int .u64 255) = some (.int .u64 (IntKind.u64.wrap (BitVec.ofInt 64 y &&& BitVec.ofInt 64 255).toNat)) := rfl
  have hx : (BitVec.ofInt 64 y &&& BitVec.ofInt 64 255).toNat < 256 := by
    rw [BitVec.toNat_and]
    have : (BitVec.ofInt 64 y).toNat &&& (BitVec.ofInt 64 255).toNat ≤ (BitVec.ofInt 64 255).toNat := Nat.and_le_right
    have e2 : (BitVec.ofInt 64 255).toNat = 255 := by decide
    omega
  exact ⟨_, hx, by rw [e, wu64 (by omega)]⟩
section
variable {code : List UInt8} {v : V} {h0 g : H} {M : List (Nat × List V)} {b N : Nat}
set_option maxHeartbeats 4000000 in
theorem nx86 (r : RV h0 v code) (hN : N < 4611686018427387904) (b0 : b ≠ 0) (s : CurP v h0 M b N g) :
    Wp (R 86 [.ptr b 0] g) fun r g' => (∃ x : Nat, x < 256 ∧ r = .int .i64 x) ∧ CurP v h0 M b (N + 1) g' := by
  obtain ⟨a, z, ha, s⟩ := s
  have hl := r.len
  refine R86 rfl ?_
  rw [S86_eq, S86_j1_eq, S86_j2_eq]
  have fin : ∀ x : Nat, x < 256 → Wp (S86_j4 R (.ptr b 0) (.int .i64 x) g) fun r g' => (∃ x : Nat, x < 256 ∧ r = .int .i64 x) ∧ CurP v h0 M b (N + 1) g' := by
    intro x hx
    rw [S86_j4_eq]
    repeat (first
     | ((with_reducible refine Wp.gb ?_); refine Wp.b (by first | (with_reducible first | exact fA_p (by assumption) | exact fA_o (by assumption) | exact nilC_ptr (by assumption) | exact bin_lss .. | exact bin_leq .. | exact bin_gtr .. | exact bin_geq .. | exact bin_eql .. | exact bin_neq .. | exact bin_add .. | exact bin_sub .. | exact bin_mul .. | exact str_eql .. | exact str_neq .. | exact str_lss .. | exact str_gtr .. | exact str_geq .. | exact str_leq .. | exact not_bool .. | exact lenS_str .. | assumption) | exact (show extV (.tup _) _ = some _ from rfl) | exact s.ld1 0 rfl (by assumption) _ rfl | exact s.ld1 1 rfl (by assumption) _ rfl | exact s.ld1 2 rfl (by assumption) _ rfl | exact s.ld1 3 rfl (by assumption) _ rfl | exact s.ld1 4 rfl (by assumption) _ rfl | exact s.ld1 5 rfl (by assumption) _ rfl | exact s.ld1 6 rfl (by assumption) _ rfl | exact s.ld1 7 rfl (by assumption) _ rfl | exact s.ld1 8 rfl (by assumption) _ rfl | exact s.ld1 9 rfl (by assumption) _ rfl | exact s.ld1 10 rfl (by assumption) _ rfl | exact s.ld1 11 rfl (by assumption) _ rfl | exact bload_ld1 (by assumption) _ rfl | exact bload_ldn (by assumption) _ _ (Nat.le_refl _) | exact (show bldV _ _ = some _ from rfl) | ((first | apply s.ldn 0 rfl | apply s.ldn 1 rfl | apply s.ldn 2 rfl | apply s.ldn 3 rfl | apply s.ldn 4 rfl | apply s.ldn 5 rfl | apply s.ldn 6 rfl | apply s.ldn 7 rfl | apply s.ldn 8 rfl | apply s.ldn 9 rfl | apply s.ldn 10 rfl | apply s.ldn 11 rfl); (· assumption); (· first | exact Nat.le_refl _ | decide | (simp; done)); (· rfl))) ?_)
     | (with_reducible first | refine Wp.onT (by assumption) ?_ | refine Wp.onF (by assumption) ?_ | refine Wp.spT (by assumption) ?_ | refine Wp.spF (by assumption) ?_)
     | ((with_reducible refine Wp.gbx ?_); refine Wp.box s rfl fun _p _g _p0 _F s => ?_)
     | ((with_reducible refine Wp.gal ?_); refine Wp.alo s fun _p _g _p0 _F s => ?_))
    rw [inc64 (by omega)]
    repeat (first
     | ((with_reducible refine Wp.gb ?_); refine Wp.b (by first | (with_reducible first | exact fA_p (by assumption) | exact fA_o (by assumption) | exact nilC_ptr (by assumption) | exact bin_lss .. | exact bin_leq .. | exact bin_gtr .. | exact bin_geq .. | exact bin_eql .. | exact bin_neq .. | exact bin_add .. | exact bin_sub .. | exact bin_mul .. | exact str_eql .. | exact str_neq .. | exact str_lss .. | exact str_gtr .. | exact str_geq .. | exact str_leq .. | exact not_bool .. | exact lenS_str .. | assumption) | exact (show extV (.tup _) _ = some _ from rfl) | exact s.ld1 0 rfl (by assumption) _ rfl | exact s.ld1 1 rfl (by assumption) _ rfl | exact s.ld1 2 rfl (by assumption) _ rfl | exact s.ld1 3 rfl (by assumption) _ rfl | exact s.ld1 4 rfl (by assumption) _ rfl | exact s.ld1 5 rfl (by assumption) _ rfl | exact s.ld1 6 rfl (by assumption) _ rfl | exact s.ld1 7 rfl (by assumption) _ rfl | exact s.ld1 8 rfl (by assumption) _ rfl | exact s.ld1 9 rfl (by assumption) _ rfl | exact s.ld1 10 rfl (by assumption) _ rfl | exact s.ld1 11 rfl (by assumption) _ rfl | exact bload_ld1 (by assumption) _ rfl | exact bload_ldn (by assumption) _ _ (Nat.le_refl _) | exact (show bldV _ _ = some _ from rfl) | ((first | apply s.ldn 0 rfl | apply s.ldn 1 rfl | apply s.ldn 2 rfl | apply s.ldn 3 rfl | apply s.ldn 4 rfl | apply s.ldn 5 rfl | apply s.ldn 6 rfl | apply s.ldn 7 rfl | apply s.ldn 8 rfl | apply s.ldn 9 rfl | apply s.ldn 10 rfl | apply s.ldn 11 rfl); (· assumption); (· first | exact Nat.le_refl _ | decide | (simp; done)); (· rfl))) ?_)
     | (with_reducible first | refine Wp.onT (by assumption) ?_ | refine Wp.onF (by assumption) ?_ | refine Wp.spT (by assumption) ?_ | refine Wp.spF (by assumption) ?_)
     | ((with_reducible refine Wp.gbx ?_); refine Wp.box s rfl fun _p _g _p0 _F s => ?_)
     | ((with_reducible refine Wp.gal ?_); refine Wp.alo s fun _p _g _p0 _F s => ?_)
     | ((with_reducible refine Wp.gst ?_); (first | apply Wp.sto s 0 rfl | apply Wp.sto s 1 rfl | apply Wp.sto s 2 rfl | apply Wp.sto s 3 rfl | apply Wp.sto s 4 rfl | apply Wp.sto s 5 rfl | apply Wp.sto s 6 rfl | apply Wp.sto s 7 rfl | apply Wp.sto s 8 rfl | apply Wp.sto s 9 rfl | apply Wp.sto s 10 rfl | apply Wp.sto s 11 rfl); (· assumption); (· first | rfl | assumption); (· rfl); (· first | exact Nat.le_refl _ | decide | (simp; done)); (· rfl); intro _g _F s; simp only [List.set_cons_succ, List.set_cons_zero, List.take_succ_cons, List.take_zero, List.drop_succ_cons, List.drop_zero, List.drop_nil, List.nil_append, List.cons_append, List.append_nil, Nat.zero_add, Nat.reduceAdd] at s))
    rw [S86_j5_eq]
    repeat (first
     | ((with_reducible refine Wp.gb ?_); with_reducible refine Wp.b (cvI_int _ _ _) ?_)
     | ((with_reducible refine Wp.gb ?_); refine Wp.b (by first | (with_reducible first | exact fA_p (by assumption) | exact fA_o (by assumption) | exact nilC_ptr (by assumption) | exact bin_lss .. | exact bin_leq .. | exact bin_gtr .. | exact bin_geq .. | exact bin_eql .. | exact bin_neq .. | exact bin_add .. | exact bin_sub .. | exact bin_mul .. | exact str_eql .. | exact str_neq .. | exact str_lss .. | exact str_gtr .. | exact str_geq .. | exact str_leq .. | exact not_bool .. | exact lenS_str .. | assumption) | exact (show extV (.tup _) _ = some _ from rfl) | exact s.ld1 0 rfl (by assumption) _ rfl | exact s.ld1 1 rfl (by assumption) _ rfl | exact s.ld1 2 rfl (by assumption) _ rfl | exact s.ld1 3 rfl (by assumption) _ rfl | exact s.ld1 4 rfl (by assumption) _ rfl | exact s.ld1 5 rfl (by assumption) _ rfl | exact s.ld1 6 rfl (by assumption) _ rfl | exact s.ld1 7 rfl (by assumption) _ rfl | exact s.ld1 8 rfl (by assumption) _ rfl | exact s.ld1 9 rfl (by assumption) _ rfl | exact s.ld1 10 rfl (by assumption) _ rfl | exact s.ld1 11 rfl (by assumption) _ rfl | exact bload_ld1 (by assumption) _ rfl | exact bload_ldn (by assumption) _ _ (Nat.le_refl _) | exact (show bldV _ _ = some _ from rfl) | ((first | apply s.ldn 0 rfl | apply s.ldn 1 rfl | apply s.ldn 2 rfl | apply s.ldn 3 rfl | apply s.ldn 4 rfl | apply s.ldn 5 rfl | apply s.ldn 6 rfl | apply s.ldn 7 rfl | apply s.ldn 8 rfl | apply s.ldn 9 rfl | apply s.ldn 10 rfl | apply s.ldn 11 rfl); (· assumption); (· first | exact Nat.le_refl _ | decide | (simp; done)); (· rfl))) ?_)
     | (with_reducible first | refine Wp.onT (by assumption) ?_ | refine Wp.onF (by assumption) ?_ | refine Wp.spT (by assumption) ?_ | refine Wp.spF (by assumption) ?_)
     | ((with_reducible refine Wp.gbx ?_); refine Wp.box s rfl fun _p _g _p0 _F s => ?_)
     | ((with_reducible refine Wp.gal ?_); refine Wp.alo s fun _p _g _p0 _F s => ?_)
     | ((with_reducible refine Wp.gst ?_); (first | apply Wp.sto s 0 rfl | apply Wp.sto s 1 rfl | apply Wp.sto s 2 rfl | apply Wp.sto s 3 rfl | apply Wp.sto s 4 rfl | apply Wp.sto s 5 rfl | apply Wp.sto s 6 rfl | apply Wp.sto s 7 rfl | apply Wp.sto s 8 rfl | apply Wp.sto s 9 rfl | apply Wp.sto s 10 rfl | apply Wp.sto s 11 rfl); (· assumption); (· first | rfl | assumption); (· rfl); (· first | exact Nat.le_refl _ | decide | (simp; done)); (· rfl); intro _g _F s; simp only [List.set_cons_succ, List.set_cons_zero, List.take_succ_cons, List.take_zero, List.drop_succ_cons, List.drop_zero, List.drop_nil, List.nil_append, List.cons_append, List.append_nil, Nat.zero_add, Nat.reduceAdd] at s))
    rw [S86_j6_eq]
    repeat (first
     | ((with_reducible refine Wp.gb ?_); refine Wp.b (by first | (with_reducible first | exact fA_p (by assumption) | exact fA_o (by assumption) | exact nilC_ptr (by assumption) | exact bin_lss .. | exact bin_leq .. | exact bin_gtr .. | exact bin_geq .. | exact bin_eql .. | exact bin_neq .. | exact bin_add .. | exact bin_sub .. | exact bin_mul .. | exact str_eql .. | exact str_neq .. | exact str_lss .. | exact str_gtr .. | exact str_geq .. | exact str_leq .. | exact not_bool .. | exact lenS_str .. | assumption) | exact (show extV (.tup _) _ = some _ from rfl) | exact s.ld1 0 rfl (by assumption) _ rfl | exact s.ld1 1 rfl (by assumption) _ rfl | exact s.ld1 2 rfl (by assumption) _ rfl | exact s.ld1 3 rfl (by assumption) _ rfl | exact s.ld1 4 rfl (by assumption) _ rfl | exact s.ld1 5 rfl (by assumption) _ rfl | exact s.ld1 6 rfl (by assumption) _ rfl | exact s.ld1 7 rfl (by assumption) _ rfl | exact s.ld1 8 rfl (by assumption) _ rfl | exact s.ld1 9 rfl (by assumption) _ rfl | exact s.ld1 10 rfl (by assumption) _ rfl | exact s.ld1 11 rfl (by assumption) _ rfl | exact bload_ld1 (by assumption) _ rfl | exact bload_ldn (by assumption) _ _ (Nat.le_refl _) | exact (show bldV _ _ = some _ from rfl) | ((first | apply s.ldn 0 rfl | apply s.ldn 1 rfl | apply s.ldn 2 rfl | apply s.ldn 3 rfl | apply s.ldn 4 rfl | apply s.ldn 5 rfl | apply s.ldn 6 rfl | apply s.ldn 7 rfl | apply s.ldn 8 rfl | apply s.ldn 9 rfl | apply s.ldn 10 rfl | apply s.ldn 11 rfl); (· assumption); (· first | exact Nat.le_refl _ | decide | (simp; done)); (· rfl))) ?_)
     | (with_reducible first | refine Wp.onT (by assumption) ?_ | refine Wp.onF (by assumption) ?_ | refine Wp.spT (by assumption) ?_ | refine Wp.spF (by assumption) ?_)
     | ((with_reducible refine Wp.gbx ?_); refine Wp.box s rfl fun _p _g _p0 _F s => ?_)
     | ((with_reducible refine Wp.gal ?_); refine Wp.alo s fun _p _g _p0 _F s => ?_))
    refine Wp.on (fun hc => ?_) (fun hc => ?_)
    · exact Wp.r1 rfl rfl ⟨⟨x, hx, rfl⟩, _, _, by omega, s⟩
    · rw [S86_j8_eq]
      repeat (first
       | ((with_reducible refine Wp.gb ?_); refine Wp.b (by first | (with_reducible first | exact fA_p (by assumption) | exact fA_o (by assumption) | exact nilC_ptr (by assumption) | exact bin_lss .. | exact bin_leq .. | exact bin_gtr .. | exact bin_geq .. | exact bin_eql .. | exact bin_neq .. | exact bin_add .. | exact bin_sub .. | exact bin_mul .. | exact str_eql .. | exact str_neq .. | exact str_lss .. | exact str_gtr .. | exact str_geq .. | exact str_leq .. | exact not_bool .. | exact lenS_str .. | assumption) | exact (show extV (.tup _) _ = some _ from rfl) | exact s.ld1 0 rfl (by assumption) _ rfl | exact s.ld1 1 rfl (by assumption) _ rfl | exact s.ld1 2 rfl (by assumption) _ rfl | exact s.ld1 3 rfl (by assumption) _ rfl | exact s.ld1 4 rfl (by assumption) _ rfl | exact s.ld1 5 rfl (by assumption) _ rfl | exact s.ld1 6 rfl (by assumption) _ rfl | exact s.ld1 7 rfl (by assumption) _ rfl | exact s.ld1 8 rfl (by assumption) _ rfl | exact s.ld1 9 rfl (by assumption) _ rfl | exact s.ld1 10 rfl (by assumption) _ rfl | exact s.ld1 11 rfl (by assumption) _ rfl | exact bload_ld1 (by assumption) _ rfl | exact bload_ldn (by assumption) _ _ (Nat.le_refl _) | exact (show bldV _ _ = some _ from rfl) | ((first | apply s.ldn 0 rfl | apply s.ldn 1 rfl | apply s.ldn 2 rfl | apply s.ldn 3 rfl | apply s.ldn 4 rfl | apply s.ldn 5 rfl | apply s.ldn 6 rfl | apply s.ldn 7 rfl | apply s.ldn 8 rfl | apply s.ldn 9 rfl | apply s.ldn 10 rfl | apply s.ldn 11 rfl); (· assumption); (· first | exact Nat.le_refl _ | decide | (simp; done)); (· rfl))) ?_)
       | (with_reducible first | refine Wp.onT (by assumption) ?_ | refine Wp.onF (by assumption) ?_ | refine Wp.spT (by assumption) ?_ | refine Wp.spF (by assumption) ?_)
       | ((with_reducible refine Wp.gbx ?_); refine Wp.box s rfl fun _p _g _p0 _F s => ?_)
       | ((with_reducible refine Wp.gal ?_); refine Wp.alo s fun _p _g _p0 _F s => ?_))
      obtain ⟨y, e1⟩ := shr_any (P := Try.prog) (t := 79) (IntKind.u64.wrap (IntKind.u64.wrap (IntKind.u64.wrap (z * 6364136223846793005) + IntKind.u64.wrap x) + 1442695040888963407))
      refine Wp.b e1 ?_
      obtain ⟨u, hu, e2⟩ := and255 (P := Try.prog) (t := 79) y
      refine Wp.b e2 (Wp.b (cvI_int _ _ _) ?_)
      rw [w64 (by omega)]
      exact Wp.r1 rfl rfl ⟨⟨u, hu, rfl⟩, _, _, by omega, s⟩
  repeat (first
   | ((with_reducible refine Wp.gb ?_); refine Wp.b (by first | (with_reducible first | exact fA_p (by assumption) | exact fA_o (by assumption) | exact nilC_ptr (by assumption) | exact bin_lss .. | exact bin_leq .. | exact bin_gtr .. | exact bin_geq .. | exact bin_eql .. | exact bin_neq .. | exact bin_add .. | exact bin_sub .. | exact bin_mul .. | exact str_eql .. | exact str_neq .. | exact str_lss .. | exact str_gtr .. | exact str_geq .. | exact str_leq .. | exact not_bool .. | exact lenS_str .. | assumption) | exact (show extV (.tup _) _ = some _ from rfl) | exact s.ld1 0 rfl (by assumption) _ rfl | exact s.ld1 1 rfl (by assumption) _ rfl | exact s.ld1 2 rfl (by assumption) _ rfl | exact s.ld1 3 rfl (by assumption) _ rfl | exact s.ld1 4 rfl (by assumption) _ rfl | exact s.ld1 5 rfl (by assumption) _ rfl | exact s.ld1 6 rfl (by assumption) _ rfl | exact s.ld1 7 rfl (by assumption) _ rfl | exact s.ld1 8 rfl (by assumption) _ rfl | exact s.ld1 9 rfl (by assumption) _ rfl | exact s.ld1 10 rfl (by assumption) _ rfl | exact s.ld1 11 rfl (by assumption) _ rfl | exact bload_ld1 (by assumption) _ rfl | exact bload_ldn (by assumption) _ _ (Nat.le_refl _) | exact (show bldV _ _ = some _ from rfl) | ((first | apply s.ldn 0 rfl | apply s.ldn 1 rfl | apply s.ldn 2 rfl | apply s.ldn 3 rfl | apply s.ldn 4 rfl | apply s.ldn 5 rfl | apply s.ldn 6 rfl | apply s.ldn 7 rfl | apply s.ldn 8 rfl | apply s.ldn 9 rfl | apply s.ldn 10 rfl | apply s.ldn 11 rfl); (· assumption); (· first | exact Nat.le_refl _ | decide | (simp; done)); (· rfl))) ?_)
   | (with_reducible first | refine Wp.onT (by assumption) ?_ | refine Wp.onF (by assumption) ?_ | refine Wp.spT (by assumption) ?_ | refine Wp.spF (by assumption) ?_)
   | ((with_reducible refine Wp.gbx ?_); refine Wp.box s rfl fun _p _g _p0 _F s => ?_)
   | ((with_reducible refine Wp.gal ?_); refine Wp.alo s fun _p _g _p0 _F s => ?_))
  refine Wp.on (fun hc => ?_) (fun hc => ?_)
  · have hc : a < code.length := by simpa using hc
    obtain ⟨c, o, c0, cl, e1, e2⟩ := (s.bor r).at hc
    repeat (first
     | ((with_reducible refine Wp.gb ?_); refine Wp.b (by first | (with_reducible first | exact fA_p (by assumption) | exact fA_o (by assumption) | exact nilC_ptr (by assumption) | exact bin_lss .. | exact bin_leq .. | exact bin_gtr .. | exact bin_geq .. | exact bin_eql .. | exact bin_neq .. | exact bin_add .. | exact bin_sub .. | exact bin_mul .. | exact str_eql .. | exact str_neq .. | exact str_lss .. | exact str_gtr .. | exact str_geq .. | exact str_leq .. | exact not_bool .. | exact lenS_str .. | assumption) | exact (show extV (.tup _) _ = some _ from rfl) | exact s.ld1 0 rfl (by assumption) _ rfl | exact s.ld1 1 rfl (by assumption) _ rfl | exact s.ld1 2 rfl (by assumption) _ rfl | exact s.ld1 3 rfl (by assumption) _ rfl | exact s.ld1 4 rfl (by assumption) _ rfl | exact s.ld1 5 rfl (by assumption) _ rfl | exact s.ld1 6 rfl (by assumption) _ rfl | exact s.ld1 7 rfl (by assumption) _ rfl | exact s.ld1 8 rfl (by assumption) _ rfl | exact s.ld1 9 rfl (by assumption) _ rfl | exact s.ld1 10 rfl (by assumption) _ rfl | exact s.ld1 11 rfl (by assumption) _ rfl | exact bload_ld1 (by assumption) _ rfl | exact bload_ldn (by assumption) _ _ (Nat.le_refl _) | exact (show bldV _ _ = some _ from rfl) | ((first | apply s.ldn 0 rfl | apply s.ldn 1 rfl | apply s.ldn 2 rfl | apply s.ldn 3 rfl | apply s.ldn 4 rfl | apply s.ldn 5 rfl | apply s.ldn 6 rfl | apply s.ldn 7 rfl | apply s.ldn 8 rfl | apply s.ldn 9 rfl | apply s.ldn 10 rfl | apply s.ldn 11 rfl); (· assumption); (· first | exact Nat.le_refl _ | decide | (simp; done)); (· rfl))) ?_)
     | (with_reducible first | refine Wp.onT (by assumption) ?_ | refine Wp.onF (by assumption) ?_ | refine Wp.spT (by assumption) ?_ | refine Wp.spF (by assumption) ?_)
     | ((with_reducible refine Wp.gbx ?_); refine Wp.box s rfl fun _p _g _p0 _F s => ?_)
     | ((with_reducible refine Wp.gal ?_); refine Wp.alo s fun _p _g _p0 _F s => ?_))
    refine Wp.b e1 (Wp.b (bload_ld1 e2 0 rfl) (Wp.b (cvI_int _ _ _) ?_))
    have := UInt8.toNat_lt code[a]
    rw [w64 (by omega)]
    exact fin _ (by omega)
  · exact fin 0 (by decide)
theorem pk71 (r : RV h0 v code) (n : Nat) (h1 : 1 ≤ n) (hn : n < 2147483648) (hN : N < 4611686018427387000) (b0 : b ≠ 0) (s : CurP v h0 M b N g) :
    Wp (R 71 [.ptr b 0, .int .i64 n] g) fun r g' => (∃ x : Nat, x < n ∧ r = .int .i64 x) ∧ CurP v h0 M b (N + 2) g' := by
  refine R71 rfl ?_
  rw [S71_eq]
  refine Wp.b (bin_leq _ _ _ _ _) (Wp.on (fun hc => ?_) (fun hc => ?_))
  · exact Wp.r1 rfl rfl ⟨⟨0, by omega, rfl⟩, s.up (by omega)⟩
  · refine Wp.bind (nx86 r (by omega) b0 s) ?_
    rintro _ g1 ⟨⟨x, hx, rfl⟩, s⟩
    dsimp only
    have hn0 : (n : Int) ≠ 0 := by omega
    refine Wp.b (bin_gtr _ _ _ _ _) (Wp.on (fun hc => ?_) (fun hc => ?_))
    · refine Wp.b (bin_mul _ _ _ _ _) ?_
      rw [show (x : Int) * 256 = ((x * 256 : Nat) : Int) by omega, w64 (by omega)]
      refine Wp.bind (nx86 r (by omega) b0 s) ?_
      rintro _ g2 ⟨⟨y, hy, rfl⟩, s⟩
      dsimp only
      refine Wp.b (bin_add _ _ _ _ _) ?_
      rw [show ((x * 256 : Nat) : Int) + (y : Int) = ((x * 256 + y : Nat) : Int) by omega, w64 (by omega)]
      refine Wp.b (bin_rem _ _ _ _ _ hn0) ?_
      rw [show ((x * 256 + y : Nat) : Int).tmod (n : Int) = (((x * 256 + y) % n : Nat) : Int) from rfl]
      exact Wp.r1 rfl rfl ⟨⟨_, Nat.mod_lt _ (by omega), rfl⟩, s⟩
    · refine Wp.b (bin_rem _ _ _ _ _ hn0) ?_
      rw [show (x : Int).tmod (n : Int) = ((x % n : Nat) : Int) from rfl]
      exact Wp.r1 rfl rfl ⟨⟨_, Nat.mod_lt _ (by omega), rfl⟩, s.up (by omega)⟩
theorem one72 (r : RV h0 v code) (n : Nat) (h1 : 1 ≤ n) (hn : n < 2147483648) (hN : N < 4611686018427387000) (b0 : b ≠ 0) (s : CurP v h0 M b N g) :
    Wp (R 72 [.ptr b 0, .int .i64 n] g) fun r g' => (∃ x : Bool, r = .bool x) ∧ CurP v h0 M b (N + 2) g' := by
  refine R72 rfl ?_
  rw [S72_eq]
  refine Wp.bind (pk71 r n h1 hn hN b0 s) ?_
  rintro _ g1 ⟨⟨x, hx, rfl⟩, s⟩
  exact Wp.b (bin_eql _ _ _ _ _) (Wp.r1 rfl rfl ⟨⟨_, rfl⟩, s⟩)
theorem of84 (r : RV h0 v code) {w : V} {l : List ByteArray} {i : Nat} (o : OV w l i) (h1 : 1 ≤ l.length) (hn : l.length < 2147483648) (hN : N < 4611686018427387000) (b0 : b ≠ 0) (s : CurP v h0 ((i, flat l) :: M) b N g) :
    Wp (R 84 [.ptr b 0, w] g) fun r g' => (∃ x : ByteArray, r = .str x) ∧ CurP v h0 M b (N + 2) g' := by
  refine R84 rfl ?_
  rw [S84_eq]
  refine Wp.b o.len (Wp.bind (pk71 r _ h1 hn hN b0 s) ?_)
  rintro _ g1 ⟨⟨x, hx, rfl⟩, s⟩
  dsimp only
  have s2 := s.sub (List.sublist_cons_self _ _)
  obtain ⟨a, z, ha, s⟩ := s
  obtain ⟨c, q, c0, cl, e1, e2⟩ := (s.rv 1 o rfl).at hx
  exact Wp.b e1 (Wp.b (bload_ld1 e2 0 rfl) (Wp.r1 rfl rfl ⟨⟨_, rfl⟩, s2⟩))
theorem am85 (r : RV h0 v code) {w : V} {l : List Int} {i : Nat} (o : OV w l i) (h1 : 1 ≤ l.length) (hn : l.length < 2147483648) (hN : N < 4611686018427387000) (b0 : b ≠ 0) (s : CurP v h0 ((i, flat l) :: M) b N g) :
    Wp (R 85 [.ptr b 0, w] g) fun r g' => (∃ x : Int, r = .int .i64 x) ∧ CurP v h0 M b (N + 2) g' := by
  refine R85 rfl ?_
  rw [S85_eq]
  refine Wp.b o.len (Wp.bind (pk71 r _ h1 hn hN b0 s) ?_)
  rintro _ g1 ⟨⟨x, hx, rfl⟩, s⟩
  dsimp only
  have s2 := s.sub (List.sublist_cons_self _ _)
  obtain ⟨a, z, ha, s⟩ := s
  obtain ⟨c, q, c0, cl, e1, e2⟩ := (s.rv 1 o rfl).at hx
  exact Wp.b e1 (Wp.b (bload_ld1 e2 0 rfl) (Wp.r1 rfl rfl ⟨⟨_, rfl⟩, s2⟩))
/-- A list of its own, and the cursor ahead of it. -/
theorem Wp.litC {α : Type} [Enc α] (s : CurP v h0 M b N g) (l : List α) {z : List V} {ps : List (Nat × Nat × V)} {sz n : Nat} (hv : bld z ps = some (flat l)) (hs : sz = Enc.sz α) (hn : n = l.length) {f : V → H → Option (V × H)} {Q : V → H → Prop}
    (c : ∀ w id g', OV w l id → CurP v h0 ((id, flat l) :: M) b N g' → Wp (f w g') Q) : Wp (bsK sz n g z ps f) Q := by
  obtain ⟨a, y, ha, s⟩ := s
  exact Wp.lit s l hv hs hn fun w id g' o n0 F s => c w id g' o ⟨a, y, ha, s.back⟩
theorem key83 (r : RV h0 v code) (hN : N < 4611686018427386000) (b0 : b ≠ 0) (s : CurP v h0 M b N g) :
    Wp (R 83 [.ptr b 0] g) fun r g' => (∃ x : ByteArray, r = .str x) ∧ CurP v h0 M b (N + 4) g' := by
  refine R83 rfl ?_
  rw [S83_eq]
  refine Wp.bind (one72 r 60 (by decide) (by decide) (by omega) b0 s) ?_
  rintro _ g1 ⟨⟨x, rfl⟩, s⟩
  dsimp only
  refine Wp.on (fun hc => ?_) (fun hc => ?_)
  · refine Wp.litC s [(⟨#[]⟩ : ByteArray), ⟨#[49, 50, 51, 52, 53, 54, 55, 56, 57, 48, 49, 50, 51, 52, 53, 54, 55]⟩] rfl rfl rfl fun w i g2 o s => ?_
    refine Wp.bind (of84 r o (by decide) (by decide) (by omega) b0 s) ?_
    rintro _ g3 ⟨⟨y, rfl⟩, s⟩
    exact Wp.r1 rfl rfl ⟨⟨_, rfl⟩, s⟩
  · refine Wp.litC s [(⟨#[97]⟩ : ByteArray), ⟨#[98]⟩, ⟨#[98, 97]⟩, ⟨#[99]⟩, ⟨#[99, 97, 114]⟩, ⟨#[100]⟩, ⟨#[101]⟩] rfl rfl rfl fun w i g2 o s => ?_
    refine Wp.bind (of84 r o (by decide) (by decide) (by omega) b0 s) ?_
    rintro _ g3 ⟨⟨y, rfl⟩, s⟩
    exact Wp.r1 rfl rfl ⟨⟨_, rfl⟩, s⟩
end
end Go.Proofs.Ythoabddfionmoaa.AH
namespace Go.Proofs.Ythoabddfionmoaa.AH
open Go Go.RowKit
section
variable {code : List UInt8} {v : V} {h0 g : H} {M : List (Nat × List V)} {b N : Nat}
theorem Wp.aloC (s : CurP v h0 M b N g) {z : List V} {f : V → H → Option (V × H)} {Q : V → H → Prop}
    (c : ∀ p g', p ≠ 0 → CurP v h0 ((p, z) :: M) b N g' → Wp (f (.ptr p 0) g') Q) : Wp (alK z g f) Q := by
  obtain ⟨a, y, ha, s⟩ := s
  exact Wp.alo s fun p g' p0 F s => c p g' p0 ⟨a, y, ha, s.back⟩
def zc : Cmd := ⟨0, 0, 0, ⟨#[]⟩, ⟨#[]⟩, ⟨#[]⟩⟩
def CmdPost (v : V) (h0 : H) (M : List (Nat × List V)) (b N : Nat) : V → H → Prop := fun r g' => (∃ c : Cmd, r = .agg c.en) ∧ CurP v h0 M b N g'
theorem fin63 {N2 : Nat} (c : Cmd) {p q : Nat} (p0 : p ≠ 0) (q0 : q ≠ 0) (hN : N ≤ N2) (s : CurP v h0 ((q, c.en) :: (p, zc.en) :: M) b N g) :
    Wp ((ldn 6 g (.ptr q 0)).bind fun v44 => stN 6 g (.ptr p 0) v44 fun h45 => (ress [(ldn 6 h45 (.ptr p 0))]).map fun vs => (tupOf vs, h45)) (CmdPost v h0 M b N2) := by
  obtain ⟨a, y, ha, s⟩ := s
  refine Wp.b (s.ldn 1 rfl q0 0 6 (Nat.le_refl 6) rfl) ?_
  refine Wp.sto s 2 rfl p0 (vs := c.en) rfl rfl (Nat.le_refl 6) (ds := c.en) rfl fun g2 F s => ?_
  refine Wp.r1 (s.ldn 2 rfl p0 0 6 (Nat.le_refl 6) rfl) rfl ⟨⟨c, rfl⟩, a, y, by omega, s.sub ?_⟩
  exact ((List.Sublist.refl _).cons _ |>.cons _).cons_cons _
set_option maxHeartbeats 4000000 in
theorem j6_63 (r : RV h0 v code) (c : Cmd) {p q : Nat} (p0 : p ≠ 0) (q0 : q ≠ 0) (hN : N < 4611686018427386000) (b0 : b ≠ 0) (s : CurP v h0 ((q, c.en) :: (p, zc.en) :: M) b N g) :
    Wp (S63_j6 R (.ptr b 0) (.ptr p 0) (.ptr q 0) g) (CmdPost v h0 M b (N + 4)) := by
  rw [S63_j6_eq]
  obtain ⟨c1, c2, c3, c4, c5, c6⟩ := c
  refine Wp.bind (pk71 r 60 (by decide) (by decide) (by omega) b0 s) ?_
  rintro _ g1 ⟨⟨x, hx, rfl⟩, s⟩
  dsimp only
  refine Wp.b (bin_eql _ _ _ _ _) (Wp.on (fun hc => ?_) (fun hc => ?_))
  · refine Wp.litC s [(-1 : Int), 99, 100] rfl rfl rfl fun w i g2 o s => ?_
    refine Wp.bind (am85 r o (by decide) (by decide) (by omega) b0 s) ?_
    rintro _ g3 ⟨⟨y, rfl⟩, a, z, ha, s⟩
    dsimp only
    refine Wp.b (fA_p q0) ?_
    refine Wp.sto s 1 rfl q0 (o := 0) (n := 1) rfl rfl (by show 0 + 1 ≤ 6; decide) (ds := Cmd.en ⟨y, c2, c3, c4, c5, c6⟩) rfl fun g4 F s => ?_
    exact fin63 _ p0 q0 (by omega) ⟨a, z, ha, s⟩
  refine Wp.b (bin_eql _ _ _ _ _) (Wp.on (fun hc => ?_) (fun hc => ?_))
  · refine Wp.litC s [(0 : Int), 1000000, 1000001] rfl rfl rfl fun w i g2 o s => ?_
    refine Wp.bind (am85 r o (by decide) (by decide) (by omega) b0 s) ?_
    rintro _ g3 ⟨⟨y, rfl⟩, a, z, ha, s⟩
    dsimp only
    refine Wp.b (fA_p q0) ?_
    refine Wp.sto s 1 rfl q0 (o := 1) (n := 1) rfl rfl (by show 1 + 1 ≤ 6; decide) (ds := Cmd.en ⟨c1, y, c3, c4, c5, c6⟩) rfl fun g4 F s => ?_
    exact fin63 _ p0 q0 (by omega) ⟨a, z, ha, s⟩
  refine Wp.b (bin_eql _ _ _ _ _) (Wp.on (fun hc => ?_) (fun hc => ?_))
  · refine Wp.bind (pk71 r 2 (by decide) (by decide) (by omega) b0 s) ?_
    rintro _ g3 ⟨⟨y, hy, rfl⟩, a, z, ha, s⟩
    dsimp only
    refine Wp.b (bin_add _ _ _ _ _) ?_
    rw [show (40 : Int) + (y : Int) = ((40 + y : Nat) : Int) by omega, w64 (by omega)]
    refine Wp.mks s (0 : UInt8) (40 + y) rfl rfl (by omega) (by omega) fun w i g4 o i0 F s => ?_
    refine Wp.b (s.rv 0 o rfl).bytes ?_
    replace s := s.tail
    refine Wp.b (fA_p q0) ?_
    refine Wp.sto s 1 rfl q0 (o := 4) (n := 1) rfl rfl (by show 4 + 1 ≤ 6; decide) (ds := Cmd.en ⟨c1, c2, c3, c4, ⟨(List.replicate (40 + y) 0).toArray⟩, c6⟩) rfl fun g4 F s => ?_
    exact fin63 _ p0 q0 (by omega) ⟨a, z, ha, s⟩
  exact fin63 _ p0 q0 (by omega) s
set_option maxHeartbeats 4000000 in
theorem j4_63 (r : RV h0 v code) (c : Cmd) {p q : Nat} (p0 : p ≠ 0) (q0 : q ≠ 0) (hN : N < 4611686018427385000) (b0 : b ≠ 0) (s : CurP v h0 ((q, c.en) :: (p, zc.en) :: M) b N g) :
    Wp (S63_j4 R (.ptr b 0) (.ptr p 0) (.ptr q 0) g) (CmdPost v h0 M b (N + 6)) := by
  rw [S63_j4_eq]
  obtain ⟨c1, c2, c3, c4, c5, c6⟩ := c
  have hld : AH.ld1 g (.ptr q 2) = some (.int .i64 c3) := by
    obtain ⟨a, z, ha, s⟩ := s
    exact s.ld1 1 rfl q0 2 rfl
  refine Wp.b (fA_p q0) (Wp.b hld ?_)
  refine Wp.b (bin_eql _ _ _ _ _) (Wp.on (fun hc => ?_) (fun hc => ?_))
  · refine Wp.litC s [(⟨#[49]⟩ : ByteArray), ⟨#[50]⟩, ⟨#[]⟩] rfl rfl rfl fun w i g2 o s => ?_
    refine Wp.bind (of84 r o (by decide) (by decide) (by omega) b0 s) ?_
    rintro _ g3 ⟨⟨y, rfl⟩, a, z, ha, s⟩
    dsimp only
    refine Wp.b (fA_p q0) ?_
    refine Wp.sto s 1 rfl q0 (o := 5) (n := 1) rfl rfl (by show 5 + 1 ≤ 6; decide) (ds := Cmd.en ⟨c1, c2, c3, c4, c5, y⟩) rfl fun g4 F s => ?_
    exact j6_63 r _ p0 q0 (by omega) b0 ⟨a, z, ha, s⟩
  · exact (j6_63 r _ p0 q0 (by omega) b0 s).mono fun r h q => ⟨q.1, q.2.up (by omega)⟩
set_option maxHeartbeats 4000000 in
theorem cmd63 (r : RV h0 v code) (hN : N < 4611686018427384000) (b0 : b ≠ 0) (s : CurP v h0 M b N g) :
    Wp (R 63 [.ptr b 0] g) (CmdPost v h0 M b (N + 20)) := by
  refine R63 rfl ?_
  rw [S63_eq]
  refine Wp.aloC s fun p g1 p0 s => ?_
  refine Wp.bind (pk71 r 4 (by decide) (by decide) (by omega) b0 s) ?_
  rintro _ g2 ⟨⟨x1, hx1, rfl⟩, s⟩
  refine Wp.bind (pk71 r 6 (by decide) (by decide) (by omega) b0 s) ?_
  rintro _ g3 ⟨⟨x2, hx2, rfl⟩, s⟩
  refine Wp.b (bin_add _ _ _ _ _) ?_
  refine Wp.bind (pk71 r 4 (by decide) (by decide) (by omega) b0 s) ?_
  rintro _ g4 ⟨⟨x3, hx3, rfl⟩, s⟩
  refine Wp.b (bin_add _ _ _ _ _) ?_
  refine Wp.bind (key83 r (by omega) b0 s) ?_
  rintro _ g5 ⟨⟨x4, rfl⟩, s⟩
  dsimp only
  refine Wp.b (show bldV _ _ = some (.agg (Cmd.en ⟨x1, IntKind.i64.wrap (1 + x2), IntKind.i64.wrap (1 + x3), x4, ⟨#[]⟩, ⟨#[]⟩⟩)) from rfl) ?_
  generalize IntKind.i64.wrap (1 + (x2 : Int)) = y2
  generalize IntKind.i64.wrap (1 + (x3 : Int)) = y3
  refine Wp.aloC s fun q g6 q0 s => ?_
  obtain ⟨a, z, ha, s⟩ := s
  refine Wp.sto s 1 rfl q0 (o := 0) (n := 6) (vs := Cmd.en ⟨x1, y2, y3, x4, ⟨#[]⟩, ⟨#[]⟩⟩) rfl rfl (by show 0 + 6 ≤ 6; decide) (ds := Cmd.en ⟨x1, y2, y3, x4, ⟨#[]⟩, ⟨#[]⟩⟩) rfl fun g7 F s => ?_
  have ld : AH.ld1 g7 (.ptr q 2) = some (.int .i64 y3) := s.ld1 1 rfl q0 2 rfl
  have s : CurP v h0 ((q, Cmd.en ⟨x1, y2, y3, x4, ⟨#[]⟩, ⟨#[]⟩⟩) :: (p, zc.en) :: M) b (N + 10) g7 := ⟨a, z, by omega, s⟩
  have br : Wp (bsK 1 4 g7 [(V.str ⟨#[]⟩), (V.str ⟨#[]⟩), (V.str ⟨#[]⟩), (V.str ⟨#[]⟩)] [(0, 1, (V.str ⟨#[49]⟩)), (1, 1, (V.str ⟨#[50]⟩)), (2, 1, (V.str ⟨#[51]⟩)), (3, 1, (V.str ⟨#[]⟩))] fun p16 h17 => (R 84 [.ptr b 0, p16] h17).bind fun r18 =>
      (fA 4 (.ptr q 0)).bind fun v19 => stN 1 r18.2 v19 r18.1 fun h20 => S63_j4 R (.ptr b 0) (.ptr p 0) (.ptr q 0) h20) (CmdPost v h0 M b (N + 20)) := by
    refine Wp.litC s [(⟨#[49]⟩ : ByteArray), ⟨#[50]⟩, ⟨#[51]⟩, ⟨#[]⟩] rfl rfl rfl fun w i g2 o s => ?_
    refine Wp.bind (of84 r o (by decide) (by decide) (by omega) b0 s) ?_
    rintro _ g3 ⟨⟨y, rfl⟩, a, z, ha, s⟩
    dsimp only
    refine Wp.b (fA_p q0) ?_
    refine Wp.sto s 1 rfl q0 (o := 4) (n := 1) rfl rfl (by show 4 + 1 ≤ 6; decide) (ds := Cmd.en ⟨x1, y2, y3, x4, y, ⟨#[]⟩⟩) rfl fun g4 F s => ?_
    exact (j4_63 r _ p0 q0 (by omega) b0 ⟨a, z, ha, s⟩).mono fun r h q => ⟨q.1, q.2.up (by omega)⟩
  refine Wp.b (fA_p q0) (Wp.b ld (Wp.b (bin_eql _ _ _ _ _) (Wp.sp (fun hc => ?_) (fun hc => ?_))))
  · exact br
  · refine Wp.b (fA_p q0) (Wp.b ld (Wp.b (bin_eql _ _ _ _ _) (Wp.on (fun hc => ?_) (fun hc => ?_))))
    · exact br
    · exact (j4_63 r _ p0 q0 (by omega) b0 s).mono fun r h q => ⟨q.1, q.2.up (by omega)⟩
end
end Go.Proofs.Ythoabddfionmoaa.AH
namespace Go.Proofs.Ythoabddfionmoaa.AH
open Go Go.RowKit
section
variable {code : List UInt8} {v : V} {h0 : H} {M : List (Nat × List V)} {b : Nat}
def CmdsPost (v : V) (h0 : H) (M : List (Nat × List V)) (b : Nat) : V → H → Prop := fun r g' => ∃ (l : List Cmd) (i N : Nat), l.length ≤ 1000 ∧ OV r l i ∧ CurP v h0 ((i, flat l) :: M) b N g'
theorem dec64 (n : Nat) (hn : n < 4611686018427387904) : IntKind.i64.wrap (((n + 1 : Nat) : Int) - 1) = (n : Int) := by
  rw [show ((n + 1 : Nat) : Int) - 1 = ((n : Nat) : Int) by omega, w64 (by omega)]
set_option maxHeartbeats 4000000 in
theorem j12_48 (r : RV h0 v code) (b0 : b ≠ 0) (n : Nat) (hn : n ≤ 200)
    (ih : ∀ (N : Nat) (l : List Cmd) (ints : List Int) (x3 x4 : V) (i j : Nat) (g : H), l.length + 2 * n ≤ 1000 → N + 40 * n ≤ 1000000000 → ints.length = 4 → OV x3 l i → OV x4 ints j → CurP v h0 ((i, flat l) :: (j, flat ints) :: M) b N g →
      Wp (S48_l6 R (.ptr b 0) x3 x4 (.int .i64 n) g) (CmdsPost v h0 M b))
    (N : Nat) (l : List Cmd) (ints : List Int) (x3 x4 : V) (i j q : Nat) (g : H) (q0 : q ≠ 0) (hl : l.length + 2 * n + 2 ≤ 1000) (hN : N + 40 * n + 10 ≤ 1000000000) (hi : ints.length = 4) (o3 : OV x3 l i) (o4 : OV x4 ints j) (c : Cmd)
    (s : CurP v h0 ((q, c.en) :: (i, flat l) :: (j, flat ints) :: M) b N g) :
    Wp (S48_j12 R (.ptr b 0) x3 x4 (.int .i64 (n + 1 : Nat)) (.ptr q 0) g) (CmdsPost v h0 M b) := by
  rw [S48_j12_eq]
  obtain ⟨a, z, ha, s⟩ := s
  refine Wp.b (s.ldn 1 rfl q0 0 6 (Nat.le_refl 6) (ds := c.en) rfl) ?_
  refine Wp.lit s [c] rfl rfl rfl fun w k g1 ow k0 F s => ?_
  refine Wp.app s 3 o3 rfl (s.rv 0 ow rfl) rfl (by simp; omega) (by simp; omega) fun x3 i g2 o3 F s => ?_
  simp only [List.set_cons_succ, List.set_cons_zero] at s
  have s : CurP v h0 ((i, flat (l ++ [c])) :: (j, flat ints) :: M) b N g2 := ⟨a, z, ha, s.tail.sub (((List.Sublist.refl _).cons _).cons_cons _)⟩
  dsimp only
  refine Wp.bind (one72 r 6 (by decide) (by decide) (by omega) b0 s) ?_
  rintro _ g3 ⟨⟨x, rfl⟩, s⟩
  dsimp only
  have hl2 : (l ++ [c]).length = l.length + 1 := by simp
  have sk : ∀ (g : H) (N : Nat), N + 40 * n ≤ 1000000000 → CurP v h0 ((i, flat (l ++ [c])) :: (j, flat ints) :: M) b N g → Wp ((binV Try.prog .sub 3 (.int .i64 (n + 1 : Nat)) (.int .i64 1)).bind fun v45 => S48_l6 R (.ptr b 0) x3 x4 v45 g) (CmdsPost v h0 M b) := by
    intro g N hN s
    refine Wp.b (bin_sub _ _ _ _ _) ?_
    rw [dec64 n (by omega)]
    exact ih N (l ++ [c]) ints x3 x4 i j g (by omega) hN hi o3 o4 s
  refine Wp.sp (fun hc => ?_) (fun hc => ?_)
  · refine Wp.b o3.len (Wp.b (bin_gtr _ _ _ _ _) (Wp.on (fun hd => ?_) (fun hd => ?_)))
    · refine Wp.b o3.len ?_
      refine Wp.bind (pk71 r (l ++ [c]).length (by omega) (by omega) (by omega) b0 s) ?_
      rintro _ g4 ⟨⟨y, hy, rfl⟩, a, z, ha, s⟩
      dsimp only
      obtain ⟨p, o, p0, pl, e1, e2⟩ := (s.rv 1 o3 rfl).at hy
      refine Wp.b e1 (Wp.b (bload_ldn e2 0 6 (Nat.le_refl 6)) ?_)
      have e3 : List.take 6 (List.drop 0 (Enc.enc (l ++ [c])[y])) = ((l ++ [c])[y]).en := rfl
      rw [e3]
      refine Wp.lit s [(l ++ [c])[y]] rfl rfl rfl fun w k g5 ow k0 F s => ?_
      refine Wp.app s 2 o3 rfl (s.rv 0 ow rfl) rfl (by simp; omega) (by simp; omega) fun x3 i g6 o3 F s => ?_
      simp only [List.set_cons_succ, List.set_cons_zero] at s
      dsimp only
      refine Wp.b (bin_sub _ _ _ _ _) ?_
      rw [dec64 n (by omega)]
      exact ih _ _ ints x3 x4 i j g6 (by simp; omega) (by omega) hi o3 o4 ⟨a, z, ha, s.tail⟩
    · exact sk g3 _ (by omega) s
  · exact sk g3 _ (by omega) s
set_option maxHeartbeats 4000000 in
theorem l48 (r : RV h0 v code) (b0 : b ≠ 0) : ∀ (n : Nat), n ≤ 200 → ∀ (N : Nat) (l : List Cmd) (ints : List Int) (x3 x4 : V) (i j : Nat) (g : H), l.length + 2 * n ≤ 1000 → N + 40 * n ≤ 1000000000 → ints.length = 4 → OV x3 l i → OV x4 ints j → CurP v h0 ((i, flat l) :: (j, flat ints) :: M) b N g →
    Wp (S48_l6 R (.ptr b 0) x3 x4 (.int .i64 n) g) (CmdsPost v h0 M b)
  | 0, hn, N, l, ints, x3, x4, i, j, g, hl, hN, hi, o3, o4, s => by
    rw [S48_l6_eq]
    refine Wp.b (bin_gtr _ _ _ _ _) (Wp.onF rfl ?_)
    exact Wp.r1 rfl o3.nt ⟨l, i, N, by omega, o3, s.sub (((List.Sublist.refl _).cons _).cons_cons _)⟩
  | n + 1, hn, N, l, ints, x3, x4, i, j, g, hl, hN, hi, o3, o4, s => by
    rw [S48_l6_eq]
    have ih := l48 r b0 n (by omega)
    have jj := j12_48 (M := M) r b0 n (by omega) ih
    refine Wp.b (bin_gtr _ _ _ _ _) (Wp.onT (by simp) ?_)
    refine Wp.bind (cmd63 r (by omega) b0 s) ?_
    rintro _ g1 ⟨⟨c, rfl⟩, s⟩
    dsimp only
    refine Wp.aloC s fun q g2 q0 s => ?_
    obtain ⟨a, z, ha, s⟩ := s
    refine Wp.sto s 1 rfl q0 (o := 0) (n := 6) (vs := c.en) rfl rfl (by show 0 + 6 ≤ 6; decide) (ds := c.en) rfl fun g3 F s => ?_
    simp only [List.set_cons_succ, List.set_cons_zero] at s
    obtain ⟨c1, c2, c3, c4, c5, c6⟩ := c
    refine Wp.b (fA_p q0) (Wp.b (s.ld1 1 rfl q0 0 rfl) ?_)
    refine Wp.b (c67 c1 0 3 g3) ?_
    dsimp only
    refine Wp.sp (fun hc => ?_) (fun hc => ?_)
    · have hc : 0 ≤ c1 ∧ c1 ≤ 3 := by simpa using hc
      obtain ⟨k, rfl⟩ := Int.eq_ofNat_of_zero_le hc.1
      have hk : k < ints.length := by omega
      refine Wp.bind (one72 r 5 (by decide) (by decide) (by omega) b0 ⟨a, z, ha, s⟩) ?_
      rintro _ g4 ⟨⟨x, rfl⟩, s⟩
      dsimp only
      refine Wp.b (not_bool _) (Wp.on (fun hd => ?_) (fun hd => ?_))
      · obtain ⟨a, z, ha, s⟩ := s
        refine Wp.b (fA_p q0) (Wp.b (s.ld1 1 rfl q0 0 rfl) ?_)
        refine Wp.rd (s.rv 3 o4 rfl) rfl hk fun p o p0 pl e => ?_
        refine Wp.b (bload_ld1 e 0 rfl) ?_
        refine Wp.b (bin_add _ _ _ _ _) ?_
        refine Wp.oa o4 rfl hk fun j0 => ?_
        refine Wp.els s 3 o4 rfl hk (IntKind.i64.wrap (ints[k] + 1)) 0 (off := k * Enc.sz Int) (n := 1) rfl rfl (by decide) (by omega) rfl fun g5 F o4 s => ?_
        simp only [List.set_cons_succ, List.set_cons_zero] at s
        refine Wp.b (fA_p q0) (Wp.b (s.ld1 1 rfl q0 0 rfl) ?_)
        have hk2 : k < (ints.set k (IntKind.i64.wrap (ints[k] + 1))).length := by simpa using hk
        refine Wp.rd (s.rv 3 o4 rfl) rfl hk2 fun p o p0 pl e => ?_
        refine Wp.b (bload_ld1 e 0 rfl) ?_
        refine Wp.b (fA_p q0) ?_
        refine Wp.sto s 1 rfl q0 (o := 1) (n := 1) rfl rfl (by show 1 + 1 ≤ 6; decide) (ds := Cmd.en ⟨(k : Int), (ints.set k (IntKind.i64.wrap (ints[k] + 1)))[k], c3, c4, c5, c6⟩) rfl fun g6 F s => ?_
        simp only [List.set_cons_succ, List.set_cons_zero] at s
        exact jj _ l _ x3 x4 i j q g6 q0 (by omega) (by omega) (by simpa using hi) o3 o4 _ ⟨a, z, ha, s⟩
      · exact jj _ l ints x3 x4 i j q g4 q0 (by omega) (by omega) hi o3 o4 _ s
    · exact jj _ l ints x3 x4 i j q g3 q0 (by omega) (by omega) hi o3 o4 _ ⟨a, z, ha, s⟩
set_option maxHeartbeats 4000000 in
theorem cmds48 {g : H} {N : Nat} (r : RV h0 v code) (hN : N ≤ 1000000) (b0 : b ≠ 0) (s : CurP v h0 M b N g) :
    Wp (R 48 [.ptr b 0] g) (CmdsPost v h0 M b) := by
  refine R48 rfl ?_
  rw [S48_eq]
  obtain ⟨a, z, ha, s⟩ := s
  refine Wp.mks s (0 : Int) 4 rfl rfl (by omega) (by omega) fun x4 j g1 o4 j0 F s => ?_
  have s : CurP v h0 ((j, flat (List.replicate 4 (0 : Int))) :: M) b N g1 := ⟨a, z, ha, s.back⟩
  refine Wp.bind (pk71 r 16 (by decide) (by decide) (by omega) b0 s) ?_
  rintro _ g2 ⟨⟨n, hn, rfl⟩, s⟩
  refine Wp.bind (one72 r 20 (by decide) (by decide) (by omega) b0 s) ?_
  rintro _ g3 ⟨⟨x, rfl⟩, s⟩
  dsimp only
  refine Wp.on (fun hc => ?_) (fun hc => ?_)
  · refine Wp.bind (pk71 r 8 (by decide) (by decide) (by omega) b0 s) ?_
    rintro _ g4 ⟨⟨m, hm, rfl⟩, a, z, ha, s⟩
    dsimp only
    refine Wp.b (bin_add _ _ _ _ _) ?_
    rw [show (95 : Int) + (m : Int) = ((95 + m : Nat) : Int) by omega, w64 (by omega), S48_j6_eq]
    exact l48 r b0 (95 + m) (by omega) _ [] _ (.sl 0 0 0 0) x4 0 j g4 (by simp; omega) (by omega) rfl OV.nil o4 ⟨a, z, ha, s.nil1⟩
  · obtain ⟨a, z, ha, s⟩ := s
    rw [S48_j6_eq]
    exact l48 r b0 n (by omega) _ [] _ (.sl 0 0 0 0) x4 0 j g3 (by simp; omega) (by omega) rfl OV.nil o4 ⟨a, z, ha, s.nil1⟩
end
/-- A drawn command. -/
theorem draw38 {code : List UInt8} {v : V} (h : H) (hk : Hok h) (r : RV h v code) : Wp (R 38 [v] h) fun r h' => (∃ c : Cmd, r = .agg c.en) ∧ Fr [] h h' := by
  refine R38 rfl ?_
  rw [S38_eq]
  refine Wp.alo (Mm.base hk) fun p g1 p0 F s => ?_
  refine Wp.b (show bldV _ _ = some (.agg [v, .int .i64 0, .int .u64 0]) by obtain ⟨z, id, off, rfl, _⟩ := r; rfl) ?_
  refine Wp.box s rfl fun b g2 b0 F s => ?_
  refine Wp.bind (cmd63 (N := 0) r (by decide) b0 ⟨0, 0, Nat.le_refl _, s⟩) ?_
  rintro _ g3 ⟨⟨c, rfl⟩, a, z, ha, s⟩
  refine Wp.sto s 1 rfl p0 (o := 0) (n := 6) (vs := c.en) rfl rfl (by show 0 + 6 ≤ 6; decide) (ds := c.en) rfl fun g7 F s => ?_
  exact Wp.r1 (s.ldn 1 rfl p0 0 6 (Nat.le_refl 6) rfl) rfl ⟨⟨c, rfl⟩, s.F⟩
theorem draw15 {code : List UInt8} {v : V} (h : H) (hk : Hok h) (r : RV h v code) : Wp (R 15 [v] h) fun r h' => (∃ c : Cmd, r = .agg c.en) ∧ Fr [] h h' := by
  refine R15 rfl ?_
  rw [S15_eq]
  refine Wp.alo (Mm.base hk) fun p g1 p0 F s => ?_
  refine Wp.bind (draw38 g1 s.k (s.bor r)) ?_
  rintro _ g2 ⟨⟨c, rfl⟩, F⟩
  replace s := s.fr0 F
  refine Wp.sto s 0 rfl p0 (o := 0) (n := 6) (vs := c.en) rfl rfl (by show 0 + 6 ≤ 6; decide) (ds := c.en) rfl fun g7 F s => ?_
  exact Wp.r1 (s.ldn 0 rfl p0 0 6 (Nat.le_refl 6) rfl) rfl ⟨⟨c, rfl⟩, s.F⟩
/-- A drawn list of commands. -/
theorem draw19 {code : List UInt8} {v : V} (h : H) (hk : Hok h) (r : RV h v code) : Wp (R 19 [v] h) fun r h' => ∃ (l : List Cmd) (i : Nat), l.length ≤ 1000 ∧ OV r l i ∧ Mm h h' [(i, flat l)] := by
  refine R19 rfl ?_
  rw [S19_eq]
  refine Wp.b (show bldV _ _ = some (.agg [v, .int .i64 0, .int .u64 0]) by obtain ⟨z, id, off, rfl, _⟩ := r; rfl) ?_
  refine Wp.box (Mm.base hk) rfl fun b g2 b0 F s => ?_
  refine Wp.bind (cmds48 (N := 0) r (by decide) b0 ⟨0, 0, Nat.le_refl _, s⟩) ?_
  rintro w g3 ⟨l, i, N, hl, o, a, z, ha, s⟩
  exact Wp.r1 rfl o.nt ⟨l, i, hl, o, s.tail⟩
end Go.Proofs.Ythoabddfionmoaa.AH
namespace Go.Proofs.Ythoabddfionmoaa.AH
open Go Go.RowKit
theorem rpEq (a : Int) (b : ByteArray) (c : Int) (d : ByteArray) : (eqV Try.prog Op.maxDepth 52 (.agg [.int .i64 a, .str b]) (.agg [.int .i64 c, .str d])) = if (a == c) = true then (if (b == d) = true then some true else some false) else some false := by kernel_rfl
theorem rpNe (p q : Rp) : binV Try.prog .neq 52 (.agg p.en) (.agg q.en) = some (.bool (!decide (p = q))) := by
  obtain ⟨a, b⟩ := p
  obtain ⟨c, d⟩ := q
  have e : binV Try.prog .neq 52 (.agg (Rp.en ⟨a, b⟩)) (.agg (Rp.en ⟨c, d⟩)) = if Try.prog.eqGuardType Try.prog.depth 52 then none else (eqV Try.prog Op.maxDepth 52 (.agg [.int .i64 a, .str b]) (.agg [.int .i64 c, .str d])).map fun b => V.bool !b := rfl
  rw [e, show Try.prog.eqGuardType Try.prog.depth 52 = false by kernel_rfl, rpEq, bytes_beq]
  by_cases h1 : a = c <;> by_cases h2 : b = d <;> simp [h1, h2]
theorem seEq (i l a : Int) (b : ByteArray) (j m c : Int) (d : ByteArray) : (eqV Try.prog Op.maxDepth 86 (.agg [.int .i64 i, .int .i64 l, .int .i64 a, .str b]) (.agg [.int .i64 j, .int .i64 m, .int .i64 c, .str d])) =
    if (i == j) = true then (if (l == m) = true then (if (a == c) = true then (if (b == d) = true then some true else some false) else some false).bind fun x => if x = true then some true else some false else some false) else some false := by kernel_rfl
theorem seNe (p q : Se) : binV Try.prog .neq 86 (.agg p.en) (.agg q.en) = some (.bool (!decide (p = q))) := by
  obtain ⟨i, l, a, b⟩ := p
  obtain ⟨j, m, c, d⟩ := q
  have e : binV Try.prog .neq 86 (.agg (Se.en ⟨i, l, a, b⟩)) (.agg (Se.en ⟨j, m, c, d⟩)) = if Try.prog.eqGuardType Try.prog.depth 86 then none else (eqV Try.prog Op.maxDepth 86 (.agg [.int .i64 i, .int .i64 l, .int .i64 a, .str b]) (.agg [.int .i64 j, .int .i64 m, .int .i64 c, .str d])).map fun b => V.bool !b := rfl
  rw [e, show Try.prog.eqGuardType Try.prog.depth 86 = false by kernel_rfl, seEq, bytes_beq]
  by_cases h1 : i = j <;> by_cases h2 : l = m <;> by_cases h3 : a = c <;> by_cases h4 : b = d <;> simp [h1, h2, h3, h4]
theorem cmEq (s n o : Int) (k v d : ByteArray) (s' n' o' : Int) (k' v' d' : ByteArray) : (eqV Try.prog Op.maxDepth 36 (.agg [.int .i64 s, .int .i64 n, .int .i64 o, .str k, .str v, .str d]) (.agg [.int .i64 s', .int .i64 n', .int .i64 o', .str k', .str v', .str d'])) =
    if (s == s') = true then (if (n == n') = true then (if (o == o') = true then (if (k == k') = true then (if (v == v') = true then (if (d == d') = true then some true else some false) else some false) else some false) else some false) else some false) else some false := by kernel_rfl
theorem cmNe (c : Cmd) : binV Try.prog .neq 36 (.agg c.en) (.agg c.en) = some (.bool false) := by
  obtain ⟨s, n, o, k, v, d⟩ := c
  have e : binV Try.prog .neq 36 (.agg (Cmd.en ⟨s, n, o, k, v, d⟩)) (.agg (Cmd.en ⟨s, n, o, k, v, d⟩)) = if Try.prog.eqGuardType Try.prog.depth 36 then none else (eqV Try.prog Op.maxDepth 36 (.agg [.int .i64 s, .int .i64 n, .int .i64 o, .str k, .str v, .str d]) (.agg [.int .i64 s, .int .i64 n, .int .i64 o, .str k, .str v, .str d])).map fun b => V.bool !b := rfl
  rw [e, show Try.prog.eqGuardType Try.prog.depth 36 = false by kernel_rfl, cmEq]
  simp [bytes_beq]
theorem l23 (v w : V) : ∀ (B B' A A' : List Pr), A.length = A'.length → B.length = B'.length → A.length + B.length ≤ 4611686018427387904 → ∀ h, RV h v (A ++ B) → RV h w (A' ++ B') →
    Wp (S23_l4 R v w (.int .i64 (A.length + B.length : Nat)) (.int .i64 A.length) h) fun r h' => r = .bool (decide (B = B')) ∧ h' = h
  | [], [], A, A', ha, hb, hn, h, r, r' => by
    rw [S23_l4_eq]
    exact Wp.b (bin_lss _ _ _ _ _) (Wp.onF (by simp) (Wp.r1 rfl rfl ⟨by simp, rfl⟩))
  | x :: B, y :: B', A, A', ha, hb, hn, h, r, r' => by
    rw [S23_l4_eq]
    obtain ⟨b, o, b0, bl, e1, e2⟩ := r.mid
    obtain ⟨c, p, c0, cl, f1, f2⟩ := r'.mid
    rw [← ha] at f1
    simp only [List.length_cons] at hn hb
    refine Wp.b (bin_lss _ _ _ _ _) (Wp.onT (by simp; omega) ?_)
    have g1 := bload_ldn e2 0 2 (Nat.le_refl _)
    have g2 := bload_ldn f2 0 2 (Nat.le_refl _)
    refine Wp.b e1 (Wp.b g1 (Wp.b f1 (Wp.b g2 ?_)))
    refine Wp.b (prNe x y) (Wp.on (fun hc => ?_) (fun hc => ?_))
    · have : x ≠ y := by simpa using hc
      exact Wp.r1 rfl rfl ⟨by simp [this], rfl⟩
    · have : x = y := by simpa using hc
      subst this
      refine Wp.b (bin_add _ _ _ _ _) ?_
      rw [inc64 (by omega)]
      have i1 := l23 v w B B' (A ++ [x]) (A' ++ [x]) (by simp [ha]) (by omega) (by simp; omega) h (by simpa using r) (by simpa using r')
      have e : A.length + (x :: B).length = (A ++ [x]).length + B.length := by simp; omega
      rw [e]
      rw [List.length_append, List.length_singleton] at i1 ⊢
      exact i1.mono fun r h'' ⟨q, F'⟩ => ⟨by rw [q]; simp, F'⟩
  | [], y :: B', A, A', ha, hb, hn, h, r, r' => by simp at hb
  | x :: B, [], A, A', ha, hb, hn, h, r, r' => by simp at hb
theorem same23 (l m : List Pr) (hn : l.length ≤ 4611686018427387904) (v w : V) (h : H) (r : RV h v l) (r' : RV h w m) : R 23 [v, w] h = some (.bool (decide (l = m)), h) := by
  refine ret_of (R23 rfl ?_)
  rw [S23_eq]
  refine Wp.b r.len (Wp.b r'.len (Wp.b (bin_neq _ _ _ _ _) (Wp.on (fun hc => ?_) (fun hc => ?_))))
  · have : l ≠ m := by rintro rfl; simp at hc
    exact Wp.r1 rfl rfl ⟨by simp [this], rfl⟩
  · have hl : l.length = m.length := by simp at hc; omega
    refine Wp.b r.len ?_
    have := l23 v w l m [] [] rfl hl (by simpa using hn) h (by simpa using r) (by simpa using r')
    simpa using this
theorem l22 {h0 : H} {v v1 w w1 : V} (p q : Nat) (p0 : p ≠ 0) (q0 : q ≠ 0) : ∀ (B A : List Se), A.length + B.length ≤ 4611686018427387904 → ∀ h, Mm h0 h [(q, [w1, w]), (p, [v1, v])] → RV h v (A ++ B) → RV h w (A ++ B) →
    Wp (S22_l4 R (.ptr p 0) (.ptr q 0) (.int .i64 (A.length + B.length : Nat)) (.int .i64 A.length) h) fun r h' => r = .bool true ∧ h' = h
  | [], A, hn, h, s, r, r' => by
    rw [S22_l4_eq]
    exact Wp.b (bin_lss _ _ _ _ _) (Wp.onF (by simp) (Wp.r1 rfl rfl ⟨rfl, rfl⟩))
  | x :: B, A, hn, h, s, r, r' => by
    rw [S22_l4_eq]
    obtain ⟨b, o, b0, bl, e1, e2⟩ := r.mid
    obtain ⟨c, p, c0, cl, f1, f2⟩ := r'.mid
    simp only [List.length_cons] at hn
    refine Wp.b (bin_lss _ _ _ _ _) (Wp.onT (by simp; omega) ?_)
    have g1 := bload_ldn e2 0 4 (Nat.le_refl _)
    have g2 := bload_ldn f2 0 4 (Nat.le_refl _)
    repeat (first
     | ((with_reducible refine Wp.gb ?_); refine Wp.b (by first | (with_reducible first | exact fA_p (by assumption) | exact fA_o (by assumption) | exact nilC_ptr (by assumption) | exact bin_lss .. | exact bin_leq .. | exact bin_gtr .. | exact bin_geq .. | exact bin_eql .. | exact bin_neq .. | exact bin_add .. | exact bin_sub .. | exact bin_mul .. | exact str_eql .. | exact str_neq .. | exact str_lss .. | exact str_gtr .. | exact str_geq .. | exact str_leq .. | exact not_bool .. | exact lenS_str .. | assumption) | exact (show extV (.tup _) _ = some _ from rfl) | exact s.ld1 0 rfl (by assumption) _ rfl | exact s.ld1 1 rfl (by assumption) _ rfl | exact s.ld1 2 rfl (by assumption) _ rfl | exact s.ld1 3 rfl (by assumption) _ rfl | exact s.ld1 4 rfl (by assumption) _ rfl | exact s.ld1 5 rfl (by assumption) _ rfl | exact s.ld1 6 rfl (by assumption) _ rfl | exact s.ld1 7 rfl (by assumption) _ rfl | exact s.ld1 8 rfl (by assumption) _ rfl | exact s.ld1 9 rfl (by assumption) _ rfl | exact s.ld1 10 rfl (by assumption) _ rfl | exact s.ld1 11 rfl (by assumption) _ rfl | exact bload_ld1 (by assumption) _ rfl | exact bload_ldn (by assumption) _ _ (Nat.le_refl _) | exact (show bldV _ _ = some _ from rfl) | ((first | apply s.ldn 0 rfl | apply s.ldn 1 rfl | apply s.ldn 2 rfl | apply s.ldn 3 rfl | apply s.ldn 4 rfl | apply s.ldn 5 rfl | apply s.ldn 6 rfl | apply s.ldn 7 rfl | apply s.ldn 8 rfl | apply s.ldn 9 rfl | apply s.ldn 10 rfl | apply s.ldn 11 rfl); (· assumption); (· first | exact Nat.le_refl _ | decide | (simp; done)); (· rfl))) ?_)
     | (with_reducible first | refine Wp.onT (by assumption) ?_ | refine Wp.onF (by assumption) ?_ | refine Wp.spT (by assumption) ?_ | refine Wp.spF (by assumption) ?_)
     | ((with_reducible refine Wp.gbx ?_); refine Wp.box s rfl fun _p _g _p0 _F s => ?_)
     | ((with_reducible refine Wp.gal ?_); refine Wp.alo s fun _p _g _p0 _F s => ?_))
    refine Wp.b e1 (Wp.b g1 ?_)
    repeat (first
     | ((with_reducible refine Wp.gb ?_); refine Wp.b (by first | (with_reducible first | exact fA_p (by assumption) | exact fA_o (by assumption) | exact nilC_ptr (by assumption) | exact bin_lss .. | exact bin_leq .. | exact bin_gtr .. | exact bin_geq .. | exact bin_eql .. | exact bin_neq .. | exact bin_add .. | exact bin_sub .. | exact bin_mul .. | exact str_eql .. | exact str_neq .. | exact str_lss .. | exact str_gtr .. | exact str_geq .. | exact str_leq .. | exact not_bool .. | exact lenS_str .. | assumption) | exact (show extV (.tup _) _ = some _ from rfl) | exact s.ld1 0 rfl (by assumption) _ rfl | exact s.ld1 1 rfl (by assumption) _ rfl | exact s.ld1 2 rfl (by assumption) _ rfl | exact s.ld1 3 rfl (by assumption) _ rfl | exact s.ld1 4 rfl (by assumption) _ rfl | exact s.ld1 5 rfl (by assumption) _ rfl | exact s.ld1 6 rfl (by assumption) _ rfl | exact s.ld1 7 rfl (by assumption) _ rfl | exact s.ld1 8 rfl (by assumption) _ rfl | exact s.ld1 9 rfl (by assumption) _ rfl | exact s.ld1 10 rfl (by assumption) _ rfl | exact s.ld1 11 rfl (by assumption) _ rfl | exact bload_ld1 (by assumption) _ rfl | exact bload_ldn (by assumption) _ _ (Nat.le_refl _) | exact (show bldV _ _ = some _ from rfl) | ((first | apply s.ldn 0 rfl | apply s.ldn 1 rfl | apply s.ldn 2 rfl | apply s.ldn 3 rfl | apply s.ldn 4 rfl | apply s.ldn 5 rfl | apply s.ldn 6 rfl | apply s.ldn 7 rfl | apply s.ldn 8 rfl | apply s.ldn 9 rfl | apply s.ldn 10 rfl | apply s.ldn 11 rfl); (· assumption); (· first | exact Nat.le_refl _ | decide | (simp; done)); (· rfl))) ?_)
     | (with_reducible first | refine Wp.onT (by assumption) ?_ | refine Wp.onF (by assumption) ?_ | refine Wp.spT (by assumption) ?_ | refine Wp.spF (by assumption) ?_)
     | ((with_reducible refine Wp.gbx ?_); refine Wp.box s rfl fun _p _g _p0 _F s => ?_)
     | ((with_reducible refine Wp.gal ?_); refine Wp.alo s fun _p _g _p0 _F s => ?_))
    refine Wp.b f1 (Wp.b g2 ?_)
    refine Wp.b (seNe x x) (Wp.onF (by simp) ?_)
    refine Wp.b (bin_add _ _ _ _ _) ?_
    rw [inc64 (by omega)]
    have i1 := l22 _ q p0 q0 B (A ++ [x]) (by simp; omega) h s (by simpa using r) (by simpa using r')
    have e : A.length + (x :: B).length = (A ++ [x]).length + B.length := by simp; omega
    rw [e]
    rw [List.length_append, List.length_singleton] at i1 ⊢
    exact i1
theorem same22 (a : Kv) (h1 : a.cells.length ≤ 1000) (h2 : a.sess.length ≤ 1000) (v1 v2 w1 w2 : V) (h : H) (hk : Hok h) (r1 : RV h v1 a.cells) (r2 : RV h v2 a.sess) (r3 : RV h w1 a.cells) (r4 : RV h w2 a.sess) :
    Wp (R 22 [.agg [v1, v2], .agg [w1, w2]] h) fun r h' => r = .bool true ∧ Fr [] h h' := by
  refine R22 rfl ?_
  rw [S22_eq]
  have s := Mm.base hk
  repeat (first
   | ((with_reducible refine Wp.gb ?_); refine Wp.b (by first | (with_reducible first | exact fA_p (by assumption) | exact fA_o (by assumption) | exact nilC_ptr (by assumption) | exact bin_lss .. | exact bin_leq .. | exact bin_gtr .. | exact bin_geq .. | exact bin_eql .. | exact bin_neq .. | exact bin_add .. | exact bin_sub .. | exact bin_mul .. | exact str_eql .. | exact str_neq .. | exact str_lss .. | exact str_gtr .. | exact str_geq .. | exact str_leq .. | exact not_bool .. | exact lenS_str .. | assumption) | exact (show extV (.tup _) _ = some _ from rfl) | exact s.ld1 0 rfl (by assumption) _ rfl | exact s.ld1 1 rfl (by assumption) _ rfl | exact s.ld1 2 rfl (by assumption) _ rfl | exact s.ld1 3 rfl (by assumption) _ rfl | exact s.ld1 4 rfl (by assumption) _ rfl | exact s.ld1 5 rfl (by assumption) _ rfl | exact s.ld1 6 rfl (by assumption) _ rfl | exact s.ld1 7 rfl (by assumption) _ rfl | exact s.ld1 8 rfl (by assumption) _ rfl | exact s.ld1 9 rfl (by assumption) _ rfl | exact s.ld1 10 rfl (by assumption) _ rfl | exact s.ld1 11 rfl (by assumption) _ rfl | exact bload_ld1 (by assumption) _ rfl | exact bload_ldn (by assumption) _ _ (Nat.le_refl _) | exact (show bldV _ _ = some _ from rfl) | ((first | apply s.ldn 0 rfl | apply s.ldn 1 rfl | apply s.ldn 2 rfl | apply s.ldn 3 rfl | apply s.ldn 4 rfl | apply s.ldn 5 rfl | apply s.ldn 6 rfl | apply s.ldn 7 rfl | apply s.ldn 8 rfl | apply s.ldn 9 rfl | apply s.ldn 10 rfl | apply s.ldn 11 rfl); (· assumption); (· first | exact Nat.le_refl _ | decide | (simp; done)); (· rfl))) ?_)
   | (with_reducible first | refine Wp.onT (by assumption) ?_ | refine Wp.onF (by assumption) ?_ | refine Wp.spT (by assumption) ?_ | refine Wp.spF (by assumption) ?_)
   | ((with_reducible refine Wp.gbx ?_); refine Wp.box s rfl fun _p _g _p0 _F s => ?_)
   | ((with_reducible refine Wp.gal ?_); refine Wp.alo s fun _p _g _p0 _F s => ?_))
  refine Wp.b (same23 a.cells a.cells (by omega) _ _ _ (s.bor r1) (s.bor r3)) ?_
  refine Wp.b (not_bool _) (Wp.spF (by simp) ?_)
  have n1 := r2.len
  have n2 := r4.len
  repeat (first
   | ((with_reducible refine Wp.gb ?_); refine Wp.b (by first | (with_reducible first | exact fA_p (by assumption) | exact fA_o (by assumption) | exact nilC_ptr (by assumption) | exact bin_lss .. | exact bin_leq .. | exact bin_gtr .. | exact bin_geq .. | exact bin_eql .. | exact bin_neq .. | exact bin_add .. | exact bin_sub .. | exact bin_mul .. | exact str_eql .. | exact str_neq .. | exact str_lss .. | exact str_gtr .. | exact str_geq .. | exact str_leq .. | exact not_bool .. | exact lenS_str .. | assumption) | exact (show extV (.tup _) _ = some _ from rfl) | exact s.ld1 0 rfl (by assumption) _ rfl | exact s.ld1 1 rfl (by assumption) _ rfl | exact s.ld1 2 rfl (by assumption) _ rfl | exact s.ld1 3 rfl (by assumption) _ rfl | exact s.ld1 4 rfl (by assumption) _ rfl | exact s.ld1 5 rfl (by assumption) _ rfl | exact s.ld1 6 rfl (by assumption) _ rfl | exact s.ld1 7 rfl (by assumption) _ rfl | exact s.ld1 8 rfl (by assumption) _ rfl | exact s.ld1 9 rfl (by assumption) _ rfl | exact s.ld1 10 rfl (by assumption) _ rfl | exact s.ld1 11 rfl (by assumption) _ rfl | exact bload_ld1 (by assumption) _ rfl | exact bload_ldn (by assumption) _ _ (Nat.le_refl _) | exact (show bldV _ _ = some _ from rfl) | ((first | apply s.ldn 0 rfl | apply s.ldn 1 rfl | apply s.ldn 2 rfl | apply s.ldn 3 rfl | apply s.ldn 4 rfl | apply s.ldn 5 rfl | apply s.ldn 6 rfl | apply s.ldn 7 rfl | apply s.ldn 8 rfl | apply s.ldn 9 rfl | apply s.ldn 10 rfl | apply s.ldn 11 rfl); (· assumption); (· first | exact Nat.le_refl _ | decide | (simp; done)); (· rfl))) ?_)
   | (with_reducible first | refine Wp.onT (by assumption) ?_ | refine Wp.onF (by assumption) ?_ | refine Wp.spT (by assumption) ?_ | refine Wp.spF (by assumption) ?_)
   | ((with_reducible refine Wp.gbx ?_); refine Wp.box s rfl fun _p _g _p0 _F s => ?_)
   | ((with_reducible refine Wp.gal ?_); refine Wp.alo s fun _p _g _p0 _F s => ?_))
  refine Wp.onF (by simp) ?_
  rw [S22_j3_eq]
  repeat (first
   | ((with_reducible refine Wp.gb ?_); refine Wp.b (by first | (with_reducible first | exact fA_p (by assumption) | exact fA_o (by assumption) | exact nilC_ptr (by assumption) | exact bin_lss .. | exact bin_leq .. | exact bin_gtr .. | exact bin_geq .. | exact bin_eql .. | exact bin_neq .. | exact bin_add .. | exact bin_sub .. | exact bin_mul .. | exact str_eql .. | exact str_neq .. | exact str_lss .. | exact str_gtr .. | exact str_geq .. | exact str_leq .. | exact not_bool .. | exact lenS_str .. | assumption) | exact (show extV (.tup _) _ = some _ from rfl) | exact s.ld1 0 rfl (by assumption) _ rfl | exact s.ld1 1 rfl (by assumption) _ rfl | exact s.ld1 2 rfl (by assumption) _ rfl | exact s.ld1 3 rfl (by assumption) _ rfl | exact s.ld1 4 rfl (by assumption) _ rfl | exact s.ld1 5 rfl (by assumption) _ rfl | exact s.ld1 6 rfl (by assumption) _ rfl | exact s.ld1 7 rfl (by assumption) _ rfl | exact s.ld1 8 rfl (by assumption) _ rfl | exact s.ld1 9 rfl (by assumption) _ rfl | exact s.ld1 10 rfl (by assumption) _ rfl | exact s.ld1 11 rfl (by assumption) _ rfl | exact bload_ld1 (by assumption) _ rfl | exact bload_ldn (by assumption) _ _ (Nat.le_refl _) | exact (show bldV _ _ = some _ from rfl) | ((first | apply s.ldn 0 rfl | apply s.ldn 1 rfl | apply s.ldn 2 rfl | apply s.ldn 3 rfl | apply s.ldn 4 rfl | apply s.ldn 5 rfl | apply s.ldn 6 rfl | apply s.ldn 7 rfl | apply s.ldn 8 rfl | apply s.ldn 9 rfl | apply s.ldn 10 rfl | apply s.ldn 11 rfl); (· assumption); (· first | exact Nat.le_refl _ | decide | (simp; done)); (· rfl))) ?_)
   | (with_reducible first | refine Wp.onT (by assumption) ?_ | refine Wp.onF (by assumption) ?_ | refine Wp.spT (by assumption) ?_ | refine Wp.spF (by assumption) ?_)
   | ((with_reducible refine Wp.gbx ?_); refine Wp.box s rfl fun _p _g _p0 _F s => ?_)
   | ((with_reducible refine Wp.gal ?_); refine Wp.alo s fun _p _g _p0 _F s => ?_))
  refine (l22 (h0 := h) _ _ (by assumption) (by assumption) a.sess [] (by simp; omega) _ s (s.bor r2) (s.bor r4)).mono ?_ |> fun t => by simpa using t
  rintro r h' ⟨rfl, rfl⟩
  exact ⟨rfl, s.F⟩
end Go.Proofs.Ythoabddfionmoaa.AH
namespace Go.Proofs.Ythoabddfionmoaa.AH
open Go Go.RowKit
/-- The blocks that a state must not lie in. -/
def Off (S : List Nat) (i : Nat) : Prop := i = 0 ∨ i ∉ S
theorem KvV.rv1 {P : Nat → Prop} {s : Kv} {h : H} {v1 v2 : V} (k : KvV P s h [v1, v2]) : RV h v1 s.cells ∧ RV h v2 s.sess := by
  obtain ⟨z1, i1, o1, z2, i2, o2, e, s1, s2, _⟩ := k
  simp only [List.cons.injEq, and_true] at e
  obtain ⟨rfl, rfl⟩ := e
  exact ⟨⟨z1, i1, o1, rfl, s1⟩, ⟨z2, i2, o2, rfl, s2⟩⟩
theorem KvV.two {P : Nat → Prop} {s : Kv} {h : H} {cs : List V} (k : KvV P s h cs) : ∃ v1 v2, cs = [v1, v2] := by
  obtain ⟨z1, i1, o1, z2, i2, o2, e, _⟩ := k; exact ⟨_, _, e⟩
theorem Sl.off {α : Type} [Enc α] {l : List α} {z i o : Nat} {h h' : H} {S T : List Nat} (s : Sl l h z i o) (F : Fr T h h') (hT : ∀ j ∈ T, j ∈ S) (p : Off S i) : Sl l h' z i o := by
  rcases p with rfl | p
  · rcases s with s | s
    · exact .inl s
    · exact absurd rfl s.1
  · exact s.fr F fun hj => p (hT _ hj)
/-- Behind a change of one of these blocks the state is there; a block that is new is none of its. -/
theorem KvV.past {S S' T : List Nat} {s : Kv} {h h' : H} {cs : List V} (k : KvV (Off S) s h cs) (ok : Hok h) (F : Fr T h h') (hT : ∀ j ∈ T, j ∈ S) (hS : ∀ j ∈ S', j ∈ S ∨ h.next ≤ j) : KvV (Off S') s h' cs := by
  obtain ⟨z1, i1, o1, z2, i2, o2, e, s1, s2, p1, p2⟩ := k
  have l1 := s1.lt ok
  have l2 := s2.lt ok
  have key : ∀ i, i < h.next → Off S i → Off S' i := fun i hi p => by
    rcases p with p | p
    · exact .inl p
    · refine .inr fun hj => ?_
      rcases hS i hj with q | q
      · exact p q
      · omega
  exact ⟨z1, i1, o1, z2, i2, o2, e, s1.off F hT p1, s2.off F hT p2, key _ l1 p1, key _ l2 p2⟩
set_option maxHeartbeats 4000000 in
theorem l21 (v : V) {h0 : H} (x2 x5 : Nat) (n2 : x2 ≠ 0) (n5 : x5 ≠ 0) : ∀ (B A : List Cmd), A.length + B.length ≤ 100 → RV h0 v (A ++ B) → ∀ (st : Kv) (out : List Rp) (g : H) (v1 v2 w y1 y2 : V) (i3 : Nat), st.ok → out.length = A.length →
    Mm h0 g [(x5, [v1, v2]), (i3, flat out), (x2, [y1, y2])] → KvV (Off [i3, x5, x2]) st g [v1, v2] → OV w out i3 →
    Wp (S21_l6 R (.ptr x2 0) (.ptr x5 0) w v (.int .i64 (A.length + B.length : Nat)) (.int .i64 A.length) g) (FoldPost h0 (foldC st B).1 (out ++ (foldC st B).2) true)
  | [], A, hn, r, st, out, g, v1, v2, w, y1, y2, i3, hs, ho, s, kv, o3 => by
    rw [S21_l6_eq]
    refine Wp.b (bin_lss _ _ _ _ _) (Wp.onF (by simp) ?_)
    repeat (first
     | ((with_reducible refine Wp.gb ?_); refine Wp.b (by first | (with_reducible first | exact fA_p (by assumption) | exact fA_o (by assumption) | exact nilC_ptr (by assumption) | exact bin_lss .. | exact bin_leq .. | exact bin_gtr .. | exact bin_geq .. | exact bin_eql .. | exact bin_neq .. | exact bin_add .. | exact bin_sub .. | exact bin_mul .. | exact str_eql .. | exact str_neq .. | exact str_lss .. | exact str_gtr .. | exact str_geq .. | exact str_leq .. | exact not_bool .. | exact lenS_str .. | assumption) | exact (show extV (.tup _) _ = some _ from rfl) | exact s.ld1 0 rfl (by assumption) _ rfl | exact s.ld1 1 rfl (by assumption) _ rfl | exact s.ld1 2 rfl (by assumption) _ rfl | exact s.ld1 3 rfl (by assumption) _ rfl | exact s.ld1 4 rfl (by assumption) _ rfl | exact s.ld1 5 rfl (by assumption) _ rfl | exact s.ld1 6 rfl (by assumption) _ rfl | exact s.ld1 7 rfl (by assumption) _ rfl | exact s.ld1 8 rfl (by assumption) _ rfl | exact s.ld1 9 rfl (by assumption) _ rfl | exact s.ld1 10 rfl (by assumption) _ rfl | exact s.ld1 11 rfl (by assumption) _ rfl | exact bload_ld1 (by assumption) _ rfl | exact bload_ldn (by assumption) _ _ (Nat.le_refl _) | exact (show bldV _ _ = some _ from rfl) | ((first | apply s.ldn 0 rfl | apply s.ldn 1 rfl | apply s.ldn 2 rfl | apply s.ldn 3 rfl | apply s.ldn 4 rfl | apply s.ldn 5 rfl | apply s.ldn 6 rfl | apply s.ldn 7 rfl | apply s.ldn 8 rfl | apply s.ldn 9 rfl | apply s.ldn 10 rfl | apply s.ldn 11 rfl); (· assumption); (· first | exact Nat.le_refl _ | decide | (simp; done)); (· rfl))) ?_)
     | (with_reducible first | refine Wp.onT (by assumption) ?_ | refine Wp.onF (by assumption) ?_ | refine Wp.spT (by assumption) ?_ | refine Wp.spF (by assumption) ?_)
     | ((with_reducible refine Wp.gbx ?_); refine Wp.box s rfl fun _p _g _p0 _F s => ?_)
     | ((with_reducible refine Wp.gal ?_); refine Wp.alo s fun _p _g _p0 _F s => ?_))
    have h1 := hs.1
    have h2 := hs.2
    refine Wp.bind (own50 st (by omega) (by omega) g s.k kv.rv1.1 kv.rv1.2) ?_
    rintro _ g2 ⟨w1, w2, i1, i2, rfl, s', o1, o2⟩
    replace s := s.call s'
    simp only [List.cons_append, List.nil_append] at s
    dsimp only
    have _c := o1.cells
    have _n := o1.nt
    have _c := o2.cells
    have _n := o2.nt
    repeat (first
     | ((with_reducible refine Wp.gb ?_); refine Wp.b (by first | (with_reducible first | exact fA_p (by assumption) | exact fA_o (by assumption) | exact nilC_ptr (by assumption) | exact bin_lss .. | exact bin_leq .. | exact bin_gtr .. | exact bin_geq .. | exact bin_eql .. | exact bin_neq .. | exact bin_add .. | exact bin_sub .. | exact bin_mul .. | exact str_eql .. | exact str_neq .. | exact str_lss .. | exact str_gtr .. | exact str_geq .. | exact str_leq .. | exact not_bool .. | exact lenS_str .. | assumption) | exact (show extV (.tup _) _ = some _ from rfl) | exact s.ld1 0 rfl (by assumption) _ rfl | exact s.ld1 1 rfl (by assumption) _ rfl | exact s.ld1 2 rfl (by assumption) _ rfl | exact s.ld1 3 rfl (by assumption) _ rfl | exact s.ld1 4 rfl (by assumption) _ rfl | exact s.ld1 5 rfl (by assumption) _ rfl | exact s.ld1 6 rfl (by assumption) _ rfl | exact s.ld1 7 rfl (by assumption) _ rfl | exact s.ld1 8 rfl (by assumption) _ rfl | exact s.ld1 9 rfl (by assumption) _ rfl | exact s.ld1 10 rfl (by assumption) _ rfl | exact s.ld1 11 rfl (by assumption) _ rfl | exact bload_ld1 (by assumption) _ rfl | exact bload_ldn (by assumption) _ _ (Nat.le_refl _) | exact (show bldV _ _ = some _ from rfl) | ((first | apply s.ldn 0 rfl | apply s.ldn 1 rfl | apply s.ldn 2 rfl | apply s.ldn 3 rfl | apply s.ldn 4 rfl | apply s.ldn 5 rfl | apply s.ldn 6 rfl | apply s.ldn 7 rfl | apply s.ldn 8 rfl | apply s.ldn 9 rfl | apply s.ldn 10 rfl | apply s.ldn 11 rfl); (· assumption); (· first | exact Nat.le_refl _ | decide | (simp; done)); (· rfl))) ?_)
     | (with_reducible first | refine Wp.onT (by assumption) ?_ | refine Wp.onF (by assumption) ?_ | refine Wp.spT (by assumption) ?_ | refine Wp.spF (by assumption) ?_)
     | ((with_reducible refine Wp.gbx ?_); refine Wp.box s rfl fun _p _g _p0 _F s => ?_)
     | ((with_reducible refine Wp.gal ?_); refine Wp.alo s fun _p _g _p0 _F s => ?_)
     | ((with_reducible refine Wp.gst ?_); (first | apply Wp.sto s 0 rfl | apply Wp.sto s 1 rfl | apply Wp.sto s 2 rfl | apply Wp.sto s 3 rfl | apply Wp.sto s 4 rfl | apply Wp.sto s 5 rfl | apply Wp.sto s 6 rfl | apply Wp.sto s 7 rfl | apply Wp.sto s 8 rfl | apply Wp.sto s 9 rfl | apply Wp.sto s 10 rfl | apply Wp.sto s 11 rfl); (· assumption); (· first | rfl | assumption); (· rfl); (· first | exact Nat.le_refl _ | decide | (simp; done)); (· rfl); intro _g _F s; simp only [List.set_cons_succ, List.set_cons_zero, List.take_succ_cons, List.take_zero, List.drop_succ_cons, List.drop_zero, List.drop_nil, List.nil_append, List.cons_append, List.append_nil, Nat.zero_add, Nat.reduceAdd] at s))
    refine Wp.r3 (s.ldn 4 rfl n2 0 2 (Nat.le_refl 2) rfl) rfl rfl rfl o3.nt rfl ⟨w1, w2, w, i1, i2, i3, rfl, ?_, o1, o2, by simpa [foldC] using o3⟩
    simp only [foldC, List.append_nil]
    exact s.sub (by repeat (first | exact List.Sublist.refl _ | apply List.Sublist.cons_cons | apply List.Sublist.cons))
  | x :: B, A, hn, r, st, out, g, v1, v2, w, y1, y2, i3, hs, ho, t, kv, o3 => by
    rw [S21_l6_eq]
    simp only [List.length_cons] at hn
    obtain ⟨b, o, b0, bl, e1, e2⟩ := (t.bor r).mid
    refine Wp.b (bin_lss _ _ _ _ _) (Wp.onT (by simp; omega) ?_)
    refine Wp.b e1 (Wp.b (bload_ldn e2 0 6 (Nat.le_refl 6)) ?_)
    have s := Mm.base t.k
    repeat (first
     | ((with_reducible refine Wp.gb ?_); refine Wp.b (by first | (with_reducible first | exact fA_p (by assumption) | exact fA_o (by assumption) | exact nilC_ptr (by assumption) | exact bin_lss .. | exact bin_leq .. | exact bin_gtr .. | exact bin_geq .. | exact bin_eql .. | exact bin_neq .. | exact bin_add .. | exact bin_sub .. | exact bin_mul .. | exact str_eql .. | exact str_neq .. | exact str_lss .. | exact str_gtr .. | exact str_geq .. | exact str_leq .. | exact not_bool .. | exact lenS_str .. | assumption) | exact (show extV (.tup _) _ = some _ from rfl) | exact s.ld1 0 rfl (by assumption) _ rfl | exact s.ld1 1 rfl (by assumption) _ rfl | exact s.ld1 2 rfl (by assumption) _ rfl | exact s.ld1 3 rfl (by assumption) _ rfl | exact s.ld1 4 rfl (by assumption) _ rfl | exact s.ld1 5 rfl (by assumption) _ rfl | exact s.ld1 6 rfl (by assumption) _ rfl | exact s.ld1 7 rfl (by assumption) _ rfl | exact s.ld1 8 rfl (by assumption) _ rfl | exact s.ld1 9 rfl (by assumption) _ rfl | exact s.ld1 10 rfl (by assumption) _ rfl | exact s.ld1 11 rfl (by assumption) _ rfl | exact bload_ld1 (by assumption) _ rfl | exact bload_ldn (by assumption) _ _ (Nat.le_refl _) | exact (show bldV _ _ = some _ from rfl) | ((first | apply s.ldn 0 rfl | apply s.ldn 1 rfl | apply s.ldn 2 rfl | apply s.ldn 3 rfl | apply s.ldn 4 rfl | apply s.ldn 5 rfl | apply s.ldn 6 rfl | apply s.ldn 7 rfl | apply s.ldn 8 rfl | apply s.ldn 9 rfl | apply s.ldn 10 rfl | apply s.ldn 11 rfl); (· assumption); (· first | exact Nat.le_refl _ | decide | (simp; done)); (· rfl))) ?_)
     | (with_reducible first | refine Wp.onT (by assumption) ?_ | refine Wp.onF (by assumption) ?_ | refine Wp.spT (by assumption) ?_ | refine Wp.spF (by assumption) ?_)
     | ((with_reducible refine Wp.gbx ?_); refine Wp.box s rfl fun _p _g _p0 _F s => ?_)
     | ((with_reducible refine Wp.gal ?_); refine Wp.alo s fun _p _g _p0 _F s => ?_)
     | ((with_reducible refine Wp.gst ?_); (first | apply Wp.sto s 0 rfl | apply Wp.sto s 1 rfl | apply Wp.sto s 2 rfl | apply Wp.sto s 3 rfl | apply Wp.sto s 4 rfl | apply Wp.sto s 5 rfl | apply Wp.sto s 6 rfl | apply Wp.sto s 7 rfl | apply Wp.sto s 8 rfl | apply Wp.sto s 9 rfl | apply Wp.sto s 10 rfl | apply Wp.sto s 11 rfl); (· assumption); (· first | rfl | assumption); (· rfl); (· first | exact Nat.le_refl _ | decide | (simp; done)); (· rfl); intro _g _F s; simp only [List.set_cons_succ, List.set_cons_zero, List.take_succ_cons, List.take_zero, List.drop_succ_cons, List.drop_zero, List.drop_nil, List.nil_append, List.cons_append, List.append_nil, Nat.zero_add, Nat.reduceAdd] at s))
    replace kv := kv.fr0 s.F
    replace t := t.call s
    simp only [List.cons_append, List.nil_append] at t
    replace s := t
    repeat (first
     | ((with_reducible refine Wp.gb ?_); refine Wp.b (by first | (with_reducible first | exact fA_p (by assumption) | exact fA_o (by assumption) | exact nilC_ptr (by assumption) | exact bin_lss .. | exact bin_leq .. | exact bin_gtr .. | exact bin_geq .. | exact bin_eql .. | exact bin_neq .. | exact bin_add .. | exact bin_sub .. | exact bin_mul .. | exact str_eql .. | exact str_neq .. | exact str_lss .. | exact str_gtr .. | exact str_geq .. | exact str_leq .. | exact not_bool .. | exact lenS_str .. | assumption) | exact (show extV (.tup _) _ = some _ from rfl) | exact s.ld1 0 rfl (by assumption) _ rfl | exact s.ld1 1 rfl (by assumption) _ rfl | exact s.ld1 2 rfl (by assumption) _ rfl | exact s.ld1 3 rfl (by assumption) _ rfl | exact s.ld1 4 rfl (by assumption) _ rfl | exact s.ld1 5 rfl (by assumption) _ rfl | exact s.ld1 6 rfl (by assumption) _ rfl | exact s.ld1 7 rfl (by assumption) _ rfl | exact s.ld1 8 rfl (by assumption) _ rfl | exact s.ld1 9 rfl (by assumption) _ rfl | exact s.ld1 10 rfl (by assumption) _ rfl | exact s.ld1 11 rfl (by assumption) _ rfl | exact bload_ld1 (by assumption) _ rfl | exact bload_ldn (by assumption) _ _ (Nat.le_refl _) | exact (show bldV _ _ = some _ from rfl) | ((first | apply s.ldn 0 rfl | apply s.ldn 1 rfl | apply s.ldn 2 rfl | apply s.ldn 3 rfl | apply s.ldn 4 rfl | apply s.ldn 5 rfl | apply s.ldn 6 rfl | apply s.ldn 7 rfl | apply s.ldn 8 rfl | apply s.ldn 9 rfl | apply s.ldn 10 rfl | apply s.ldn 11 rfl); (· assumption); (· first | exact Nat.le_refl _ | decide | (simp; done)); (· rfl))) ?_)
     | (with_reducible first | refine Wp.onT (by assumption) ?_ | refine Wp.onF (by assumption) ?_ | refine Wp.spT (by assumption) ?_ | refine Wp.spF (by assumption) ?_)
     | ((with_reducible refine Wp.gbx ?_); refine Wp.box s rfl fun _p _g _p0 _F s => ?_)
     | ((with_reducible refine Wp.gal ?_); refine Wp.alo s fun _p _g _p0 _F s => ?_))
    have i3l : i3 = 0 ∨ i3 < _ := (s.own _ (List.mem_of_getElem? (i := 2) rfl)).imp (fun q => q.1) fun q => q.2.2.1
    have x5l := (s.blk (i := 1) rfl n5).2.1
    have x2l := (s.blk (i := 3) rfl n2).2.1
    refine Wp.bind (c31 (P := Off [i3, x5, x2]) st hs x [v1, v2] _ s.k (fun i hi => by
      by_cases e : i = 0
      · exact .inl e
      · refine .inr ?_
        simp only [List.mem_cons, List.not_mem_nil, or_false, not_or]
        omega) (.inl rfl) kv) ?_
    rintro _ g3 ⟨F3, cs', rfl, kv⟩
    replace t := s.fr0 F3
    clear s
    obtain ⟨w1, w2, rfl⟩ := kv.two
    dsimp only
    have s := Mm.base t.k
    repeat (first
     | ((with_reducible refine Wp.gb ?_); refine Wp.b (by first | (with_reducible first | exact fA_p (by assumption) | exact fA_o (by assumption) | exact nilC_ptr (by assumption) | exact bin_lss .. | exact bin_leq .. | exact bin_gtr .. | exact bin_geq .. | exact bin_eql .. | exact bin_neq .. | exact bin_add .. | exact bin_sub .. | exact bin_mul .. | exact str_eql .. | exact str_neq .. | exact str_lss .. | exact str_gtr .. | exact str_geq .. | exact str_leq .. | exact not_bool .. | exact lenS_str .. | assumption) | exact (show extV (.tup _) _ = some _ from rfl) | exact s.ld1 0 rfl (by assumption) _ rfl | exact s.ld1 1 rfl (by assumption) _ rfl | exact s.ld1 2 rfl (by assumption) _ rfl | exact s.ld1 3 rfl (by assumption) _ rfl | exact s.ld1 4 rfl (by assumption) _ rfl | exact s.ld1 5 rfl (by assumption) _ rfl | exact s.ld1 6 rfl (by assumption) _ rfl | exact s.ld1 7 rfl (by assumption) _ rfl | exact s.ld1 8 rfl (by assumption) _ rfl | exact s.ld1 9 rfl (by assumption) _ rfl | exact s.ld1 10 rfl (by assumption) _ rfl | exact s.ld1 11 rfl (by assumption) _ rfl | exact bload_ld1 (by assumption) _ rfl | exact bload_ldn (by assumption) _ _ (Nat.le_refl _) | exact (show bldV _ _ = some _ from rfl) | ((first | apply s.ldn 0 rfl | apply s.ldn 1 rfl | apply s.ldn 2 rfl | apply s.ldn 3 rfl | apply s.ldn 4 rfl | apply s.ldn 5 rfl | apply s.ldn 6 rfl | apply s.ldn 7 rfl | apply s.ldn 8 rfl | apply s.ldn 9 rfl | apply s.ldn 10 rfl | apply s.ldn 11 rfl); (· assumption); (· first | exact Nat.le_refl _ | decide | (simp; done)); (· rfl))) ?_)
     | (with_reducible first | refine Wp.onT (by assumption) ?_ | refine Wp.onF (by assumption) ?_ | refine Wp.spT (by assumption) ?_ | refine Wp.spF (by assumption) ?_)
     | ((with_reducible refine Wp.gbx ?_); refine Wp.box s rfl fun _p _g _p0 _F s => ?_)
     | ((with_reducible refine Wp.gal ?_); refine Wp.alo s fun _p _g _p0 _F s => ?_)
     | ((with_reducible refine Wp.gst ?_); (first | apply Wp.sto s 0 rfl | apply Wp.sto s 1 rfl | apply Wp.sto s 2 rfl | apply Wp.sto s 3 rfl | apply Wp.sto s 4 rfl | apply Wp.sto s 5 rfl | apply Wp.sto s 6 rfl | apply Wp.sto s 7 rfl | apply Wp.sto s 8 rfl | apply Wp.sto s 9 rfl | apply Wp.sto s 10 rfl | apply Wp.sto s 11 rfl); (· assumption); (· first | rfl | assumption); (· rfl); (· first | exact Nat.le_refl _ | decide | (simp; done)); (· rfl); intro _g _F s; simp only [List.set_cons_succ, List.set_cons_zero, List.take_succ_cons, List.take_zero, List.drop_succ_cons, List.drop_zero, List.drop_nil, List.nil_append, List.cons_append, List.append_nil, Nat.zero_add, Nat.reduceAdd] at s))
    replace kv := kv.fr0 s.F
    replace t := t.call s
    simp only [List.cons_append, List.nil_append] at t
    replace s := t
    refine Wp.sto (n := 2) (o := 0) s 3 rfl n5 rfl rfl (Nat.le_refl 2) (ds := [w1, w2]) rfl fun g5 F5 s' => ?_
    replace kv := kv.past (S' := [i3, x5, x2]) s.k F5 (by simp) (fun j hj => .inl hj)
    replace s := s'
    simp only [List.set_cons_succ, List.set_cons_zero] at s
    repeat (first
     | ((with_reducible refine Wp.gb ?_); refine Wp.b (by first | (with_reducible first | exact fA_p (by assumption) | exact fA_o (by assumption) | exact nilC_ptr (by assumption) | exact bin_lss .. | exact bin_leq .. | exact bin_gtr .. | exact bin_geq .. | exact bin_eql .. | exact bin_neq .. | exact bin_add .. | exact bin_sub .. | exact bin_mul .. | exact str_eql .. | exact str_neq .. | exact str_lss .. | exact str_gtr .. | exact str_geq .. | exact str_leq .. | exact not_bool .. | exact lenS_str .. | assumption) | exact (show extV (.tup _) _ = some _ from rfl) | exact s.ld1 0 rfl (by assumption) _ rfl | exact s.ld1 1 rfl (by assumption) _ rfl | exact s.ld1 2 rfl (by assumption) _ rfl | exact s.ld1 3 rfl (by assumption) _ rfl | exact s.ld1 4 rfl (by assumption) _ rfl | exact s.ld1 5 rfl (by assumption) _ rfl | exact s.ld1 6 rfl (by assumption) _ rfl | exact s.ld1 7 rfl (by assumption) _ rfl | exact s.ld1 8 rfl (by assumption) _ rfl | exact s.ld1 9 rfl (by assumption) _ rfl | exact s.ld1 10 rfl (by assumption) _ rfl | exact s.ld1 11 rfl (by assumption) _ rfl | exact bload_ld1 (by assumption) _ rfl | exact bload_ldn (by assumption) _ _ (Nat.le_refl _) | exact (show bldV _ _ = some _ from rfl) | ((first | apply s.ldn 0 rfl | apply s.ldn 1 rfl | apply s.ldn 2 rfl | apply s.ldn 3 rfl | apply s.ldn 4 rfl | apply s.ldn 5 rfl | apply s.ldn 6 rfl | apply s.ldn 7 rfl | apply s.ldn 8 rfl | apply s.ldn 9 rfl | apply s.ldn 10 rfl | apply s.ldn 11 rfl); (· assumption); (· first | exact Nat.le_refl _ | decide | (simp; done)); (· rfl))) ?_)
     | (with_reducible first | refine Wp.onT (by assumption) ?_ | refine Wp.onF (by assumption) ?_ | refine Wp.spT (by assumption) ?_ | refine Wp.spF (by assumption) ?_)
     | ((with_reducible refine Wp.gbx ?_); refine Wp.box s rfl fun _p _g _p0 _F s => ?_)
     | ((with_reducible refine Wp.gal ?_); refine Wp.alo s fun _p _g _p0 _F s => ?_))
    refine Wp.lit s [(applySt st x).2] rfl rfl rfl fun u j g6 ou jn F6 s => ?_
    replace kv := kv.fr0 F6
    refine Wp.appx s 5 o3 rfl (s.rv 0 ou rfl) rfl (by simp; omega) (by simp; omega) fun w i4 g7 o4 n4 F7 s' => ?_
    have n4 : g6.next ≤ i4 := n4.resolve_left (by simp)
    replace kv := kv.past (S' := [i4, x5, x2]) s.k F7 (by simp) (fun j hj => by
      simp only [List.mem_cons, List.not_mem_nil, or_false] at hj ⊢
      rcases hj with rfl | rfl | rfl <;> simp [n4])
    replace s := s'
    simp only [List.set_cons_succ, List.set_cons_zero] at s
    refine Wp.b (bin_add _ _ _ _ _) ?_
    rw [inc64 (by omega)]
    have hs := applySt_ok hs x
    have i := l21 v x2 x5 n2 n5 B (A ++ [x]) (by simp; omega) (by simpa using r) (applySt st x).1 _ _ w1 w2 w y1 y2 i4 hs (by simp; omega) s.tail.tail.tail.tail kv o4
    have e1 : A.length + (x :: B).length = (A ++ [x]).length + B.length := by simp; omega
    rw [e1]
    rw [List.length_append, List.length_singleton] at i ⊢
    simpa [foldC] using i
theorem fold21 (l : List Cmd) (hn : l.length ≤ 4611686018427387904) (v : V) (h : H) (hk : Hok h) (r : RV h v l) :
    Wp (R 21 [v] h) (FoldPost h (foldR l).1 (foldR l).2 (decide (l.length ≤ 100))) := by
  refine R21 rfl ?_
  rw [S21_eq]
  have s := Mm.base hk
  have hl := r.len
  repeat (first
   | ((with_reducible refine Wp.gb ?_); refine Wp.b (by first | (with_reducible first | exact fA_p (by assumption) | exact fA_o (by assumption) | exact nilC_ptr (by assumption) | exact bin_lss .. | exact bin_leq .. | exact bin_gtr .. | exact bin_geq .. | exact bin_eql .. | exact bin_neq .. | exact bin_add .. | exact bin_sub .. | exact bin_mul .. | exact str_eql .. | exact str_neq .. | exact str_lss .. | exact str_gtr .. | exact str_geq .. | exact str_leq .. | exact not_bool .. | exact lenS_str .. | assumption) | exact (show extV (.tup _) _ = some _ from rfl) | exact s.ld1 0 rfl (by assumption) _ rfl | exact s.ld1 1 rfl (by assumption) _ rfl | exact s.ld1 2 rfl (by assumption) _ rfl | exact s.ld1 3 rfl (by assumption) _ rfl | exact s.ld1 4 rfl (by assumption) _ rfl | exact s.ld1 5 rfl (by assumption) _ rfl | exact s.ld1 6 rfl (by assumption) _ rfl | exact s.ld1 7 rfl (by assumption) _ rfl | exact s.ld1 8 rfl (by assumption) _ rfl | exact s.ld1 9 rfl (by assumption) _ rfl | exact s.ld1 10 rfl (by assumption) _ rfl | exact s.ld1 11 rfl (by assumption) _ rfl | exact bload_ld1 (by assumption) _ rfl | exact bload_ldn (by assumption) _ _ (Nat.le_refl _) | exact (show bldV _ _ = some _ from rfl) | ((first | apply s.ldn 0 rfl | apply s.ldn 1 rfl | apply s.ldn 2 rfl | apply s.ldn 3 rfl | apply s.ldn 4 rfl | apply s.ldn 5 rfl | apply s.ldn 6 rfl | apply s.ldn 7 rfl | apply s.ldn 8 rfl | apply s.ldn 9 rfl | apply s.ldn 10 rfl | apply s.ldn 11 rfl); (· assumption); (· first | exact Nat.le_refl _ | decide | (simp; done)); (· rfl))) ?_)
   | (with_reducible first | refine Wp.onT (by assumption) ?_ | refine Wp.onF (by assumption) ?_ | refine Wp.spT (by assumption) ?_ | refine Wp.spF (by assumption) ?_)
   | ((with_reducible refine Wp.gbx ?_); refine Wp.box s rfl fun _p _g _p0 _F s => ?_)
   | ((with_reducible refine Wp.gal ?_); refine Wp.alo s fun _p _g _p0 _F s => ?_))
  refine Wp.on (fun hc => ?_) (fun hc => ?_)
  · have hc : ¬ l.length ≤ 100 := by
      have : (100 : Int) < l.length := by simpa using hc
      omega
    repeat (first
     | ((with_reducible refine Wp.gb ?_); refine Wp.b (by first | (with_reducible first | exact fA_p (by assumption) | exact fA_o (by assumption) | exact nilC_ptr (by assumption) | exact bin_lss .. | exact bin_leq .. | exact bin_gtr .. | exact bin_geq .. | exact bin_eql .. | exact bin_neq .. | exact bin_add .. | exact bin_sub .. | exact bin_mul .. | exact str_eql .. | exact str_neq .. | exact str_lss .. | exact str_gtr .. | exact str_geq .. | exact str_leq .. | exact not_bool .. | exact lenS_str .. | assumption) | exact (show extV (.tup _) _ = some _ from rfl) | exact s.ld1 0 rfl (by assumption) _ rfl | exact s.ld1 1 rfl (by assumption) _ rfl | exact s.ld1 2 rfl (by assumption) _ rfl | exact s.ld1 3 rfl (by assumption) _ rfl | exact s.ld1 4 rfl (by assumption) _ rfl | exact s.ld1 5 rfl (by assumption) _ rfl | exact s.ld1 6 rfl (by assumption) _ rfl | exact s.ld1 7 rfl (by assumption) _ rfl | exact s.ld1 8 rfl (by assumption) _ rfl | exact s.ld1 9 rfl (by assumption) _ rfl | exact s.ld1 10 rfl (by assumption) _ rfl | exact s.ld1 11 rfl (by assumption) _ rfl | exact bload_ld1 (by assumption) _ rfl | exact bload_ldn (by assumption) _ _ (Nat.le_refl _) | exact (show bldV _ _ = some _ from rfl) | ((first | apply s.ldn 0 rfl | apply s.ldn 1 rfl | apply s.ldn 2 rfl | apply s.ldn 3 rfl | apply s.ldn 4 rfl | apply s.ldn 5 rfl | apply s.ldn 6 rfl | apply s.ldn 7 rfl | apply s.ldn 8 rfl | apply s.ldn 9 rfl | apply s.ldn 10 rfl | apply s.ldn 11 rfl); (· assumption); (· first | exact Nat.le_refl _ | decide | (simp; done)); (· rfl))) ?_)
     | (with_reducible first | refine Wp.onT (by assumption) ?_ | refine Wp.onF (by assumption) ?_ | refine Wp.spT (by assumption) ?_ | refine Wp.spF (by assumption) ?_)
     | ((with_reducible refine Wp.gbx ?_); refine Wp.box s rfl fun _p _g _p0 _F s => ?_)
     | ((with_reducible refine Wp.gal ?_); refine Wp.alo s fun _p _g _p0 _F s => ?_)
     | ((with_reducible refine Wp.gst ?_); (first | apply Wp.sto s 0 rfl | apply Wp.sto s 1 rfl | apply Wp.sto s 2 rfl | apply Wp.sto s 3 rfl | apply Wp.sto s 4 rfl | apply Wp.sto s 5 rfl | apply Wp.sto s 6 rfl | apply Wp.sto s 7 rfl | apply Wp.sto s 8 rfl | apply Wp.sto s 9 rfl | apply Wp.sto s 10 rfl | apply Wp.sto s 11 rfl); (· assumption); (· first | rfl | assumption); (· rfl); (· first | exact Nat.le_refl _ | decide | (simp; done)); (· rfl); intro _g _F s; simp only [List.set_cons_succ, List.set_cons_zero, List.take_succ_cons, List.take_zero, List.drop_succ_cons, List.drop_zero, List.drop_nil, List.nil_append, List.cons_append, List.append_nil, Nat.zero_add, Nat.reduceAdd] at s))
    have e : decide (l.length ≤ 100) = false := by simpa using hc
    rw [e]
    refine Wp.r3 (s.ldn 0 rfl (by assumption) 0 2 (Nat.le_refl 2) rfl) rfl rfl rfl rfl rfl ⟨_, _, _, 0, 0, 0, rfl, ?_, ?_, ?_, ?_⟩
    all_goals simp only [foldR, if_neg hc]
    · exact ⟨s.k0, s.k, s.F, fun x hx => .inl (by simp only [List.mem_cons, List.not_mem_nil, or_false] at hx; rcases hx with rfl | rfl | rfl <;> exact ⟨rfl, rfl⟩), by simp⟩
    · exact OV.nil
    · exact OV.nil
    · exact OV.nil
  · have hc : l.length ≤ 100 := by
      have : ¬ (100 : Int) < l.length := by simpa using hc
      omega
    repeat (first
     | ((with_reducible refine Wp.gb ?_); refine Wp.b (by first | (with_reducible first | exact fA_p (by assumption) | exact fA_o (by assumption) | exact nilC_ptr (by assumption) | exact bin_lss .. | exact bin_leq .. | exact bin_gtr .. | exact bin_geq .. | exact bin_eql .. | exact bin_neq .. | exact bin_add .. | exact bin_sub .. | exact bin_mul .. | exact str_eql .. | exact str_neq .. | exact str_lss .. | exact str_gtr .. | exact str_geq .. | exact str_leq .. | exact not_bool .. | exact lenS_str .. | assumption) | exact (show extV (.tup _) _ = some _ from rfl) | exact s.ld1 0 rfl (by assumption) _ rfl | exact s.ld1 1 rfl (by assumption) _ rfl | exact s.ld1 2 rfl (by assumption) _ rfl | exact s.ld1 3 rfl (by assumption) _ rfl | exact s.ld1 4 rfl (by assumption) _ rfl | exact s.ld1 5 rfl (by assumption) _ rfl | exact s.ld1 6 rfl (by assumption) _ rfl | exact s.ld1 7 rfl (by assumption) _ rfl | exact s.ld1 8 rfl (by assumption) _ rfl | exact s.ld1 9 rfl (by assumption) _ rfl | exact s.ld1 10 rfl (by assumption) _ rfl | exact s.ld1 11 rfl (by assumption) _ rfl | exact bload_ld1 (by assumption) _ rfl | exact bload_ldn (by assumption) _ _ (Nat.le_refl _) | exact (show bldV _ _ = some _ from rfl) | ((first | apply s.ldn 0 rfl | apply s.ldn 1 rfl | apply s.ldn 2 rfl | apply s.ldn 3 rfl | apply s.ldn 4 rfl | apply s.ldn 5 rfl | apply s.ldn 6 rfl | apply s.ldn 7 rfl | apply s.ldn 8 rfl | apply s.ldn 9 rfl | apply s.ldn 10 rfl | apply s.ldn 11 rfl); (· assumption); (· first | exact Nat.le_refl _ | decide | (simp; done)); (· rfl))) ?_)
     | (with_reducible first | refine Wp.onT (by assumption) ?_ | refine Wp.onF (by assumption) ?_ | refine Wp.spT (by assumption) ?_ | refine Wp.spF (by assumption) ?_)
     | ((with_reducible refine Wp.gbx ?_); refine Wp.box s rfl fun _p _g _p0 _F s => ?_)
     | ((with_reducible refine Wp.gal ?_); refine Wp.alo s fun _p _g _p0 _F s => ?_)
     | ((with_reducible refine Wp.gst ?_); (first | apply Wp.sto s 0 rfl | apply Wp.sto s 1 rfl | apply Wp.sto s 2 rfl | apply Wp.sto s 3 rfl | apply Wp.sto s 4 rfl | apply Wp.sto s 5 rfl | apply Wp.sto s 6 rfl | apply Wp.sto s 7 rfl | apply Wp.sto s 8 rfl | apply Wp.sto s 9 rfl | apply Wp.sto s 10 rfl | apply Wp.sto s 11 rfl); (· assumption); (· first | rfl | assumption); (· rfl); (· first | exact Nat.le_refl _ | decide | (simp; done)); (· rfl); intro _g _F s; simp only [List.set_cons_succ, List.set_cons_zero, List.take_succ_cons, List.take_zero, List.drop_succ_cons, List.drop_zero, List.drop_nil, List.nil_append, List.cons_append, List.append_nil, Nat.zero_add, Nat.reduceAdd] at s))
    have i := l21 v _ _ (by assumption) (by assumption) l [] (by simp; omega) r ⟨[], []⟩ [] _ (.sl 0 0 0 0) (.sl 0 0 0 0) (.sl 0 0 0 0) _ _ 0 ⟨by simp, by simp⟩ rfl s.nil1 ⟨0, 0, 0, 0, 0, 0, rfl, .inl ⟨rfl, rfl⟩, .inl ⟨rfl, rfl⟩, .inl rfl, .inl rfl⟩ OV.nil
    simp only [List.length_nil, Nat.zero_add, List.nil_append] at i
    simp only [foldR, if_pos hc, hc, decide_true]
    exact i
end Go.Proofs.Ythoabddfionmoaa.AH
namespace Go.Proofs.Ythoabddfionmoaa.AH
open Go Go.RowKit
theorem l35 (l : List Cmd) (v w : V) (wn i : V) (pw p k : Nat) (hk : k < l.length) {g : H} (ch : List Int) (hl : ch.length ≤ 1000) (r : RV g v l) (rc : RV g w ch)
    (hd : ∀ x ∈ ch, ∃ (b : Nat) (hb : b < l.length), x = (b : Int) ∧ ¬ (l[k].s = l[b].s ∧ l[k].n = l[b].n)) {Q : V → H → Prop}
    (fin : Wp (S4_l35 R v w (.ptr pw 0) (.int .i64 k) (.ptr p 0) wn i w (.int .i64 ch.length) (.int .i64 ch.length) g) Q) :
    ∀ (B A : List Int), ch = A ++ B → Wp (S4_l35 R v w (.ptr pw 0) (.int .i64 k) (.ptr p 0) wn i w (.int .i64 ch.length) (.int .i64 A.length) g) Q
  | [], A, e => by
    have : ch.length = A.length := by rw [e]; simp
    rw [← this]; exact fin
  | x :: B, A, e => by
    have hlen : ch.length = A.length + B.length + 1 := by rw [e]; simp; omega
    obtain ⟨b, hb, rfl, hn⟩ := hd x (by rw [e]; simp)
    obtain ⟨q, o, q0, ql, e1, e2⟩ := (e ▸ rc : RV g w (A ++ (b : Int) :: B)).mid
    obtain ⟨c, o2, c0, cl, f1, f2⟩ := r.at hk
    obtain ⟨d, o3, d0, dl, h1, h2⟩ := r.at hb
    have i1 := l35 l v w wn i pw p k hk ch hl r rc hd fin B (A ++ [(b : Int)]) (by rw [e]; simp)
    rw [List.length_append, List.length_singleton] at i1
    rw [S4_l35_eq]
    refine Wp.b (bin_lss _ _ _ _ _) (Wp.onT (by simp; omega) ?_)
    refine Wp.b e1 (Wp.b (bload_ld1 e2 0 rfl) ?_)
    refine Wp.b f1 (Wp.b (fA_o c0) (Wp.b (bload_ld1 f2 0 rfl) ?_))
    refine Wp.b h1 (Wp.b (fA_o d0) (Wp.b (bload_ld1 h2 0 rfl) ?_))
    refine Wp.b (bin_eql _ _ _ _ _) (Wp.sp (fun hc => ?_) (fun hc => ?_))
    · have hc : l[k].s = l[b].s := by simpa using hc
      refine Wp.b f1 (Wp.b (fA_o c0) (Wp.b (bload_ld1 f2 1 rfl) ?_))
      refine Wp.b h1 (Wp.b (fA_o d0) (Wp.b (bload_ld1 h2 1 rfl) ?_))
      refine Wp.b (bin_eql _ _ _ _ _) (Wp.on (fun hc2 => ?_) (fun hc2 => ?_))
      · have hc2 : l[k].n = l[b].n := by simpa using hc2
        exact absurd ⟨hc, hc2⟩ hn
      · refine Wp.b (bin_add _ _ _ _ _) ?_
        rw [inc64 (by omega)]
        exact i1
    · refine Wp.b (bin_add _ _ _ _ _) ?_
      rw [inc64 (by omega)]
      exact i1
set_option maxHeartbeats 4000000 in
theorem l28 {h0 : H} (l : List Cmd) (hl : l.length ≤ 100) (v : V) (iL : Nat) (oL : OV v l iL) (pw : Nat) (pw0 : pw ≠ 0) : ∀ (n i : Nat), i + n = l.length → ∀ (ch : List Int) (w w1 w2 : V) (ic i1 : Nat) (g : H), ch.length ≤ i →
    (∀ x ∈ ch, ∃ (b : Nat) (hb : b < l.length), x = (b : Int) ∧ Dn (stA l i) l[b].s l[b].n) → OV w ch ic → OV w1 (stA l i).cells i1 → Mm h0 g [(pw, [w1, w2]), (i1, flat (stA l i).cells), (ic, flat ch), (iL, flat l)] →
    Wp (S4_l28 R v w (.ptr pw 0) (.int .i64 l.length) (.int .i64 i) g) fun r h' => r = .bool true
  | 0, i, hi, ch, w, w1, w2, ic, i1, g, hc, hd, oc, o1, s => by
    rw [S4_l28_eq]
    refine Wp.b (bin_lss _ _ _ _ _) (Wp.onF (by simp; omega) ?_)
    exact Wp.r1 rfl rfl rfl
  | n + 1, i, hi, ch, w, w1, w2, ic, i1, g, hc, hd, oc, o1, s => by
    have hil : i < l.length := by omega
    rw [S4_l28_eq]
    refine Wp.b (bin_lss _ _ _ _ _) (Wp.onT (by simp; omega) ?_)
    refine Wp.b (bin_add _ _ _ _ _) ?_
    rw [inc64 (by omega)]
    obtain ⟨v2, e2, r2⟩ := (s.rv 3 oL rfl).slH (b := i + 1) (by omega)
    refine Wp.b e2 ?_
    have ht : (l.take (i + 1)).length ≤ 100 := by rw [List.length_take]; omega
    refine Wp.bind (fold20 (l.take (i + 1)) (by omega) v2 g s.k r2) ?_
    rintro _ g2 ⟨u1, u2, u3, k1, k2, k3, rfl, s', p1, p2, p3⟩
    have ef : (foldR (l.take (i + 1))).1 = stA l (i + 1) := by unfold foldR stA; rw [if_pos ht]
    rw [ef] at s' p1 p2
    have eb : decide ((l.take (i + 1)).length ≤ 100) = true := by simpa using ht
    rw [eb]
    replace s := s.call s'
    simp only [List.cons_append, List.nil_append] at s
    dsimp only
    have _c := p1.cells
    have _n := p1.nt
    have _c := p2.cells
    have _n := p2.nt
    repeat (first
     | ((with_reducible refine Wp.gb ?_); refine Wp.b (by first | (with_reducible first | exact fA_p (by assumption) | exact fA_o (by assumption) | exact nilC_ptr (by assumption) | exact bin_lss .. | exact bin_leq .. | exact bin_gtr .. | exact bin_geq .. | exact bin_eql .. | exact bin_neq .. | exact bin_add .. | exact bin_sub .. | exact bin_mul .. | exact str_eql .. | exact str_neq .. | exact str_lss .. | exact str_gtr .. | exact str_geq .. | exact str_leq .. | exact not_bool .. | exact lenS_str .. | assumption) | exact (show extV (.tup _) _ = some _ from rfl) | exact s.ld1 0 rfl (by assumption) _ rfl | exact s.ld1 1 rfl (by assumption) _ rfl | exact s.ld1 2 rfl (by assumption) _ rfl | exact s.ld1 3 rfl (by assumption) _ rfl | exact s.ld1 4 rfl (by assumption) _ rfl | exact s.ld1 5 rfl (by assumption) _ rfl | exact s.ld1 6 rfl (by assumption) _ rfl | exact s.ld1 7 rfl (by assumption) _ rfl | exact s.ld1 8 rfl (by assumption) _ rfl | exact s.ld1 9 rfl (by assumption) _ rfl | exact s.ld1 10 rfl (by assumption) _ rfl | exact s.ld1 11 rfl (by assumption) _ rfl | exact bload_ld1 (by assumption) _ rfl | exact bload_ldn (by assumption) _ _ (Nat.le_refl _) | exact (show bldV _ _ = some _ from rfl) | ((first | apply s.ldn 0 rfl | apply s.ldn 1 rfl | apply s.ldn 2 rfl | apply s.ldn 3 rfl | apply s.ldn 4 rfl | apply s.ldn 5 rfl | apply s.ldn 6 rfl | apply s.ldn 7 rfl | apply s.ldn 8 rfl | apply s.ldn 9 rfl | apply s.ldn 10 rfl | apply s.ldn 11 rfl); (· assumption); (· first | exact Nat.le_refl _ | decide | (simp; done)); (· rfl))) ?_)
     | (with_reducible first | refine Wp.onT (by assumption) ?_ | refine Wp.onF (by assumption) ?_ | refine Wp.spT (by assumption) ?_ | refine Wp.spF (by assumption) ?_)
     | ((with_reducible refine Wp.gbx ?_); refine Wp.box s rfl fun _p _g _p0 _F s => ?_)
     | ((with_reducible refine Wp.gal ?_); refine Wp.alo s fun _p _g _p0 _F s => ?_)
     | ((with_reducible refine Wp.gst ?_); (first | apply Wp.sto s 0 rfl | apply Wp.sto s 1 rfl | apply Wp.sto s 2 rfl | apply Wp.sto s 3 rfl | apply Wp.sto s 4 rfl | apply Wp.sto s 5 rfl | apply Wp.sto s 6 rfl | apply Wp.sto s 7 rfl | apply Wp.sto s 8 rfl | apply Wp.sto s 9 rfl | apply Wp.sto s 10 rfl | apply Wp.sto s 11 rfl); (· assumption); (· first | rfl | assumption); (· rfl); (· first | exact Nat.le_refl _ | decide | (simp; done)); (· rfl); intro _g _F s; simp only [List.set_cons_succ, List.set_cons_zero, List.take_succ_cons, List.take_zero, List.drop_succ_cons, List.drop_zero, List.drop_nil, List.nil_append, List.cons_append, List.append_nil, Nat.zero_add, Nat.reduceAdd] at s))
    refine Wp.onF rfl ?_
    repeat (first
     | ((with_reducible refine Wp.gb ?_); refine Wp.b (by first | (with_reducible first | exact fA_p (by assumption) | exact fA_o (by assumption) | exact nilC_ptr (by assumption) | exact bin_lss .. | exact bin_leq .. | exact bin_gtr .. | exact bin_geq .. | exact bin_eql .. | exact bin_neq .. | exact bin_add .. | exact bin_sub .. | exact bin_mul .. | exact str_eql .. | exact str_neq .. | exact str_lss .. | exact str_gtr .. | exact str_geq .. | exact str_leq .. | exact not_bool .. | exact lenS_str .. | assumption) | exact (show extV (.tup _) _ = some _ from rfl) | exact s.ld1 0 rfl (by assumption) _ rfl | exact s.ld1 1 rfl (by assumption) _ rfl | exact s.ld1 2 rfl (by assumption) _ rfl | exact s.ld1 3 rfl (by assumption) _ rfl | exact s.ld1 4 rfl (by assumption) _ rfl | exact s.ld1 5 rfl (by assumption) _ rfl | exact s.ld1 6 rfl (by assumption) _ rfl | exact s.ld1 7 rfl (by assumption) _ rfl | exact s.ld1 8 rfl (by assumption) _ rfl | exact s.ld1 9 rfl (by assumption) _ rfl | exact s.ld1 10 rfl (by assumption) _ rfl | exact s.ld1 11 rfl (by assumption) _ rfl | exact bload_ld1 (by assumption) _ rfl | exact bload_ldn (by assumption) _ _ (Nat.le_refl _) | exact (show bldV _ _ = some _ from rfl) | ((first | apply s.ldn 0 rfl | apply s.ldn 1 rfl | apply s.ldn 2 rfl | apply s.ldn 3 rfl | apply s.ldn 4 rfl | apply s.ldn 5 rfl | apply s.ldn 6 rfl | apply s.ldn 7 rfl | apply s.ldn 8 rfl | apply s.ldn 9 rfl | apply s.ldn 10 rfl | apply s.ldn 11 rfl); (· assumption); (· first | exact Nat.le_refl _ | decide | (simp; done)); (· rfl))) ?_)
     | (with_reducible first | refine Wp.onT (by assumption) ?_ | refine Wp.onF (by assumption) ?_ | refine Wp.spT (by assumption) ?_ | refine Wp.spF (by assumption) ?_)
     | ((with_reducible refine Wp.gbx ?_); refine Wp.box s rfl fun _p _g _p0 _F s => ?_)
     | ((with_reducible refine Wp.gal ?_); refine Wp.alo s fun _p _g _p0 _F s => ?_))
    have sm := stA_small l i
    refine Wp.b (same23 (stA l i).cells (stA l (i + 1)).cells (by omega) _ _ _ (by first | exact s.rv 0 o1 rfl | exact s.rv 1 o1 rfl | exact s.rv 2 o1 rfl | exact s.rv 3 o1 rfl | exact s.rv 4 o1 rfl | exact s.rv 5 o1 rfl | exact s.rv 6 o1 rfl | exact s.rv 7 o1 rfl | exact s.rv 8 o1 rfl | exact s.rv 9 o1 rfl | exact s.rv 10 o1 rfl | exact s.rv 11 o1 rfl | exact s.rv 12 o1 rfl | exact s.rv 13 o1 rfl | exact s.rv 14 o1 rfl | exact s.rv 15 o1 rfl | exact s.rv 16 o1 rfl | exact s.rv 17 o1 rfl) (by first | exact s.rv 0 p1 rfl | exact s.rv 1 p1 rfl | exact s.rv 2 p1 rfl | exact s.rv 3 p1 rfl | exact s.rv 4 p1 rfl | exact s.rv 5 p1 rfl | exact s.rv 6 p1 rfl | exact s.rv 7 p1 rfl | exact s.rv 8 p1 rfl | exact s.rv 9 p1 rfl | exact s.rv 10 p1 rfl | exact s.rv 11 p1 rfl | exact s.rv 12 p1 rfl | exact s.rv 13 p1 rfl | exact s.rv 14 p1 rfl | exact s.rv 15 p1 rfl | exact s.rv 16 p1 rfl | exact s.rv 17 p1 rfl)) ?_
    dsimp only
    refine Wp.b (not_bool _) ?_
    have es := stA_succ l i hil
    have hkeep : ∀ x ∈ ch, ∃ (b : Nat) (hb : b < l.length), x = (b : Int) ∧ Dn (stA l (i + 1)) l[b].s l[b].n := fun x hx => by
      obtain ⟨b, hb, e, d⟩ := hd x hx
      exact ⟨b, hb, e, es ▸ d.keep l[i]⟩
    refine Wp.on (fun hx => ?_) (fun hx => ?_)
    · have hx : ¬ (stA l i).cells = (stA l (i + 1)).cells := by simpa using hx
      have hnew : Dn (stA l (i + 1)) l[i].s l[i].n := by
        rw [es]; exact Dn.new fun e => hx (by rw [es]; exact e.symm)
      refine Wp.b oc.len ?_
      refine l35 l v w _ _ pw _ i hil ch (by omega) (by first | exact s.rv 0 oL rfl | exact s.rv 1 oL rfl | exact s.rv 2 oL rfl | exact s.rv 3 oL rfl | exact s.rv 4 oL rfl | exact s.rv 5 oL rfl | exact s.rv 6 oL rfl | exact s.rv 7 oL rfl | exact s.rv 8 oL rfl | exact s.rv 9 oL rfl | exact s.rv 10 oL rfl | exact s.rv 11 oL rfl | exact s.rv 12 oL rfl | exact s.rv 13 oL rfl | exact s.rv 14 oL rfl | exact s.rv 15 oL rfl | exact s.rv 16 oL rfl | exact s.rv 17 oL rfl) (by first | exact s.rv 0 oc rfl | exact s.rv 1 oc rfl | exact s.rv 2 oc rfl | exact s.rv 3 oc rfl | exact s.rv 4 oc rfl | exact s.rv 5 oc rfl | exact s.rv 6 oc rfl | exact s.rv 7 oc rfl | exact s.rv 8 oc rfl | exact s.rv 9 oc rfl | exact s.rv 10 oc rfl | exact s.rv 11 oc rfl | exact s.rv 12 oc rfl | exact s.rv 13 oc rfl | exact s.rv 14 oc rfl | exact s.rv 15 oc rfl | exact s.rv 16 oc rfl | exact s.rv 17 oc rfl) (fun x hx2 => ?_) ?_ ch [] rfl
      · obtain ⟨b, hb, e, d⟩ := hd x hx2
        refine ⟨b, hb, e, fun q => hx ?_⟩
        rw [← q.1, ← q.2] at d
        rw [es, d.skip (stA_srt l i)]
      · rw [S4_l35_eq]
        refine Wp.b (bin_lss _ _ _ _ _) (Wp.onF (by simp) ?_)
        refine Wp.lit s [(i : Int)] rfl rfl rfl fun x j g3 ox j0 F s => ?_
        refine Wp.app s 7 oc rfl (s.rv 0 ox rfl) rfl (by simp; omega) (by simp; omega) fun w ic g4 oc F s => ?_
        simp only [List.set_cons_succ, List.set_cons_zero] at s
        dsimp only
        repeat (first
         | ((with_reducible refine Wp.gb ?_); refine Wp.b (by first | (with_reducible first | exact fA_p (by assumption) | exact fA_o (by assumption) | exact nilC_ptr (by assumption) | exact bin_lss .. | exact bin_leq .. | exact bin_gtr .. | exact bin_geq .. | exact bin_eql .. | exact bin_neq .. | exact bin_add .. | exact bin_sub .. | exact bin_mul .. | exact str_eql .. | exact str_neq .. | exact str_lss .. | exact str_gtr .. | exact str_geq .. | exact str_leq .. | exact not_bool .. | exact lenS_str .. | assumption) | exact (show extV (.tup _) _ = some _ from rfl) | exact s.ld1 0 rfl (by assumption) _ rfl | exact s.ld1 1 rfl (by assumption) _ rfl | exact s.ld1 2 rfl (by assumption) _ rfl | exact s.ld1 3 rfl (by assumption) _ rfl | exact s.ld1 4 rfl (by assumption) _ rfl | exact s.ld1 5 rfl (by assumption) _ rfl | exact s.ld1 6 rfl (by assumption) _ rfl | exact s.ld1 7 rfl (by assumption) _ rfl | exact s.ld1 8 rfl (by assumption) _ rfl | exact s.ld1 9 rfl (by assumption) _ rfl | exact s.ld1 10 rfl (by assumption) _ rfl | exact s.ld1 11 rfl (by assumption) _ rfl | exact bload_ld1 (by assumption) _ rfl | exact bload_ldn (by assumption) _ _ (Nat.le_refl _) | exact (show bldV _ _ = some _ from rfl) | ((first | apply s.ldn 0 rfl | apply s.ldn 1 rfl | apply s.ldn 2 rfl | apply s.ldn 3 rfl | apply s.ldn 4 rfl | apply s.ldn 5 rfl | apply s.ldn 6 rfl | apply s.ldn 7 rfl | apply s.ldn 8 rfl | apply s.ldn 9 rfl | apply s.ldn 10 rfl | apply s.ldn 11 rfl); (· assumption); (· first | exact Nat.le_refl _ | decide | (simp; done)); (· rfl))) ?_)
         | (with_reducible first | refine Wp.onT (by assumption) ?_ | refine Wp.onF (by assumption) ?_ | refine Wp.spT (by assumption) ?_ | refine Wp.spF (by assumption) ?_)
         | ((with_reducible refine Wp.gbx ?_); refine Wp.box s rfl fun _p _g _p0 _F s => ?_)
         | ((with_reducible refine Wp.gal ?_); refine Wp.alo s fun _p _g _p0 _F s => ?_)
         | ((with_reducible refine Wp.gst ?_); (first | apply Wp.sto s 0 rfl | apply Wp.sto s 1 rfl | apply Wp.sto s 2 rfl | apply Wp.sto s 3 rfl | apply Wp.sto s 4 rfl | apply Wp.sto s 5 rfl | apply Wp.sto s 6 rfl | apply Wp.sto s 7 rfl | apply Wp.sto s 8 rfl | apply Wp.sto s 9 rfl | apply Wp.sto s 10 rfl | apply Wp.sto s 11 rfl); (· assumption); (· first | rfl | assumption); (· rfl); (· first | exact Nat.le_refl _ | decide | (simp; done)); (· rfl); intro _g _F s; simp only [List.set_cons_succ, List.set_cons_zero, List.take_succ_cons, List.take_zero, List.drop_succ_cons, List.drop_zero, List.drop_nil, List.nil_append, List.cons_append, List.append_nil, Nat.zero_add, Nat.reduceAdd] at s))
        rw [inc64 (by omega)]
        refine l28 l hl v iL oL pw pw0 n (i + 1) (by omega) (ch ++ [(i : Int)]) w u1 u2 ic k1 _ (by simp; omega) (fun x hx => ?_) oc p1 ((s.pull 5 rfl).sub ?_)
        · rcases List.mem_append.1 hx with h | h
          · exact hkeep x h
          · exact ⟨i, hil, by simpa using h, hnew⟩
        · repeat (first | exact List.Sublist.refl _ | apply List.Sublist.cons_cons | apply List.Sublist.cons)
    · have hx : (stA l i).cells = (stA l (i + 1)).cells := by simpa using hx
      repeat (first
       | ((with_reducible refine Wp.gb ?_); refine Wp.b (by first | (with_reducible first | exact fA_p (by assumption) | exact fA_o (by assumption) | exact nilC_ptr (by assumption) | exact bin_lss .. | exact bin_leq .. | exact bin_gtr .. | exact bin_geq .. | exact bin_eql .. | exact bin_neq .. | exact bin_add .. | exact bin_sub .. | exact bin_mul .. | exact str_eql .. | exact str_neq .. | exact str_lss .. | exact str_gtr .. | exact str_geq .. | exact str_leq .. | exact not_bool .. | exact lenS_str .. | assumption) | exact (show extV (.tup _) _ = some _ from rfl) | exact s.ld1 0 rfl (by assumption) _ rfl | exact s.ld1 1 rfl (by assumption) _ rfl | exact s.ld1 2 rfl (by assumption) _ rfl | exact s.ld1 3 rfl (by assumption) _ rfl | exact s.ld1 4 rfl (by assumption) _ rfl | exact s.ld1 5 rfl (by assumption) _ rfl | exact s.ld1 6 rfl (by assumption) _ rfl | exact s.ld1 7 rfl (by assumption) _ rfl | exact s.ld1 8 rfl (by assumption) _ rfl | exact s.ld1 9 rfl (by assumption) _ rfl | exact s.ld1 10 rfl (by assumption) _ rfl | exact s.ld1 11 rfl (by assumption) _ rfl | exact bload_ld1 (by assumption) _ rfl | exact bload_ldn (by assumption) _ _ (Nat.le_refl _) | exact (show bldV _ _ = some _ from rfl) | ((first | apply s.ldn 0 rfl | apply s.ldn 1 rfl | apply s.ldn 2 rfl | apply s.ldn 3 rfl | apply s.ldn 4 rfl | apply s.ldn 5 rfl | apply s.ldn 6 rfl | apply s.ldn 7 rfl | apply s.ldn 8 rfl | apply s.ldn 9 rfl | apply s.ldn 10 rfl | apply s.ldn 11 rfl); (· assumption); (· first | exact Nat.le_refl _ | decide | (simp; done)); (· rfl))) ?_)
       | (with_reducible first | refine Wp.onT (by assumption) ?_ | refine Wp.onF (by assumption) ?_ | refine Wp.spT (by assumption) ?_ | refine Wp.spF (by assumption) ?_)
       | ((with_reducible refine Wp.gbx ?_); refine Wp.box s rfl fun _p _g _p0 _F s => ?_)
       | ((with_reducible refine Wp.gal ?_); refine Wp.alo s fun _p _g _p0 _F s => ?_)
       | ((with_reducible refine Wp.gst ?_); (first | apply Wp.sto s 0 rfl | apply Wp.sto s 1 rfl | apply Wp.sto s 2 rfl | apply Wp.sto s 3 rfl | apply Wp.sto s 4 rfl | apply Wp.sto s 5 rfl | apply Wp.sto s 6 rfl | apply Wp.sto s 7 rfl | apply Wp.sto s 8 rfl | apply Wp.sto s 9 rfl | apply Wp.sto s 10 rfl | apply Wp.sto s 11 rfl); (· assumption); (· first | rfl | assumption); (· rfl); (· first | exact Nat.le_refl _ | decide | (simp; done)); (· rfl); intro _g _F s; simp only [List.set_cons_succ, List.set_cons_zero, List.take_succ_cons, List.take_zero, List.drop_succ_cons, List.drop_zero, List.drop_nil, List.nil_append, List.cons_append, List.append_nil, Nat.zero_add, Nat.reduceAdd] at s))
      rw [inc64 (by omega)]
      refine l28 l hl v iL oL pw pw0 n (i + 1) (by omega) ch w u1 u2 ic k1 _ (by omega) hkeep oc p1 ((s.pull 4 rfl).sub ?_)
      repeat (first | exact List.Sublist.refl _ | apply List.Sublist.cons_cons | apply List.Sublist.cons)
end Go.Proofs.Ythoabddfionmoaa.AH
namespace Go.Proofs.Ythoabddfionmoaa.AH
open Go Go.RowKit
theorem foldR_len (l : List Cmd) : (foldR l).1.cells.length ≤ 1000 ∧ (foldR l).1.sess.length ≤ 1000 ∧ (foldR l).2.length ≤ 100 := by
  unfold foldR
  split
  · rename_i h
    have := foldC_ok l ⟨[], []⟩ ⟨by simp, by simp⟩
    have h2 := foldC_len l ⟨[], []⟩
    exact ⟨by have := this.1; omega, by have := this.2; omega, by omega⟩
  · simp
theorem m20 (l : List Rp) (hl : l.length ≤ 1000) (v w w' : V) {g : H} (r : RV g w l) (r' : RV g w' l) {Q : V → H → Prop}
    (fin : Wp (S4_l20 R v w w' (.int .i64 l.length) (.int .i64 l.length) g) Q) :
    ∀ (B A : List Rp), l = A ++ B → Wp (S4_l20 R v w w' (.int .i64 l.length) (.int .i64 A.length) g) Q
  | [], A, e => by
    have : l.length = A.length := by rw [e]; simp
    rw [← this]; exact fin
  | x :: B, A, e => by
    have hlen : l.length = A.length + B.length + 1 := by rw [e]; simp; omega
    obtain ⟨q, o, q0, ql, e1, e2⟩ := (e ▸ r : RV g w (A ++ x :: B)).mid
    obtain ⟨p, o2, p0, pl, f1, f2⟩ := (e ▸ r' : RV g w' (A ++ x :: B)).mid
    have i1 := m20 l hl v w w' r r' fin B (A ++ [x]) (by rw [e]; simp)
    rw [List.length_append, List.length_singleton] at i1
    rw [S4_l20_eq]
    refine Wp.b (bin_lss _ _ _ _ _) (Wp.onT (by simp; omega) ?_)
    refine Wp.b e1 (Wp.b (bload_ldn e2 0 2 (Nat.le_refl 2)) (Wp.b f1 (Wp.b (bload_ldn f2 0 2 (Nat.le_refl 2)) ?_)))
    refine Wp.b (rpNe x x) (Wp.onF (by simp) (Wp.b (bin_add _ _ _ _ _) ?_))
    rw [inc64 (by omega)]
    exact i1
set_option maxHeartbeats 8000000 in
theorem j12_4 {more : List UInt8} {v : V} (h : H) (hk : Hok h) (r : RV h v more) : Wp (S4_j12 R v h) fun r h' => r = .bool true := by
  rw [S4_j12_eq]
  refine Wp.bind (draw19 h hk r) ?_
  rintro x g1 ⟨l, iL, hl, ox, s⟩
  obtain ⟨q1, q2, q3⟩ := foldR_len l
  dsimp only
  refine Wp.bind (fold20 l (by omega) x g1 s.k (by first | exact s.rv 0 ox rfl | exact s.rv 1 ox rfl | exact s.rv 2 ox rfl | exact s.rv 3 ox rfl | exact s.rv 4 ox rfl | exact s.rv 5 ox rfl | exact s.rv 6 ox rfl | exact s.rv 7 ox rfl | exact s.rv 8 ox rfl | exact s.rv 9 ox rfl | exact s.rv 10 ox rfl | exact s.rv 11 ox rfl | exact s.rv 12 ox rfl | exact s.rv 13 ox rfl | exact s.rv 14 ox rfl | exact s.rv 15 ox rfl | exact s.rv 16 ox rfl | exact s.rv 17 ox rfl)) ?_
  rintro _ g2 ⟨u1, u2, u3, j1, j2, j3, rfl, s', o1, o2, o3⟩
  replace s := s.call s'
  simp only [List.cons_append, List.nil_append] at s
  dsimp only
  have _c := o1.cells
  have _n := o1.nt
  have _c := o2.cells
  have _n := o2.nt
  have _c := o3.cells
  have _n := o3.nt
  repeat (first
   | ((with_reducible refine Wp.gb ?_); refine Wp.b (by first | (with_reducible first | exact fA_p (by assumption) | exact fA_o (by assumption) | exact nilC_ptr (by assumption) | exact bin_lss .. | exact bin_leq .. | exact bin_gtr .. | exact bin_geq .. | exact bin_eql .. | exact bin_neq .. | exact bin_add .. | exact bin_sub .. | exact bin_mul .. | exact str_eql .. | exact str_neq .. | exact str_lss .. | exact str_gtr .. | exact str_geq .. | exact str_leq .. | exact not_bool .. | exact lenS_str .. | assumption) | exact (show extV (.tup _) _ = some _ from rfl) | exact s.ld1 0 rfl (by assumption) _ rfl | exact s.ld1 1 rfl (by assumption) _ rfl | exact s.ld1 2 rfl (by assumption) _ rfl | exact s.ld1 3 rfl (by assumption) _ rfl | exact s.ld1 4 rfl (by assumption) _ rfl | exact s.ld1 5 rfl (by assumption) _ rfl | exact s.ld1 6 rfl (by assumption) _ rfl | exact s.ld1 7 rfl (by assumption) _ rfl | exact s.ld1 8 rfl (by assumption) _ rfl | exact s.ld1 9 rfl (by assumption) _ rfl | exact s.ld1 10 rfl (by assumption) _ rfl | exact s.ld1 11 rfl (by assumption) _ rfl | exact bload_ld1 (by assumption) _ rfl | exact bload_ldn (by assumption) _ _ (Nat.le_refl _) | exact (show bldV _ _ = some _ from rfl) | ((first | apply s.ldn 0 rfl | apply s.ldn 1 rfl | apply s.ldn 2 rfl | apply s.ldn 3 rfl | apply s.ldn 4 rfl | apply s.ldn 5 rfl | apply s.ldn 6 rfl | apply s.ldn 7 rfl | apply s.ldn 8 rfl | apply s.ldn 9 rfl | apply s.ldn 10 rfl | apply s.ldn 11 rfl); (· assumption); (· first | exact Nat.le_refl _ | decide | (simp; done)); (· rfl))) ?_)
   | (with_reducible first | refine Wp.onT (by assumption) ?_ | refine Wp.onF (by assumption) ?_ | refine Wp.spT (by assumption) ?_ | refine Wp.spF (by assumption) ?_)
   | ((with_reducible refine Wp.gbx ?_); refine Wp.box s rfl fun _p _g _p0 _F s => ?_)
   | ((with_reducible refine Wp.gal ?_); refine Wp.alo s fun _p _g _p0 _F s => ?_)
   | ((with_reducible refine Wp.gst ?_); (first | apply Wp.sto s 0 rfl | apply Wp.sto s 1 rfl | apply Wp.sto s 2 rfl | apply Wp.sto s 3 rfl | apply Wp.sto s 4 rfl | apply Wp.sto s 5 rfl | apply Wp.sto s 6 rfl | apply Wp.sto s 7 rfl | apply Wp.sto s 8 rfl | apply Wp.sto s 9 rfl | apply Wp.sto s 10 rfl | apply Wp.sto s 11 rfl); (· assumption); (· first | rfl | assumption); (· rfl); (· first | exact Nat.le_refl _ | decide | (simp; done)); (· rfl); intro _g _F s; simp only [List.set_cons_succ, List.set_cons_zero, List.take_succ_cons, List.take_zero, List.drop_succ_cons, List.drop_zero, List.drop_nil, List.nil_append, List.cons_append, List.append_nil, Nat.zero_add, Nat.reduceAdd] at s))
  refine Wp.bind (fold21 l (by omega) x _ s.k (by first | exact s.rv 0 ox rfl | exact s.rv 1 ox rfl | exact s.rv 2 ox rfl | exact s.rv 3 ox rfl | exact s.rv 4 ox rfl | exact s.rv 5 ox rfl | exact s.rv 6 ox rfl | exact s.rv 7 ox rfl | exact s.rv 8 ox rfl | exact s.rv 9 ox rfl | exact s.rv 10 ox rfl | exact s.rv 11 ox rfl | exact s.rv 12 ox rfl | exact s.rv 13 ox rfl | exact s.rv 14 ox rfl | exact s.rv 15 ox rfl | exact s.rv 16 ox rfl | exact s.rv 17 ox rfl)) ?_
  rintro _ g4 ⟨w1, w2, w3, i1, i2, i3, rfl, s', p1, p2, p3⟩
  replace s := s.call s'
  simp only [List.cons_append, List.nil_append] at s
  dsimp only
  have _c := p1.cells
  have _n := p1.nt
  have _c := p2.cells
  have _n := p2.nt
  have _c := p3.cells
  have _n := p3.nt
  repeat (first
   | ((with_reducible refine Wp.gb ?_); refine Wp.b (by first | (with_reducible first | exact fA_p (by assumption) | exact fA_o (by assumption) | exact nilC_ptr (by assumption) | exact bin_lss .. | exact bin_leq .. | exact bin_gtr .. | exact bin_geq .. | exact bin_eql .. | exact bin_neq .. | exact bin_add .. | exact bin_sub .. | exact bin_mul .. | exact str_eql .. | exact str_neq .. | exact str_lss .. | exact str_gtr .. | exact str_geq .. | exact str_leq .. | exact not_bool .. | exact lenS_str .. | assumption) | exact (show extV (.tup _) _ = some _ from rfl) | exact s.ld1 0 rfl (by assumption) _ rfl | exact s.ld1 1 rfl (by assumption) _ rfl | exact s.ld1 2 rfl (by assumption) _ rfl | exact s.ld1 3 rfl (by assumption) _ rfl | exact s.ld1 4 rfl (by assumption) _ rfl | exact s.ld1 5 rfl (by assumption) _ rfl | exact s.ld1 6 rfl (by assumption) _ rfl | exact s.ld1 7 rfl (by assumption) _ rfl | exact s.ld1 8 rfl (by assumption) _ rfl | exact s.ld1 9 rfl (by assumption) _ rfl | exact s.ld1 10 rfl (by assumption) _ rfl | exact s.ld1 11 rfl (by assumption) _ rfl | exact bload_ld1 (by assumption) _ rfl | exact bload_ldn (by assumption) _ _ (Nat.le_refl _) | exact (show bldV _ _ = some _ from rfl) | ((first | apply s.ldn 0 rfl | apply s.ldn 1 rfl | apply s.ldn 2 rfl | apply s.ldn 3 rfl | apply s.ldn 4 rfl | apply s.ldn 5 rfl | apply s.ldn 6 rfl | apply s.ldn 7 rfl | apply s.ldn 8 rfl | apply s.ldn 9 rfl | apply s.ldn 10 rfl | apply s.ldn 11 rfl); (· assumption); (· first | exact Nat.le_refl _ | decide | (simp; done)); (· rfl))) ?_)
   | (with_reducible first | refine Wp.onT (by assumption) ?_ | refine Wp.onF (by assumption) ?_ | refine Wp.spT (by assumption) ?_ | refine Wp.spF (by assumption) ?_)
   | ((with_reducible refine Wp.gbx ?_); refine Wp.box s rfl fun _p _g _p0 _F s => ?_)
   | ((with_reducible refine Wp.gal ?_); refine Wp.alo s fun _p _g _p0 _F s => ?_)
   | ((with_reducible refine Wp.gst ?_); (first | apply Wp.sto s 0 rfl | apply Wp.sto s 1 rfl | apply Wp.sto s 2 rfl | apply Wp.sto s 3 rfl | apply Wp.sto s 4 rfl | apply Wp.sto s 5 rfl | apply Wp.sto s 6 rfl | apply Wp.sto s 7 rfl | apply Wp.sto s 8 rfl | apply Wp.sto s 9 rfl | apply Wp.sto s 10 rfl | apply Wp.sto s 11 rfl); (· assumption); (· first | rfl | assumption); (· rfl); (· first | exact Nat.le_refl _ | decide | (simp; done)); (· rfl); intro _g _F s; simp only [List.set_cons_succ, List.set_cons_zero, List.take_succ_cons, List.take_zero, List.drop_succ_cons, List.drop_zero, List.drop_nil, List.nil_append, List.cons_append, List.append_nil, Nat.zero_add, Nat.reduceAdd] at s))
  refine Wp.b (neq_bool _ _ _ _ (by kernel_rfl)) (Wp.spF (by simp) ?_)
  refine Wp.b o3.len (Wp.b p3.len (Wp.b (bin_neq _ _ _ _ _) (Wp.spF (by simp) ?_)))
  repeat (first
   | ((with_reducible refine Wp.gb ?_); refine Wp.b (by first | (with_reducible first | exact fA_p (by assumption) | exact fA_o (by assumption) | exact nilC_ptr (by assumption) | exact bin_lss .. | exact bin_leq .. | exact bin_gtr .. | exact bin_geq .. | exact bin_eql .. | exact bin_neq .. | exact bin_add .. | exact bin_sub .. | exact bin_mul .. | exact str_eql .. | exact str_neq .. | exact str_lss .. | exact str_gtr .. | exact str_geq .. | exact str_leq .. | exact not_bool .. | exact lenS_str .. | assumption) | exact (show extV (.tup _) _ = some _ from rfl) | exact s.ld1 0 rfl (by assumption) _ rfl | exact s.ld1 1 rfl (by assumption) _ rfl | exact s.ld1 2 rfl (by assumption) _ rfl | exact s.ld1 3 rfl (by assumption) _ rfl | exact s.ld1 4 rfl (by assumption) _ rfl | exact s.ld1 5 rfl (by assumption) _ rfl | exact s.ld1 6 rfl (by assumption) _ rfl | exact s.ld1 7 rfl (by assumption) _ rfl | exact s.ld1 8 rfl (by assumption) _ rfl | exact s.ld1 9 rfl (by assumption) _ rfl | exact s.ld1 10 rfl (by assumption) _ rfl | exact s.ld1 11 rfl (by assumption) _ rfl | exact bload_ld1 (by assumption) _ rfl | exact bload_ldn (by assumption) _ _ (Nat.le_refl _) | exact (show bldV _ _ = some _ from rfl) | ((first | apply s.ldn 0 rfl | apply s.ldn 1 rfl | apply s.ldn 2 rfl | apply s.ldn 3 rfl | apply s.ldn 4 rfl | apply s.ldn 5 rfl | apply s.ldn 6 rfl | apply s.ldn 7 rfl | apply s.ldn 8 rfl | apply s.ldn 9 rfl | apply s.ldn 10 rfl | apply s.ldn 11 rfl); (· assumption); (· first | exact Nat.le_refl _ | decide | (simp; done)); (· rfl))) ?_)
   | (with_reducible first | refine Wp.onT (by assumption) ?_ | refine Wp.onF (by assumption) ?_ | refine Wp.spT (by assumption) ?_ | refine Wp.spF (by assumption) ?_)
   | ((with_reducible refine Wp.gbx ?_); refine Wp.box s rfl fun _p _g _p0 _F s => ?_)
   | ((with_reducible refine Wp.gal ?_); refine Wp.alo s fun _p _g _p0 _F s => ?_))
  refine Wp.bind (same22 (foldR l).1 q1 q2 u1 u2 w1 w2 _ s.k (by first | exact s.rv 0 o1 rfl | exact s.rv 1 o1 rfl | exact s.rv 2 o1 rfl | exact s.rv 3 o1 rfl | exact s.rv 4 o1 rfl | exact s.rv 5 o1 rfl | exact s.rv 6 o1 rfl | exact s.rv 7 o1 rfl | exact s.rv 8 o1 rfl | exact s.rv 9 o1 rfl | exact s.rv 10 o1 rfl | exact s.rv 11 o1 rfl | exact s.rv 12 o1 rfl | exact s.rv 13 o1 rfl | exact s.rv 14 o1 rfl | exact s.rv 15 o1 rfl | exact s.rv 16 o1 rfl | exact s.rv 17 o1 rfl) (by first | exact s.rv 0 o2 rfl | exact s.rv 1 o2 rfl | exact s.rv 2 o2 rfl | exact s.rv 3 o2 rfl | exact s.rv 4 o2 rfl | exact s.rv 5 o2 rfl | exact s.rv 6 o2 rfl | exact s.rv 7 o2 rfl | exact s.rv 8 o2 rfl | exact s.rv 9 o2 rfl | exact s.rv 10 o2 rfl | exact s.rv 11 o2 rfl | exact s.rv 12 o2 rfl | exact s.rv 13 o2 rfl | exact s.rv 14 o2 rfl | exact s.rv 15 o2 rfl | exact s.rv 16 o2 rfl | exact s.rv 17 o2 rfl) (by first | exact s.rv 0 p1 rfl | exact s.rv 1 p1 rfl | exact s.rv 2 p1 rfl | exact s.rv 3 p1 rfl | exact s.rv 4 p1 rfl | exact s.rv 5 p1 rfl | exact s.rv 6 p1 rfl | exact s.rv 7 p1 rfl | exact s.rv 8 p1 rfl | exact s.rv 9 p1 rfl | exact s.rv 10 p1 rfl | exact s.rv 11 p1 rfl | exact s.rv 12 p1 rfl | exact s.rv 13 p1 rfl | exact s.rv 14 p1 rfl | exact s.rv 15 p1 rfl | exact s.rv 16 p1 rfl | exact s.rv 17 p1 rfl) (by first | exact s.rv 0 p2 rfl | exact s.rv 1 p2 rfl | exact s.rv 2 p2 rfl | exact s.rv 3 p2 rfl | exact s.rv 4 p2 rfl | exact s.rv 5 p2 rfl | exact s.rv 6 p2 rfl | exact s.rv 7 p2 rfl | exact s.rv 8 p2 rfl | exact s.rv 9 p2 rfl | exact s.rv 10 p2 rfl | exact s.rv 11 p2 rfl | exact s.rv 12 p2 rfl | exact s.rv 13 p2 rfl | exact s.rv 14 p2 rfl | exact s.rv 15 p2 rfl | exact s.rv 16 p2 rfl | exact s.rv 17 p2 rfl)) ?_
  rintro _ _g ⟨rfl, _F⟩
  replace s := s.fr0 _F
  try dsimp only
  refine Wp.b (not_bool _) (Wp.onF rfl ?_)
  rw [S4_j17_eq]
  refine Wp.b (not_bool _) (Wp.on (fun hc => ?_) (fun hc => ?_))
  · have hc : ¬ l.length ≤ 100 := by simpa using hc
    refine Wp.b o3.len (Wp.b (bin_eql _ _ _ _ _) (Wp.r1 rfl rfl ?_))
    unfold foldR
    rw [if_neg hc]
    simp
  · have hc : l.length ≤ 100 := by simpa using hc
    refine Wp.b o3.len ?_
    refine m20 (foldR l).2 (by omega) _ _ _ (by first | exact s.rv 0 o3 rfl | exact s.rv 1 o3 rfl | exact s.rv 2 o3 rfl | exact s.rv 3 o3 rfl | exact s.rv 4 o3 rfl | exact s.rv 5 o3 rfl | exact s.rv 6 o3 rfl | exact s.rv 7 o3 rfl | exact s.rv 8 o3 rfl | exact s.rv 9 o3 rfl | exact s.rv 10 o3 rfl | exact s.rv 11 o3 rfl | exact s.rv 12 o3 rfl | exact s.rv 13 o3 rfl | exact s.rv 14 o3 rfl | exact s.rv 15 o3 rfl | exact s.rv 16 o3 rfl | exact s.rv 17 o3 rfl) (by first | exact s.rv 0 p3 rfl | exact s.rv 1 p3 rfl | exact s.rv 2 p3 rfl | exact s.rv 3 p3 rfl | exact s.rv 4 p3 rfl | exact s.rv 5 p3 rfl | exact s.rv 6 p3 rfl | exact s.rv 7 p3 rfl | exact s.rv 8 p3 rfl | exact s.rv 9 p3 rfl | exact s.rv 10 p3 rfl | exact s.rv 11 p3 rfl | exact s.rv 12 p3 rfl | exact s.rv 13 p3 rfl | exact s.rv 14 p3 rfl | exact s.rv 15 p3 rfl | exact s.rv 16 p3 rfl | exact s.rv 17 p3 rfl) ?_ (foldR l).2 [] rfl
    rw [S4_l20_eq]
    refine Wp.b (bin_lss _ _ _ _ _) (Wp.onF (by simp) ?_)
    repeat (first
     | ((with_reducible refine Wp.gb ?_); refine Wp.b (by first | (with_reducible first | exact fA_p (by assumption) | exact fA_o (by assumption) | exact nilC_ptr (by assumption) | exact bin_lss .. | exact bin_leq .. | exact bin_gtr .. | exact bin_geq .. | exact bin_eql .. | exact bin_neq .. | exact bin_add .. | exact bin_sub .. | exact bin_mul .. | exact str_eql .. | exact str_neq .. | exact str_lss .. | exact str_gtr .. | exact str_geq .. | exact str_leq .. | exact not_bool .. | exact lenS_str .. | assumption) | exact (show extV (.tup _) _ = some _ from rfl) | exact s.ld1 0 rfl (by assumption) _ rfl | exact s.ld1 1 rfl (by assumption) _ rfl | exact s.ld1 2 rfl (by assumption) _ rfl | exact s.ld1 3 rfl (by assumption) _ rfl | exact s.ld1 4 rfl (by assumption) _ rfl | exact s.ld1 5 rfl (by assumption) _ rfl | exact s.ld1 6 rfl (by assumption) _ rfl | exact s.ld1 7 rfl (by assumption) _ rfl | exact s.ld1 8 rfl (by assumption) _ rfl | exact s.ld1 9 rfl (by assumption) _ rfl | exact s.ld1 10 rfl (by assumption) _ rfl | exact s.ld1 11 rfl (by assumption) _ rfl | exact bload_ld1 (by assumption) _ rfl | exact bload_ldn (by assumption) _ _ (Nat.le_refl _) | exact (show bldV _ _ = some _ from rfl) | ((first | apply s.ldn 0 rfl | apply s.ldn 1 rfl | apply s.ldn 2 rfl | apply s.ldn 3 rfl | apply s.ldn 4 rfl | apply s.ldn 5 rfl | apply s.ldn 6 rfl | apply s.ldn 7 rfl | apply s.ldn 8 rfl | apply s.ldn 9 rfl | apply s.ldn 10 rfl | apply s.ldn 11 rfl); (· assumption); (· first | exact Nat.le_refl _ | decide | (simp; done)); (· rfl))) ?_)
     | (with_reducible first | refine Wp.onT (by assumption) ?_ | refine Wp.onF (by assumption) ?_ | refine Wp.spT (by assumption) ?_ | refine Wp.spF (by assumption) ?_)
     | ((with_reducible refine Wp.gbx ?_); refine Wp.box s rfl fun _p _g _p0 _F s => ?_)
     | ((with_reducible refine Wp.gal ?_); refine Wp.alo s fun _p _g _p0 _F s => ?_)
     | ((with_reducible refine Wp.gst ?_); (first | apply Wp.sto s 0 rfl | apply Wp.sto s 1 rfl | apply Wp.sto s 2 rfl | apply Wp.sto s 3 rfl | apply Wp.sto s 4 rfl | apply Wp.sto s 5 rfl | apply Wp.sto s 6 rfl | apply Wp.sto s 7 rfl | apply Wp.sto s 8 rfl | apply Wp.sto s 9 rfl | apply Wp.sto s 10 rfl | apply Wp.sto s 11 rfl); (· assumption); (· first | rfl | assumption); (· rfl); (· first | exact Nat.le_refl _ | decide | (simp; done)); (· rfl); intro _g _F s; simp only [List.set_cons_succ, List.set_cons_zero, List.take_succ_cons, List.take_zero, List.drop_succ_cons, List.drop_zero, List.drop_nil, List.nil_append, List.cons_append, List.append_nil, Nat.zero_add, Nat.reduceAdd] at s))
    have hx := ox.len
    repeat (first
     | ((with_reducible refine Wp.gb ?_); refine Wp.b (by first | (with_reducible first | exact fA_p (by assumption) | exact fA_o (by assumption) | exact nilC_ptr (by assumption) | exact bin_lss .. | exact bin_leq .. | exact bin_gtr .. | exact bin_geq .. | exact bin_eql .. | exact bin_neq .. | exact bin_add .. | exact bin_sub .. | exact bin_mul .. | exact str_eql .. | exact str_neq .. | exact str_lss .. | exact str_gtr .. | exact str_geq .. | exact str_leq .. | exact not_bool .. | exact lenS_str .. | assumption) | exact (show extV (.tup _) _ = some _ from rfl) | exact s.ld1 0 rfl (by assumption) _ rfl | exact s.ld1 1 rfl (by assumption) _ rfl | exact s.ld1 2 rfl (by assumption) _ rfl | exact s.ld1 3 rfl (by assumption) _ rfl | exact s.ld1 4 rfl (by assumption) _ rfl | exact s.ld1 5 rfl (by assumption) _ rfl | exact s.ld1 6 rfl (by assumption) _ rfl | exact s.ld1 7 rfl (by assumption) _ rfl | exact s.ld1 8 rfl (by assumption) _ rfl | exact s.ld1 9 rfl (by assumption) _ rfl | exact s.ld1 10 rfl (by assumption) _ rfl | exact s.ld1 11 rfl (by assumption) _ rfl | exact bload_ld1 (by assumption) _ rfl | exact bload_ldn (by assumption) _ _ (Nat.le_refl _) | exact (show bldV _ _ = some _ from rfl) | ((first | apply s.ldn 0 rfl | apply s.ldn 1 rfl | apply s.ldn 2 rfl | apply s.ldn 3 rfl | apply s.ldn 4 rfl | apply s.ldn 5 rfl | apply s.ldn 6 rfl | apply s.ldn 7 rfl | apply s.ldn 8 rfl | apply s.ldn 9 rfl | apply s.ldn 10 rfl | apply s.ldn 11 rfl); (· assumption); (· first | exact Nat.le_refl _ | decide | (simp; done)); (· rfl))) ?_)
     | (with_reducible first | refine Wp.onT (by assumption) ?_ | refine Wp.onF (by assumption) ?_ | refine Wp.spT (by assumption) ?_ | refine Wp.spF (by assumption) ?_)
     | ((with_reducible refine Wp.gbx ?_); refine Wp.box s rfl fun _p _g _p0 _F s => ?_)
     | ((with_reducible refine Wp.gal ?_); refine Wp.alo s fun _p _g _p0 _F s => ?_))
    have s2 := s.sub (M := [(_p, [V.sl 0 0 0 0, V.sl 0 0 0 0]), (iL, flat l)]) (by repeat (first | exact List.Sublist.refl _ | apply List.Sublist.cons_cons | apply List.Sublist.cons))
    exact l28 l hc x iL ox _ (by assumption) l.length 0 (by omega) [] (.sl 0 0 0 0) (.sl 0 0 0 0) (.sl 0 0 0 0) 0 0 _ (by simp) (fun x hx => by cases hx) OV.nil OV.nil s2.nil1.nil1
set_option maxHeartbeats 8000000 in
theorem law4 {code more : List UInt8} (v1 v2 : V) (h : H) (hk : Hok h) (r1 : RV h v1 code) (r2 : RV h v2 more) :
    Wp (R 4 [v1, v2] h) fun r h' => r = .bool true := by
  refine R4 rfl ?_
  rw [S4_eq]
  refine Wp.b r1.len (Wp.b r2.len (Wp.b (bin_add _ _ _ _ _) (Wp.b (bin_gtr _ _ _ _ _) (Wp.on (fun hc => Wp.r1 rfl rfl rfl) (fun hc => ?_)))))
  refine Wp.bind (draw15 h hk r1) ?_
  rintro _ g1 ⟨⟨c, rfl⟩, F⟩
  have s := Mm.base hk
  replace s := s.fr0 F
  dsimp only
  refine Wp.alo s fun p g2 p0 F s => ?_
  refine Wp.sto s 0 rfl p0 (o := 0) (n := 6) (vs := c.en) rfl rfl (by show 0 + 6 ≤ 6; decide) (ds := c.en) rfl fun g3 F s => ?_
  refine Wp.b (s.ldn 0 rfl p0 0 6 (Nat.le_refl 6) (ds := c.en) rfl) ?_
  refine Wp.bind (by16 c _ s.k) ?_
  rintro _ _g ⟨rfl, _F⟩
  replace s := s.fr0 _F
  try dsimp only
  repeat (first
   | ((with_reducible refine Wp.gb ?_); refine Wp.b (by first | (with_reducible first | exact fA_p (by assumption) | exact fA_o (by assumption) | exact nilC_ptr (by assumption) | exact bin_lss .. | exact bin_leq .. | exact bin_gtr .. | exact bin_geq .. | exact bin_eql .. | exact bin_neq .. | exact bin_add .. | exact bin_sub .. | exact bin_mul .. | exact str_eql .. | exact str_neq .. | exact str_lss .. | exact str_gtr .. | exact str_geq .. | exact str_leq .. | exact not_bool .. | exact lenS_str .. | assumption) | exact (show extV (.tup _) _ = some _ from rfl) | exact s.ld1 0 rfl (by assumption) _ rfl | exact s.ld1 1 rfl (by assumption) _ rfl | exact s.ld1 2 rfl (by assumption) _ rfl | exact s.ld1 3 rfl (by assumption) _ rfl | exact s.ld1 4 rfl (by assumption) _ rfl | exact s.ld1 5 rfl (by assumption) _ rfl | exact s.ld1 6 rfl (by assumption) _ rfl | exact s.ld1 7 rfl (by assumption) _ rfl | exact s.ld1 8 rfl (by assumption) _ rfl | exact s.ld1 9 rfl (by assumption) _ rfl | exact s.ld1 10 rfl (by assumption) _ rfl | exact s.ld1 11 rfl (by assumption) _ rfl | exact bload_ld1 (by assumption) _ rfl | exact bload_ldn (by assumption) _ _ (Nat.le_refl _) | exact (show bldV _ _ = some _ from rfl) | ((first | apply s.ldn 0 rfl | apply s.ldn 1 rfl | apply s.ldn 2 rfl | apply s.ldn 3 rfl | apply s.ldn 4 rfl | apply s.ldn 5 rfl | apply s.ldn 6 rfl | apply s.ldn 7 rfl | apply s.ldn 8 rfl | apply s.ldn 9 rfl | apply s.ldn 10 rfl | apply s.ldn 11 rfl); (· assumption); (· first | exact Nat.le_refl _ | decide | (simp; done)); (· rfl))) ?_)
   | (with_reducible first | refine Wp.onT (by assumption) ?_ | refine Wp.onF (by assumption) ?_ | refine Wp.spT (by assumption) ?_ | refine Wp.spF (by assumption) ?_)
   | ((with_reducible refine Wp.gbx ?_); refine Wp.box s rfl fun _p _g _p0 _F s => ?_)
   | ((with_reducible refine Wp.gal ?_); refine Wp.alo s fun _p _g _p0 _F s => ?_))
  refine Wp.bind (by17 c _ s.k) ?_
  rintro _ _g ⟨rfl, _F⟩
  replace s := s.fr0 _F
  try dsimp only
  repeat (first
   | ((with_reducible refine Wp.gb ?_); refine Wp.b (by first | (with_reducible first | exact fA_p (by assumption) | exact fA_o (by assumption) | exact nilC_ptr (by assumption) | exact bin_lss .. | exact bin_leq .. | exact bin_gtr .. | exact bin_geq .. | exact bin_eql .. | exact bin_neq .. | exact bin_add .. | exact bin_sub .. | exact bin_mul .. | exact str_eql .. | exact str_neq .. | exact str_lss .. | exact str_gtr .. | exact str_geq .. | exact str_leq .. | exact not_bool .. | exact lenS_str .. | assumption) | exact (show extV (.tup _) _ = some _ from rfl) | exact s.ld1 0 rfl (by assumption) _ rfl | exact s.ld1 1 rfl (by assumption) _ rfl | exact s.ld1 2 rfl (by assumption) _ rfl | exact s.ld1 3 rfl (by assumption) _ rfl | exact s.ld1 4 rfl (by assumption) _ rfl | exact s.ld1 5 rfl (by assumption) _ rfl | exact s.ld1 6 rfl (by assumption) _ rfl | exact s.ld1 7 rfl (by assumption) _ rfl | exact s.ld1 8 rfl (by assumption) _ rfl | exact s.ld1 9 rfl (by assumption) _ rfl | exact s.ld1 10 rfl (by assumption) _ rfl | exact s.ld1 11 rfl (by assumption) _ rfl | exact bload_ld1 (by assumption) _ rfl | exact bload_ldn (by assumption) _ _ (Nat.le_refl _) | exact (show bldV _ _ = some _ from rfl) | ((first | apply s.ldn 0 rfl | apply s.ldn 1 rfl | apply s.ldn 2 rfl | apply s.ldn 3 rfl | apply s.ldn 4 rfl | apply s.ldn 5 rfl | apply s.ldn 6 rfl | apply s.ldn 7 rfl | apply s.ldn 8 rfl | apply s.ldn 9 rfl | apply s.ldn 10 rfl | apply s.ldn 11 rfl); (· assumption); (· first | exact Nat.le_refl _ | decide | (simp; done)); (· rfl))) ?_)
   | (with_reducible first | refine Wp.onT (by assumption) ?_ | refine Wp.onF (by assumption) ?_ | refine Wp.spT (by assumption) ?_ | refine Wp.spF (by assumption) ?_)
   | ((with_reducible refine Wp.gbx ?_); refine Wp.box s rfl fun _p _g _p0 _F s => ?_)
   | ((with_reducible refine Wp.gal ?_); refine Wp.alo s fun _p _g _p0 _F s => ?_))
  refine Wp.b (neq_bool _ _ _ _ (by kernel_rfl)) (Wp.spF (by simp) ?_)
  refine Wp.b (str_neq _ _ _ _) (Wp.onF (by simp) ?_)
  rw [S4_j8_eq]
  refine Wp.on (fun ok => ?_) (fun ok => j12_4 _ s.k (s.bor r2))
  rw [if_pos ok]
  refine Wp.bind (read18 c ok _ s.k) ?_
  rintro _ _g ⟨rfl, _F⟩
  replace s := s.fr0 _F
  try dsimp only
  repeat (first
   | ((with_reducible refine Wp.gb ?_); refine Wp.b (by first | (with_reducible first | exact fA_p (by assumption) | exact fA_o (by assumption) | exact nilC_ptr (by assumption) | exact bin_lss .. | exact bin_leq .. | exact bin_gtr .. | exact bin_geq .. | exact bin_eql .. | exact bin_neq .. | exact bin_add .. | exact bin_sub .. | exact bin_mul .. | exact str_eql .. | exact str_neq .. | exact str_lss .. | exact str_gtr .. | exact str_geq .. | exact str_leq .. | exact not_bool .. | exact lenS_str .. | assumption) | exact (show extV (.tup _) _ = some _ from rfl) | exact s.ld1 0 rfl (by assumption) _ rfl | exact s.ld1 1 rfl (by assumption) _ rfl | exact s.ld1 2 rfl (by assumption) _ rfl | exact s.ld1 3 rfl (by assumption) _ rfl | exact s.ld1 4 rfl (by assumption) _ rfl | exact s.ld1 5 rfl (by assumption) _ rfl | exact s.ld1 6 rfl (by assumption) _ rfl | exact s.ld1 7 rfl (by assumption) _ rfl | exact s.ld1 8 rfl (by assumption) _ rfl | exact s.ld1 9 rfl (by assumption) _ rfl | exact s.ld1 10 rfl (by assumption) _ rfl | exact s.ld1 11 rfl (by assumption) _ rfl | exact bload_ld1 (by assumption) _ rfl | exact bload_ldn (by assumption) _ _ (Nat.le_refl _) | exact (show bldV _ _ = some _ from rfl) | ((first | apply s.ldn 0 rfl | apply s.ldn 1 rfl | apply s.ldn 2 rfl | apply s.ldn 3 rfl | apply s.ldn 4 rfl | apply s.ldn 5 rfl | apply s.ldn 6 rfl | apply s.ldn 7 rfl | apply s.ldn 8 rfl | apply s.ldn 9 rfl | apply s.ldn 10 rfl | apply s.ldn 11 rfl); (· assumption); (· first | exact Nat.le_refl _ | decide | (simp; done)); (· rfl))) ?_)
   | (with_reducible first | refine Wp.onT (by assumption) ?_ | refine Wp.onF (by assumption) ?_ | refine Wp.spT (by assumption) ?_ | refine Wp.spF (by assumption) ?_)
   | ((with_reducible refine Wp.gbx ?_); refine Wp.box s rfl fun _p _g _p0 _F s => ?_)
   | ((with_reducible refine Wp.gal ?_); refine Wp.alo s fun _p _g _p0 _F s => ?_))
  refine Wp.sto s 0 rfl (by assumption) (o := 0) (n := 6) (vs := c.en) rfl rfl (by show 0 + 6 ≤ 6; decide) (ds := c.en) rfl fun g3 F s => ?_
  refine Wp.b (not_bool _) (Wp.spF rfl ?_)
  refine Wp.b (s.ldn 0 rfl (by assumption) 0 6 (Nat.le_refl 6) (ds := c.en) rfl) ?_
  refine Wp.b (s.ldn 1 rfl p0 0 6 (Nat.le_refl 6) (ds := c.en) rfl) ?_
  refine Wp.b (cmNe c) (Wp.onF rfl ?_)
  exact j12_4 _ s.k (s.bor r2)
end Go.Proofs.Ythoabddfionmoaa.AH
namespace Go.Proofs.Ythoabddfionmoaa.AH
open Go Go.RowKit

/-- The kinds of a type's cells. -/
inductive CK where
  | int (k : IntKind)
  | bool
  | str
  | sl (es : List CK)

mutual
def HasC (h : H) : CK → V → Prop
  | .int k, v => ∃ n, v = .int k n ∧ (Lit.int k n).wf = true
  | .bool, v => ∃ b, v = .bool b
  | .str, v => ∃ s, v = .str s ∧ s.size ≤ reachBytes
  | .sl es, v => ∃ z id n, v = .sl z id 0 n ∧ n ≤ reachBytes ∧ (id = 0 ∧ n = 0 ∨ z = es.length ∧ id ≠ 0 ∧ id < h.next ∧ (h.blk id).alive = true ∧ ∃ rows : List (List V), rows.length = n ∧ (h.blk id).cells = rows.flatten ∧ ∀ r ∈ rows, HasL h es r)
def HasL (h : H) : List CK → List V → Prop
  | [], vs => vs = []
  | k :: ks, vs => ∃ v r, vs = v :: r ∧ HasC h k v ∧ HasL h ks r
end
theorem HasL.nil (h : H) (vs : List V) : HasL h [] vs = (vs = []) := by rw [HasL]
theorem HasL.cons (h : H) (k : CK) (ks : List CK) (vs : List V) : HasL h (k :: ks) vs = ∃ v r, vs = v :: r ∧ HasC h k v ∧ HasL h ks r := by rw [HasL]
theorem HasC.int (h : H) (k : IntKind) (v : V) : HasC h (.int k) v = ∃ n, v = .int k n ∧ (Lit.int k n).wf = true := by rw [HasC]
theorem HasC.bool (h : H) (v : V) : HasC h .bool v = ∃ b, v = .bool b := by rw [HasC]
theorem HasC.str (h : H) (v : V) : HasC h .str v = ∃ s, v = .str s ∧ s.size ≤ reachBytes := by rw [HasC]
theorem HasC.sl (h : H) (es : List CK) (v : V) : HasC h (.sl es) v = ∃ z id n, v = .sl z id 0 n ∧ n ≤ reachBytes ∧ (id = 0 ∧ n = 0 ∨ z = es.length ∧ id ≠ 0 ∧ id < h.next ∧ (h.blk id).alive = true ∧ ∃ rows : List (List V), rows.length = n ∧ (h.blk id).cells = rows.flatten ∧ ∀ r ∈ rows, HasL h es r) := by rw [HasC]
theorem HasL.one (h : H) (k : CK) (v : V) (x : HasC h k v) : HasL h [k] [v] := by
  rw [HasL.cons]; exact ⟨v, [], rfl, x, by rw [HasL.nil]⟩
theorem HasL.app {h : H} : ∀ {ks ks' : List CK} {vs vs' : List V}, HasL h ks vs → HasL h ks' vs' → HasL h (ks ++ ks') (vs ++ vs')
  | [], _, vs, _, x, y => by rw [HasL.nil] at x; subst x; exact y
  | k :: ks, _, vs, _, x, y => by
    rw [HasL.cons] at x
    obtain ⟨v, r, rfl, h1, h2⟩ := x
    rw [List.cons_append, HasL.cons]
    exact ⟨v, _, rfl, h1, HasL.app h2 y⟩
theorem HasL.len {h : H} : ∀ {ks : List CK} {vs : List V}, HasL h ks vs → vs.length = ks.length
  | [], vs, x => by rw [HasL.nil] at x; subst x; rfl
  | k :: ks, vs, x => by
    rw [HasL.cons] at x
    obtain ⟨v, r, rfl, _, h2⟩ := x
    simp [HasL.len h2]

/-- The heap has grown by blocks alone. -/
def Grew (h h' : H) : Prop := h.next ≤ h'.next ∧ ∀ id, id < h.next → h'.blk id = h.blk id
theorem Grew.refl (h : H) : Grew h h := ⟨Nat.le_refl _, fun _ _ => rfl⟩
theorem Grew.trans {a b c : H} (x : Grew a b) (y : Grew b c) : Grew a c := ⟨Nat.le_trans x.1 y.1, fun id hi => (y.2 id (Nat.lt_of_lt_of_le hi x.1)).trans (x.2 id hi)⟩
mutual
theorem HasC.grew {h h' : H} (g : Grew h h') : ∀ {k : CK} {v : V}, HasC h k v → HasC h' k v
  | .int k, v, x => by rw [HasC.int] at x ⊢; exact x
  | .bool, v, x => by rw [HasC.bool] at x ⊢; exact x
  | .str, v, x => by rw [HasC.str] at x ⊢; exact x
  | .sl es, v, x => by
    rw [HasC.sl] at x ⊢
    obtain ⟨z, id, n, rfl, hn, x⟩ := x
    refine ⟨z, id, n, rfl, hn, x.imp (fun q => q) fun ⟨h1, h2, h3, h4, rows, h5, h6, h7⟩ => ⟨h1, h2, Nat.lt_of_lt_of_le h3 g.1, by rw [g.2 _ h3]; exact h4, rows, h5, by rw [g.2 _ h3]; exact h6, fun r hr => HasL.grew g (h7 r hr)⟩⟩
theorem HasL.grew {h h' : H} (g : Grew h h') : ∀ {ks : List CK} {vs : List V}, HasL h ks vs → HasL h' ks vs
  | [], vs, x => by rw [HasL.nil] at x ⊢; exact x
  | k :: ks, vs, x => by
    rw [HasL.cons] at x ⊢
    obtain ⟨v, r, rfl, h1, h2⟩ := x
    exact ⟨v, r, rfl, HasC.grew g h1, HasL.grew g h2⟩
end

section
variable (P : Program)
mutual
def ckOf : Nat → TypeId → Option (List CK)
  | 0, _ => none
  | n + 1, t => match P.underlying t with
    | some .bool => some [.bool]
    | some (.int k) => some [.int k]
    | some .string => some [.str]
    | some (.slice e) => match ckOf n e with
      | some es => if P.cellsOf e = es.length ∧ 0 < es.length ∧ 0 < P.bytesOf e then some [.sl es] else none
      | none => none
    | some (.struct fs) => match ckFields n 0 fs.toList with
      | some ks => if P.cellsOf t = ks.length then some ks else none
      | none => none
    | _ => none
def ckFields : Nat → Nat → List Field → Option (List CK)
  | _, _, [] => some []
  | 0, _, _ => none
  | n + 1, off, f :: r => match ckOf n f.type with
    | some ks => if f.offset = off ∧ P.cellsOf f.type = ks.length then match ckFields n (off + ks.length) r with
      | some kr => some (ks ++ kr)
      | none => none else none
    | none => none
end
end
variable {P : Program}

/-- A block of what came in. -/
def H.ext (h : H) (cs : List V) : H := ⟨h.next + 1, h.next + 1, fun j => if j = h.next then ⟨cs, 0, true⟩ else h.blk j⟩
theorem ext_rel {B : Nat} {β : Bet} {h : H} {w : World} (x : RelH B β h w) (hl : h.lo = h.next) (cs : List V) (l : Loc) (hb : l.b < w.heap.size) (hr : cs.length ≤ l.room)
    (hc : ∀ i v, cs[i]? = some v → ∃ c, w.cell? ⟨l.b, l.base + i, none⟩ = some c ∧ RelC β v c) : RelH B (β.set h.next l) (h.ext cs) w ∧ Sub β (β.set h.next l) ∧ Grew h (h.ext cs) := by
  have hnone := (x.bnd h.next (Nat.le_refl _)).2
  have hsub : Sub β (β.set h.next l) := Bet.sub_set hnone
  have hblk : ∀ id, id ≠ h.next → (h.ext cs).blk id = h.blk id := fun id hne => by simp [H.ext, hne]
  have hnew : (h.ext cs).blk h.next = ⟨cs, 0, true⟩ := by simp [H.ext]
  have hdead : ∀ id, h.next + 1 ≤ id → ((h.ext cs).blk id).alive = false := fun id hi => by rw [hblk id (by omega)]; exact (x.bnd id (by omega)).1
  refine ⟨⟨?_, ?_, ?_, ?_, Nat.succ_pos _, Nat.le_refl _, x.hB, ?_⟩, hsub, ⟨Nat.le_succ _, fun id hi => hblk id (by omega)⟩⟩
  · intro id ha
    by_cases hne : id = h.next
    · subst hne
      refine ⟨l, Bet.set_same _ _ _, by rw [hnew]; exact hr, ?_, fun hlo => ?_⟩
      · intro i v hv
        rw [hnew] at hv
        obtain ⟨c, h1, h2⟩ := hc i v hv
        exact ⟨c, h1, h2.mono hsub⟩
      · have : h.next + 1 ≤ h.next := hlo
        omega
    · rw [hblk id hne] at ha
      obtain ⟨l', hb', hroom, hcell, _⟩ := x.cell id ha
      refine ⟨l', hsub _ _ hb', by rw [hblk id hne]; exact hroom, ?_, fun hlo => ?_⟩
      · intro i v hv
        rw [hblk id hne] at hv
        obtain ⟨c, h1, h2⟩ := hcell i v hv
        exact ⟨c, h1, h2.mono hsub⟩
      · have : h.next + 1 ≤ id := hlo
        rw [(x.bnd id (by omega)).1] at ha; cases ha
  · intro id id' l1 l2 ha ha' hne hlo
    have : h.next + 1 ≤ id := hlo
    rw [hdead id this] at ha; cases ha
  · intro id hi
    have hi' : h.next + 1 ≤ id := hi
    exact ⟨hdead id hi', by rw [Bet.set_ne β _ (by omega)]; exact (x.bnd id (by omega)).2⟩
  · have : (0 : Nat) ≠ h.next := by have := x.pos; omega
    rw [hblk 0 this]; exact x.zero
  · intro id l' hl'
    by_cases hne : id = h.next
    · subst hne; rw [Bet.set_same] at hl'; cases hl'; exact hb
    · rw [Bet.set_ne β _ hne] at hl'; exact x.blt id l' hl'

variable {H' : Type} {enc : TypeId × Value → H'} {w : World} {held : Bool}
/-- One more thing is opened. -/
def OpenTo (B : Nat) (w : World) (β : Bet) (h : H) (ks : List CK) (cs : List Value) : Prop :=
  ∃ β' h' vs, RelH B β' h' w ∧ h'.lo = h'.next ∧ Sub β β' ∧ Grew h h' ∧ All2 (RelC β') vs cs ∧ HasL h' ks vs
/-- A row of things, each so many cells. -/
theorem open_rows {B : Nat} {es : List CK} {a : Addr} {sz : Nat} (hsz : es.length = sz) : ∀ (n : Nat) (β : Bet) (h : H), RelH B β h w → h.lo = h.next →
    (∀ i, i < n → ∃ cs, (∀ j v, cs[j]? = some v → w.cell? (a.add (i * sz + j)) = some v) ∧ ∀ β h, RelH B β h w → h.lo = h.next → OpenTo B w β h es cs) →
    ∃ β' h', ∃ rows : List (List V), RelH B β' h' w ∧ h'.lo = h'.next ∧ Sub β β' ∧ Grew h h' ∧ rows.length = n ∧ (∀ r ∈ rows, HasL h' es r) ∧ ∀ i v, rows.flatten[i]? = some v → ∃ c, w.cell? (a.add i) = some c ∧ RelC β' v c
  | 0, β, h, x, hl, _ => ⟨β, h, [], x, hl, Sub.refl _, Grew.refl _, rfl, (fun r hr => by cases hr), (fun i v hv => by simp at hv)⟩
  | n + 1, β, h, x, hl, ho => by
    obtain ⟨β1, h1, rows, x1, hl1, s1, g1, hn, hr, hc⟩ := open_rows hsz n β h x hl (fun i hi => ho i (by omega))
    obtain ⟨cs, hcs, hop⟩ := ho n (by omega)
    obtain ⟨β2, h2, vs, x2, hl2, s2, g2, hrel, hhas⟩ := hop β1 h1 x1 hl1
    have hlr : ∀ r ∈ rows, r.length = sz := fun r hr' => by rw [← hsz]; exact (hr r hr').len
    have hfl : rows.flatten.length = n * sz := by
      rw [List.length_flatten, List.map_congr_left (f := List.length) (g := fun _ => sz) hlr, List.map_const', List.sum_replicate_nat, hn]
    refine ⟨β2, h2, rows ++ [vs], x2, hl2, s1.trans s2, g1.trans g2, by simp [hn], fun r hr' => ?_, fun i v hv => ?_⟩
    · rcases List.mem_append.1 hr' with q | q
      · exact (hr r q).grew g2
      · rw [List.mem_singleton] at q; subst q; exact hhas
    · rw [List.flatten_append, List.flatten_singleton] at hv
      by_cases hi : i < n * sz
      · rw [List.getElem?_append_left (by omega)] at hv
        obtain ⟨c, q1, q2⟩ := hc i v hv
        exact ⟨c, q1, q2.mono s2⟩
      · rw [List.getElem?_append_right (by omega), hfl] at hv
        obtain ⟨c, q1, q2⟩ := hrel.get hv
        have := hcs _ _ q1
        rw [show n * sz + (i - n * sz) = i by omega] at this
        exact ⟨c, this, q2⟩
mutual
theorem open_cells {B : Nat} (hw : 0 < w.heap.size) : ∀ (n : Nat) (t : TypeId) (cs : List Value) (fuel : Nat) (x : DataW H' × List MemPlace) (ks : List CK), ckOf P n t = some ks → DataW.trod enc P w 0 (fun _ => true) held fuel t cs = some x →
    (∀ m ∈ x.1.weights P t, m ≤ reachBytes) → ∀ β h, RelH B β h w → h.lo = h.next → OpenTo B w β h ks cs
  | 0, _, _, _, _, _, hk, _, _ => by simp [ckOf] at hk
  | n + 1, t, cs, fuel, x, ks, hk, ht, hwt => by
    intro β h hx hl
    unfold ckOf at hk
    split at hk
    · rename_i hu
      cases hk
      obtain ⟨b, rfl, rfl⟩ := DataW.trod_bool hu ht
      exact ⟨β, h, [.bool b], hx, hl, Sub.refl _, Grew.refl _, ⟨rfl, trivial⟩, HasL.one _ _ _ (by rw [HasC.bool]; exact ⟨b, rfl⟩)⟩
    · rename_i k hu
      cases hk
      obtain ⟨m, rfl, rfl, hwf⟩ := DataW.trod_int hu ht
      exact ⟨β, h, [.int k m], hx, hl, Sub.refl _, Grew.refl _, ⟨rfl, trivial⟩, HasL.one _ _ _ (by rw [HasC.int]; exact ⟨m, rfl, hwf⟩)⟩
    · rename_i hu
      cases hk
      obtain ⟨s, rfl, rfl, hs⟩ := DataW.trod_string hu ht
      have hsb : s.size ≤ reachBytes := by
        have := hwt s.data.toList.length (by simp [DataW.weights])
        simpa using this
      exact ⟨β, h, [.str s], hx, hl, Sub.refl _, Grew.refl _, ⟨rfl, trivial⟩, HasL.one _ _ _ (by rw [HasC.str]; exact ⟨s, rfl, hsb⟩)⟩
    · rename_i e hu
      split at hk
      · rename_i es hes
        split at hk
        · rename_i hc
          obtain ⟨hc1, hc2, hc3⟩ := hc
          cases hk
          rcases Go.Deep.open_slice hu ht with ⟨rfl, rfl⟩ | ⟨a, len, cap, m, k, D, Pl, rfl, _, hlen, hcap, hm, rfl, hel⟩
          · exact ⟨β, h, [.sl 0 0 0 0], hx, hl, Sub.refl _, Grew.refl _, ⟨.inl ⟨rfl, rfl, rfl, rfl⟩, trivial⟩, HasL.one _ _ _ (by rw [HasC.sl]; exact ⟨0, 0, 0, rfl, Nat.zero_le _, .inl ⟨rfl, rfl⟩⟩)⟩
          · simp only [if_true] at hm
            subst hm
            simp only [DataW.weights, hu] at hwt
            have hlb : (len + (m - len)) * P.bytesOf e ≤ reachBytes := by
              refine hwt _ ?_
              simp
            have hln : len ≤ reachBytes := by
              have : len * 1 ≤ (len + (m - len)) * P.bytesOf e := Nat.mul_le_mul (by omega) hc3
              omega
            have hwe : ∀ i, i < len → ∀ q ∈ (D i).weights P e, q ≤ reachBytes := fun i hi q hq => by
              refine hwt q (List.mem_cons_of_mem _ (List.mem_append_left _ ?_))
              have : ∀ (l : List (DataW H')) (d : DataW H'), d ∈ l → q ∈ d.weights P e → q ∈ DataW.weightsAll P e l := by
                intro l
                induction l with
                | nil => intro d hd; cases hd
                | cons a l ih =>
                  intro d hd hq
                  rw [DataW.weightsAll, List.mem_append]
                  rcases List.mem_cons.1 hd with rfl | hd
                  · exact .inl hq
                  · exact .inr (ih d hd hq)
              exact this _ (D i) (List.mem_map.2 ⟨i, List.mem_range.2 hi, rfl⟩) hq
            obtain ⟨β1, h1, rows, x1, hl1, s1, g1, hn, hr, hcell⟩ := open_rows (w := w) (a := a) (es := es) hc1.symm len β h hx hl (fun i hi => by
              obtain ⟨cs', q1, q2⟩ := hel i (by omega)
              obtain ⟨_, q3, q4⟩ := World.cells?_some q1
              refine ⟨cs', fun j v hj => ?_, fun β h hx hl => open_cells hw n e cs' k _ es hes q2 (hwe i hi) β h hx hl⟩
              have hjl := (List.getElem?_eq_some_iff.1 hj).1
              have := q4 j (by omega)
              rw [Go.Deep.add_add] at this
              rw [this]; exact hj)
            have hlr : ∀ r ∈ rows, r.length = es.length := fun r hr' => (hr r hr').len
            have hfl : rows.flatten.length = len * es.length := by
              rw [List.length_flatten, List.map_congr_left (f := List.length) (g := fun _ => es.length) hlr, List.map_const', List.sum_replicate_nat, hn]
            have hne1 : h1.next ≠ 0 := by have := x1.pos; omega
            have fin : ∀ l : Loc, l.b < w.heap.size → rows.flatten.length ≤ l.room → (∀ i v, rows.flatten[i]? = some v → ∃ c, w.cell? ⟨l.b, l.base + i, none⟩ = some c ∧ RelC β1 v c) → (0 < m → a = ⟨l.b, l.base + 0, none⟩ ∧ 0 + m * es.length ≤ l.room) → l.str = false → OpenTo B w β h [.sl es] [.slice (some a) len m] := by
              intro l q1 q2 q3 q4 q5
              obtain ⟨r1, r2, r3⟩ := ext_rel x1 hl1 rows.flatten l q1 q2 q3
              refine ⟨_, _, [.sl es.length h1.next 0 len], r1, rfl, s1.trans r2, g1.trans r3, ⟨.inr ⟨hne1, l, a, m, Bet.set_same _ _ _, rfl, hlen, q4, fun _ => q5⟩, trivial⟩, HasL.one _ _ _ ?_⟩
              rw [HasC.sl]
              have hb : (h1.ext rows.flatten).blk h1.next = ⟨rows.flatten, 0, true⟩ := by simp [H.ext]
              exact ⟨_, _, _, rfl, hln, .inr ⟨rfl, hne1, Nat.lt_succ_self _, by rw [hb], rows, hn, by rw [hb], fun r hr' => (hr r hr').grew r3⟩⟩
            by_cases hm0 : m = 0
            · have : len = 0 := by omega
              refine fin ⟨0, 0, 0, false⟩ hw (by rw [hfl, this]; simp) (fun i v hv => ?_) (fun q => by omega) rfl
              have := (List.getElem?_eq_some_iff.1 hv).1
              rw [hfl] at this
              simp [show len = 0 by omega] at this
            · obtain ⟨cs0, q1, q2⟩ := hel 0 (by omega)
              obtain ⟨_, q3, q4⟩ := World.cells?_some q1
              have hc0 := q4 0 (by omega)
              rw [List.getElem?_eq_getElem (by omega)] at hc0
              simp only [Nat.zero_mul, Addr.add, if_true] at hc0
              obtain ⟨te, nn, q5, q6, q7⟩ := World.shape?_of_cell? hc0
              obtain ⟨ab, ao, asp⟩ := a
              simp only at q7; subst q7
              have hab : ab < w.heap.size := by
                unfold World.shape? at q5
                simp only at q5
                split at q5
                · rename_i hq
                  exact (Array.getElem?_eq_some_iff.1 hq).1
                · cases q5
              refine fin ⟨ab, ao, m * es.length, false⟩ hab (by rw [hfl]; exact Nat.mul_le_mul_right _ hlen) (fun i v hv => ?_) (fun _ => ⟨by simp, by simp⟩) rfl
              obtain ⟨c, r1, r2⟩ := hcell i v hv
              rw [Addr.add_mid] at r1
              exact ⟨c, r1, r2⟩
        · cases hk
      · cases hk
    · rename_i fs hu
      obtain ⟨xs, k, rfl, rfl, hcl, hxl, hf⟩ := DataW.trod_struct hu ht
      simp only [DataW.weights, hu] at hwt
      split at hk
      case h_2 => cases hk
      rename_i ks' hk'
      split at hk
      case isFalse => cases hk
      rename_i hcells
      cases hk
      have key := open_fields (B := B) hw n fs.toList 0 cs k xs ks hk' (by simpa using hxl) (fun i f hi => hf i f (by simpa using hi)) hwt β h hx hl
      have hlen : cs.length = ks.length := by rw [hcl, hcells]
      rw [List.drop_zero] at key
      rw [List.take_of_length_le (by omega)] at key
      exact key
    · cases hk
theorem open_fields {B : Nat} (hw : 0 < w.heap.size) : ∀ (n : Nat) (fs : List Field) (off : Nat) (cs : List Value) (fuel : Nat) (xs : List (DataW H' × List MemPlace)) (ks : List CK), ckFields P n off fs = some ks → xs.length = fs.length →
    (∀ (i : Nat) (f : Field), fs[i]? = some f → DataW.trod enc P w 0 (fun _ => true) held fuel f.type ((cs.drop f.offset).take (P.cellsOf f.type)) = xs[i]?) →
    (∀ m ∈ DataW.weightsEach P (fs.map (·.type)) (xs.map (·.1)), m ≤ reachBytes) → ∀ β h, RelH B β h w → h.lo = h.next → OpenTo B w β h ks ((cs.drop off).take ks.length)
  | n, [], off, cs, fuel, xs, ks, hk, hxl, hf, hwt => by
    intro β h hx hl
    have : ks = [] := by cases n <;> simp [ckFields] at hk <;> exact hk
    subst this
    exact ⟨β, h, [], hx, hl, Sub.refl _, Grew.refl _, by simp [All2], by rw [HasL.nil]⟩
  | 0, f :: r, off, cs, fuel, xs, ks, hk, hxl, hf, hwt => by simp [ckFields] at hk
  | n + 1, f :: r, off, cs, fuel, xs, ks, hk, hxl, hf, hwt => by
    intro β h hx hl
    match xs, hxl with
    | x0 :: xr, hxl =>
      unfold ckFields at hk
      split at hk
      · rename_i k0 hk0
        split at hk
        · rename_i hc
          obtain ⟨ho, hcs⟩ := hc
          split at hk
          · rename_i kr hkr
            cases hk
            have h0 := hf 0 f rfl
            rw [ho, hcs] at h0
            obtain ⟨β1, h1, v1, x1, hl1, s1, g1, r1, a1⟩ := open_cells (B := B) hw n f.type _ fuel x0 k0 hk0 h0 (fun m hm => hwt m (by simp only [List.map_cons, DataW.weightsEach]; exact List.mem_append_left _ hm)) β h hx hl
            obtain ⟨β2, h2, v2, x2, hl2, s2, g2, r2, a2⟩ := open_fields (B := B) hw n r (off + k0.length) cs fuel xr kr hkr (by simpa using hxl) (fun i f hi => hf (i + 1) f (by simpa using hi)) (fun m hm => hwt m (by simp only [List.map_cons, DataW.weightsEach]; exact List.mem_append_right _ hm)) β1 h1 x1 hl1
            refine ⟨β2, h2, v1 ++ v2, x2, hl2, s1.trans s2, g1.trans g2, ?_, (a1.grew g2).app a2⟩
            have e : (cs.drop off).take (k0 ++ kr).length = (cs.drop off).take k0.length ++ (cs.drop (off + k0.length)).take kr.length := by
              rw [List.length_append, List.take_add, List.drop_drop]
            rw [e]
            exact (r1.mono (fun v c q => q.mono s2)).append r2
          · cases hk
        · cases hk
      · cases hk
end
end Go.Proofs.Ythoabddfionmoaa.AH
namespace Go.Proofs.Ythoabddfionmoaa.AH
open Go Go.RowKit Go.ChangeShapes Go.WideShapes
variable {P : Program}
def HasA (P : Program) (h : H) (t : TypeId) (u : V) : Prop := ∃ ks, ckOf P 14 t = some ks ∧ ((∃ fs us, P.underlying t = some (.struct fs) ∧ u = .agg us ∧ HasL h ks us) ∨ (∀ fs, P.underlying t ≠ some (.struct fs)) ∧ HasL h ks [u])
def HasAs (P : Program) (h : H) : List TypeId → List V → Prop
  | [], [] => True
  | t :: ts, u :: us => HasA P h t u ∧ HasAs P h ts us
  | _, _ => False
theorem HasA.grew {h h' : H} (g : Grew h h') {t : TypeId} {u : V} (x : HasA P h t u) : HasA P h' t u := by
  obtain ⟨ks, hk, x⟩ := x
  refine ⟨ks, hk, ?_⟩
  rcases x with ⟨fs, us, h1, h2, h3⟩ | ⟨h1, h2⟩
  · exact .inl ⟨fs, us, h1, h2, h3.grew g⟩
  · exact .inr ⟨h1, h2.grew g⟩
theorem HasAs.grew {h h' : H} (g : Grew h h') : ∀ {ts : List TypeId} {us : List V}, HasAs P h ts us → HasAs P h' ts us
  | [], [], _ => trivial
  | _ :: _, _ :: _, x => ⟨x.1.grew g, HasAs.grew g x.2⟩
  | [], _ :: _, x => x.elim
  | _ :: _, [], x => x.elim

section
variable {H' : Type} {enc : TypeId × Value → H'} {W : World} {held : Bool}
theorem open_arg {B base : Nat} (hw : 0 < W.heap.size) {t : TypeId} {v : Value} {d : DataW H'} {p : List MemPlace} {ks : List CK} (hk : ckOf P 14 t = some ks) (ht : DataW.Trod enc P W 0 (fun _ => true) held t v d p)
    (hv : Value.okWide P W .any base t v) (hwt : ∀ m ∈ d.weights P t, m ≤ reachBytes) {β : Bet} {h : H} (x : RelH B β h W) (hl : h.lo = h.next) :
    ∃ β' h' u, RelH B β' h' W ∧ h'.lo = h'.next ∧ Sub β β' ∧ Grew h h' ∧ RelV β' u v ∧ HasA P h' t u := by
  obtain ⟨fuel, ht⟩ := ht
  obtain ⟨β', h', vs, x1, hl1, s1, g1, r1, a1⟩ := open_cells hw 14 t _ fuel (d, p) ks hk ht hwt β h x hl
  by_cases hs : ∃ fs, P.underlying t = some (.struct fs)
  · obtain ⟨fs, hs⟩ := hs
    simp only [Value.okWide, hs] at hv
    obtain ⟨cs, rfl, _⟩ := hv
    refine ⟨β', h', .agg vs, x1, hl1, s1, g1, ⟨cs.toList, by simp, r1⟩, ks, hk, .inl ⟨fs, vs, hs, rfl, a1⟩⟩
  · have hs' : ∀ fs, P.underlying t ≠ some (.struct fs) := fun fs e => hs ⟨fs, e⟩
    have hone : v.cells.toList = [v] := by
      have hk2 := hk
      unfold ckOf at hk2
      split at hk2
      · rename_i hu
        simp only [Value.okWide, hu, Cell.okWide] at hv
        cases v <;> simp_all [Cell.ok, Value.cells]
      · rename_i k hu
        simp only [Value.okWide, hu, Cell.okWide] at hv
        cases v <;> simp_all [Cell.ok, Value.cells]
      · rename_i hu
        obtain ⟨s, rfl⟩ := okWide_string hu hv
        rfl
      · rename_i e hu
        obtain ⟨a, l, c, rfl⟩ := okWide_slice hu hv
        rfl
      · rename_i fs hu; exact absurd hu (hs' fs)
      · cases hk2
    rw [hone] at r1
    match vs, r1 with
    | [u], r1 => exact ⟨β', h', u, x1, hl1, s1, g1, r1.1.toV, ks, hk, .inr ⟨hs', a1⟩⟩
theorem open_args {B base : Nat} (hw : 0 < W.heap.size) : ∀ {ts : List TypeId} {vs : List Value} {ds : List (DataW H')} {p : List MemPlace}, (∀ t ∈ ts, (ckOf P 14 t).isSome = true) → DataW.TrodAll enc P W 0 (fun _ => true) held ts vs ds p →
    (∀ (j : Nat) t v, ts[j]? = some t → vs[j]? = some v → Value.okWide P W .any base t v) → (∀ m ∈ DataW.weightsEach P ts ds, m ≤ reachBytes) → ∀ {β : Bet} {h : H}, RelH B β h W → h.lo = h.next →
    ∃ β' h' us, RelH B β' h' W ∧ h'.lo = h'.next ∧ Sub β β' ∧ Grew h h' ∧ All2 (RelV β') us vs ∧ HasAs P h' ts us
  | [], [], [], p, _, _, _, _, β, h, x, hl => ⟨β, h, [], x, hl, Sub.refl _, Grew.refl _, trivial, trivial⟩
  | t :: ts, v :: vs, d :: ds, p, hk, ht, hv, hwt, β, h, x, hl => by
    obtain ⟨p1, p2, h1, h2, _⟩ := ht
    obtain ⟨ks, hks⟩ := Option.isSome_iff_exists.1 (hk t (by simp))
    obtain ⟨β1, g1, u, x1, l1, s1, gr1, r1, a1⟩ := open_arg hw hks h1 (hv 0 t v rfl rfl) (fun m hm => hwt m (by simp only [DataW.weightsEach]; exact List.mem_append_left _ hm)) x hl
    obtain ⟨β2, g2, us, x2, l2, s2, gr2, r2, a2⟩ := open_args hw (fun t ht => hk t (List.mem_cons_of_mem _ ht)) h2 (fun j t v q1 q2 => hv (j + 1) t v (by simpa using q1) (by simpa using q2)) (fun m hm => hwt m (by simp only [DataW.weightsEach]; exact List.mem_append_right _ hm)) x1 l1
    exact ⟨β2, g2, u :: us, x2, l2, s1.trans s2, gr1.trans gr2, ⟨r1.mono s2, r2⟩, a1.grew gr2, a2⟩
  | [], _ :: _, _, _, _, ht, _, _, _, _, _, _ => by cases ht
  | _ :: _, [], _, _, _, ht, _, _, _, _, _, _ => by cases ht
  | [], [], _ :: _, _, _, ht, _, _, _, _, _, _ => by cases ht
  | _ :: _, _ :: _, [], _, _, ht, _, _, _, _, _, _ => by cases ht
/-- The law's call. -/
theorem law_calls {prims : Prims} {ann : Nat → Nat → List Nat} (hm : P.follows .mixedOrders = true) (hprims : ∀ B f p, prims f = some p → PrimOk P B f p) {f base : Nat} {ts : List TypeId} (hk : ts.all (fun t => (ckOf P 14 t).isSome) = true) {args : Array Value} {ds : List (DataW H')} {p : List MemPlace} (hw : 0 < W.heap.size)
    (ht : DataW.TrodAll enc P W 0 (fun _ => true) held ts args.toList ds p) (hv : ∀ (j : Nat) t v, ts[j]? = some t → args.toList[j]? = some v → Value.okWide P W .any base t v) (hwt : ∀ m ∈ DataW.weightsEach P ts ds, m ≤ reachBytes)
    (law : ∀ h us, Hok h → h.lo = h.next → HasAs P h ts us → ∃ h', run P prims ann f us h = some (.bool true, h')) : Calls P f args W fun e W' => e = .returned (.bool true) ∧ Below W.heap.size W W' := by
  obtain ⟨β, h, us, x, hl, _, _, r, a⟩ := open_args (B := W.heap.size) (β := fun _ => Option.none) (h := H.none) hw (fun t ht => List.all_eq_true.1 hk t ht) ht hv hwt (none_rel _ _ (Nat.le_refl _)) rfl
  obtain ⟨h', e⟩ := law h us ⟨by rw [hl]; exact x.pos, x.lo⟩ hl a
  have := run_calls W.heap.size hm (hprims) e r x
  rw [Array.toArray_toList] at this
  refine this.mono ?_
  rintro e w' ⟨c, β', rfl, hc, _, hx⟩
  have : c = .bool true := hc
  subst this
  exact ⟨rfl, hx.below⟩
end
section
variable {H' : Type} {enc : TypeId × Value → H'}
theorem trodAll_below (hl : laidOutB P = true) {W W' : World} (hb : Below W.heap.size W W') : ∀ {ts : List TypeId} {vs : List Value} {ds : List (DataW H')} {p : List MemPlace}, (ts.all fun t => P.readableRec t && decide (t < P.types.size)) = true →
    DataW.TrodAll enc P W 0 (fun _ => true) true ts vs ds p → DataW.TrodAll enc P W' 0 (fun b => decide (b < W.heap.size)) true ts vs ds p
  | [], [], [], _, _, h => h
  | t :: ts, v :: vs, d :: ds, _, hr, ⟨p, q, h1, h2, e⟩ => by
    simp only [List.all_cons, Bool.and_eq_true, decide_eq_true_eq] at hr
    have hlt : ∀ x ∈ p, x.block < W.heap.size := by obtain ⟨m, hm⟩ := h1; exact DataW.trod_lt m _ _ _ hm
    exact ⟨p, q, Below.trod hl hr.1.1 hr.1.2 h1 hb hlt, trodAll_below hl hb (by simpa using hr.2) h2, e⟩
  | [], _ :: _, _, _, _, h => by cases h
  | _ :: _, [], _, _, _, h => by cases h
  | [], [], _ :: _, _, _, h => by cases h
  | _ :: _, _ :: _, [], _, _, h => by cases h
theorem trodAll_len {w : World} {base : Nat} {spare : Nat → Bool} {held : Bool} : ∀ {ts : List TypeId} {vs : List Value} {ds : List (DataW H')} {p : List MemPlace}, DataW.TrodAll enc P w base spare held ts vs ds p → ds.length = ts.length
  | [], [], [], _, _ => rfl
  | t :: ts, v :: vs, d :: ds, _, ⟨p, q, h1, h2, e⟩ => by simp [trodAll_len h2]
  | [], _ :: _, _, _, h => by cases h
  | _ :: _, [], _, _, h => by cases h
  | [], [], _ :: _, _, h => by cases h
  | _ :: _, _ :: _, [], _, h => by cases h
theorem shaped_pos {w : World} (h : w.ShapedOpen P) (h1 : Nat.ble 1 (begin P (fun _ _ => 0) default).world.heap.size = true) (h2 : (P.globals.size == 0 || (((begin P (fun _ _ => 0) default).world.heap[0]?).bind Obj.row?).isSome) = true) : 0 < w.heap.size := by
  have h1 := Nat.le_of_ble_eq_true h1
  obtain ⟨ha, hb⟩ := h
  by_cases hg : P.globals.size = 0
  · obtain ⟨o, _, ho, _⟩ := hb 0 (by omega) (by omega)
    exact (Array.getElem?_eq_some_iff.1 ho).1
  · have : (((begin P (fun _ _ => 0) default).world.heap[0]?).bind Obj.row?).isSome = true := by
      rw [Bool.or_eq_true] at h2
      rcases h2 with h2 | h2
      · exact absurd (by simpa using h2) hg
      · exact h2
    obtain ⟨⟨z, t⟩, hz⟩ := Option.isSome_iff_exists.1 this
    obtain ⟨cs, hc, _⟩ := ha 0 z t (by omega) hz
    exact (Array.getElem?_eq_some_iff.1 hc).1
theorem returns_law {C : Checked} {os : Os} {f : FuncId} {fn : Func} {s : ChangeSpec} {conds : List PathCond} {apart fresh handsOn again : Bool}
    (own : ownKnob C.prog.godebug = none) (started : os.Started) (noInit : C.prog.inits.idxOf? f = none) (hfn : C.prog.funcs[f]? = some fn)
    (witness : ∃ (w : World) (tape : Tape) (i : Input), w.os = os ∧ (w.forCall tape i).Shaped C.prog ∧ i.vars = [] ∧ Input.okWide C.prog (w.forCall tape i) .any w.heap.size f i ∧
      s.pre6 enc C.prog fn conds apart (w.forCall tape i).memory i.args ∧ ({} : Assume).holds C.prog (lone (Frame.enter C.prog f i.args .normal) [] (w.forCall tape i)))
    (h1 : Nat.ble 1 (begin C.prog (fun _ _ => 0) default).world.heap.size = true) (h2 : (C.prog.globals.size == 0 || (((begin C.prog (fun _ _ => 0) default).world.heap[0]?).bind Obj.row?).isSome) = true)
    (contract : ∀ (W : World) (base : Nat) (args : Array Value) (ds gs : List (DataW H')) (before : List MemPlace), 0 < W.heap.size →
      (∀ (j : Nat) t v, fn.params[j]? = some t → args[j]? = some v → Value.okWide C.prog W .any base t v) →
      DataW.Whole enc C.prog fn.params.toList s.vars apart W args.toList ds gs before →
      (DataW.weightsEach C.prog (fn.params.toList ++ s.plain.varTypes C.prog) (ds ++ gs)).all (· ≤ reachBytes) = true →
      Calls C.prog f args W fun e W' => ∃ v, e = .returned v ∧ s.post enc C.prog fn apart fresh handsOn again W args v W') :
    ReturnsInHanded {} C os f .any (s.pre6 enc C.prog fn conds apart) (s.post enc C.prog fn apart fresh handsOn again) := by
  refine returnsInHanded_of_calls own started noInit witness ?_
  intro w tape i _ hsh _ hok hpre hholds
  obtain ⟨_, _, _, fn', hfn', _, _, _, _, hval⟩ := hok
  have e : fn' = fn := Option.some.inj (hfn'.symm.trans hfn)
  subst e
  obtain ⟨⟨ds, gs, before, hw, hc⟩, hz⟩ := hpre
  have hw' := DataW.Whole.of_heap (w' := w.forCall tape i) (by rfl) hw
  refine (contract (w.forCall tape i) w.heap.size i.args ds gs before (shaped_pos hsh h1 h2) hval hw' (hz.weights hw)).mono fun e W' ⟨v, he, hp⟩ => ?_
  subst he
  exact ChangeSpec.post_blind hp
end
section
variable {α : Type} [Enc α]
/-- A slice of structs that came in, as a list. -/
theorem HasC.toSl {h : H} {es : List CK} {v : V} (x : HasC h (.sl es) v) (hes : es.length = Enc.sz α) {good : α → Prop} (dec : ∀ r, HasL h es r → ∃ a : α, r = Enc.enc a ∧ good a) :
    ∃ (l : List α) (z id : Nat), v = .sl z id 0 l.length ∧ Sl l h z id 0 ∧ l.length ≤ reachBytes ∧ ∀ a ∈ l, good a := by
  rw [HasC.sl] at x
  obtain ⟨z, id, n, rfl, hn, x⟩ := x
  rcases x with ⟨rfl, rfl⟩ | ⟨hz, h0, h1, h2, rows, rfl, h4, h5⟩
  · exact ⟨[], z, 0, rfl, .inl ⟨rfl, rfl⟩, Nat.zero_le _, fun a ha => by cases ha⟩
  · have : ∃ l : List α, rows = l.map Enc.enc ∧ ∀ a ∈ l, good a := by
      clear h4 hn
      induction rows with
      | nil => exact ⟨[], rfl, fun a ha => by cases ha⟩
      | cons r rows ih =>
        obtain ⟨l, e, hg⟩ := ih fun r hr => h5 r (List.mem_cons_of_mem _ hr)
        obtain ⟨a, e', ha⟩ := dec r (h5 r (by simp))
        exact ⟨a :: l, by rw [e, e']; rfl, fun b hb => by rcases List.mem_cons.1 hb with rfl | hb; · exact ha
                                                          · exact hg b hb⟩
    obtain ⟨l, rfl, hg⟩ := this
    refine ⟨l, z, id, by simp, .inr ⟨h0, by rw [hz, hes], h1, ?_⟩, by simpa using hn, hg⟩
    have e : (l.map Enc.enc).flatten = flat l := by rw [flat, List.flatMap_def]
    unfold bload
    rw [h4, e, List.drop_zero, flat_len, if_pos ⟨h2, by omega⟩, List.take_of_length_le (by rw [flat_len]; exact Nat.le_refl _)]
end
theorem HasL.ints {h : H} {k : IntKind} {ks : List CK} {vs : List V} (x : HasL h (.int k :: ks) vs) : ∃ n r, vs = .int k n :: r ∧ (Lit.int k n).wf = true ∧ HasL h ks r := by
  rw [HasL.cons] at x; obtain ⟨v, r, rfl, h1, h2⟩ := x; rw [HasC.int] at h1; obtain ⟨n, rfl, h3⟩ := h1; exact ⟨n, r, rfl, h3, h2⟩
theorem HasL.strs {h : H} {ks : List CK} {vs : List V} (x : HasL h (.str :: ks) vs) : ∃ s r, vs = .str s :: r ∧ s.size ≤ reachBytes ∧ HasL h ks r := by
  rw [HasL.cons] at x; obtain ⟨v, r, rfl, h1, h2⟩ := x; rw [HasC.str] at h1; obtain ⟨n, rfl, h3⟩ := h1; exact ⟨n, r, rfl, h3, h2⟩
theorem HasL.end {h : H} {vs : List V} (x : HasL h [] vs) : vs = [] := by rwa [HasL.nil] at x
/-- An argument that is no struct. -/
theorem HasA.plain {P : Program} {h : H} {t : TypeId} {u : V} {k : CK} (x : HasA P h t u) (hk : ckOf P 14 t = some [k]) {d : TypeDesc} (hu : P.underlying t = some d) (hd : ∀ fs, d ≠ .struct fs) : HasC h k u := by
  obtain ⟨ks, h1, x⟩ := x
  rw [hk] at h1; cases h1
  rcases x with ⟨fs, us, q1, _, _⟩ | ⟨_, q2⟩
  · rw [hu] at q1; cases q1; exact absurd rfl (hd fs)
  · rw [HasL.cons] at q2; obtain ⟨v, r, e, h1, h2⟩ := q2; cases e; exact h1
/-- An argument that is a struct. -/
theorem HasA.row {P : Program} {h : H} {t : TypeId} {u : V} {ks : List CK} (x : HasA P h t u) (hk : ckOf P 14 t = some ks) {fs : Array Field} (hu : P.underlying t = some (.struct fs)) : ∃ us, u = .agg us ∧ HasL h ks us := by
  obtain ⟨ks', h1, x⟩ := x
  rw [hk] at h1; cases h1
  rcases x with ⟨_, us, _, q2, q3⟩ | ⟨q1, _⟩
  · exact ⟨us, q2, q3⟩
  · exact absurd hu (q1 fs)
end Go.Proofs.Ythoabddfionmoaa.AH
namespace Go.Proofs.Ythoabddfionmoaa.AH
open Go Go.RowKit
theorem commands_bytes {h : H} {u : V} (a : HasA Try.prog h 34 u) : ∃ l : List UInt8, RV h u l := by
  have c := a.plain (k := .sl [.int .u8]) (by kernel_rfl) Try.underlying34 (fun fs e => by cases e)
  obtain ⟨l, z, id, rfl, s, hn, hg⟩ := c.toSl (α := UInt8) (good := fun c => True) rfl fun r hr => by
    rw [HasL.cons] at hr
    obtain ⟨v, r, rfl, hv, hr⟩ := hr
    rw [HasL.nil] at hr; subst hr
    rw [HasC.int] at hv
    obtain ⟨n, rfl, hw⟩ := hv
    have hw : 0 ≤ n ∧ n ≤ 255 := by
      simp [Lit.wf, IntKind.min, IntKind.max, IntKind.signed, IntKind.bits] at hw
      omega
    obtain ⟨k, rfl⟩ := Int.eq_ofNat_of_zero_le hw.1
    refine ⟨UInt8.ofNat k, ?_, trivial⟩
    show [V.int .u8 (k : Int)] = [V.int .u8 ((UInt8.ofNat k).toNat : Int)]
    rw [u8_nat (by omega)]
  exact ⟨l, z, id, 0, rfl, s⟩
theorem commands_run (h : H) (us : List V) (hk : Hok h) (hl : h.lo = h.next) (a : HasAs Try.prog h [34, 34] us) : ∃ h', run Try.prog primT annT 4 us h = some (.bool true, h') := by
  match us, a with
  | [u1, u2], ⟨a1, a2, _⟩ =>
    obtain ⟨l1, r1⟩ := commands_bytes a1
    obtain ⟨l2, r2⟩ := commands_bytes a2
    obtain ⟨r, h', e, rfl⟩ := law4 u1 u2 h hk r1 r2
    exact ⟨h', e⟩
end Go.Proofs.Ythoabddfionmoaa.AH
namespace Go.Proofs.Ythoabddfionmoaa.AH
open Go Go.RowKit Go.Lib

/-! ### Worlds -/
theorem setCell_comm (w : World) (b o1 o2 : Nat) (x y : Value) (hne : o1 ≠ o2) : (w.setCell ⟨b, o1, none⟩ x).setCell ⟨b, o2, none⟩ y = (w.setCell ⟨b, o2, none⟩ y).setCell ⟨b, o1, none⟩ x := by
  unfold World.setCell
  simp only [Option.isSome_none, Bool.false_eq_true, if_false]
  congr 1
  apply Array.ext_getElem?
  intro k
  simp only [Array.getElem?_modify]
  by_cases hk : b = k
  · subst hk
    simp only [if_true]
    cases hq : w.heap[b]? with
    | none => rfl
    | some ob =>
      cases ob with
      | cells c e f =>
        simp only [Option.map_some]
        congr 2
        apply Array.ext_getElem?
        intro j
        simp only [Array.getElem?_setIfInBounds, Array.size_setIfInBounds]
        by_cases h1 : o1 = j <;> by_cases h2 : o2 = j <;> simp [h1, h2]
        omega
      | _ => rfl
  · simp [hk]
theorem setCells_setCell (b : Nat) : ∀ (vs : List Value) (o o2 : Nat) (w : World) (y : Value), (o2 < o ∨ o + vs.length ≤ o2) → (w.setCells b o vs).setCell ⟨b, o2, none⟩ y = (w.setCell ⟨b, o2, none⟩ y).setCells b o vs
  | [], _, _, _, _, _ => rfl
  | v :: r, o, o2, w, y, h => by
    simp only [List.length_cons] at h
    rw [World.setCells, World.setCells, setCells_setCell b r (o + 1) o2 _ y (by omega), setCell_comm w b o o2 v y (by omega)]
theorem setCells_comm (b : Nat) : ∀ (xs ys : List Value) (o1 o2 : Nat) (w : World), (o1 + xs.length ≤ o2) → (w.setCells b o2 ys).setCells b o1 xs = (w.setCells b o1 xs).setCells b o2 ys
  | [], _, _, _, _, _ => rfl
  | x :: xs, ys, o1, o2, w, h => by
    simp only [List.length_cons] at h
    rw [World.setCells, World.setCells, setCells_setCell b ys o2 o1 w x (by omega), setCells_comm b xs ys (o1 + 1) o2 _ (by omega)]
theorem setCells_app (b : Nat) : ∀ (xs ys : List Value) (o : Nat) (w : World), w.setCells b o (xs ++ ys) = (w.setCells b o xs).setCells b (o + xs.length) ys
  | [], _, _, _ => rfl
  | x :: xs, ys, o, w => by
    rw [List.cons_append, World.setCells, World.setCells, setCells_app b xs ys, List.length_cons]
    congr 1; omega
theorem drew_setCells (b : Nat) : ∀ (vs : List Value) (o : Nat) (w : World), (w.setCells b o vs).drew = w.drew.setCells b o vs
  | [], _, _ => rfl
  | v :: r, o, w => by rw [World.setCells, World.setCells, drew_setCells b r]; rfl
/-- copy, at elements of any size: all is read before anything is written. -/
theorem run_copyN {P : Program} (w : World) (dT sT ty elem : TypeId) (sz : Nat) (b o dLen dCap : Nat) (a : Addr) (sLen sCap n : Nat) (cs : List Value)
    (hu : P.underlying dT = some (.slice elem)) (hs : (P.info? elem).map (·.size) = some sz) (hn : Nat.min sLen dLen = n) (hl : cs.length = n * sz)
    (hsrc : ∀ j v, cs[j]? = some v → w.cell? (a.add j) = some v) (hc : ∀ j, j < cs.length → (w.cell? ⟨b, o + j, none⟩).isSome = true) (hf : ∀ j, j < cs.length → w.frozen? ⟨b, o + j, none⟩ = false) (h1 : ∀ v ∈ cs, v.oneCell' = true) :
    (Builtin.copy_ #[dT, sT] ty #[.slice (some ⟨b, o, none⟩) dLen dCap, .slice (some a) sLen sCap]).run P w = .ok (goInt n) (w.setCells b o cs) := by
  have hl' := run_firstCells_some (P := P) w sz n a sLen sCap cs hl hsrc
  have hst := run_storeCells_cells (P := P) b o cs 0 w (by simpa using hc) (by simpa using hf) h1
  cases hq : P.info? elem with
  | none => simp [hq] at hs
  | some i =>
    have hi : i.size = sz := by simpa [hq] using hs
    simp [Builtin.copy_, run_underlying hu, Builtin.lenOf, sizeOf, typeInfo, hq, hi, hn, hl', hst]
/-- clear, at elements of any size. -/
theorem run_clearN {P : Program} (w : World) (t e ty : TypeId) (z : Value) (hu : P.underlying t = some (.slice e)) (i : TypeInfo) (hi : P.info? e = some i) (hz : i.zero = some z) (h1 : ∀ v ∈ z.cells.toList, v.oneCell' = true)
    (b o n cap : Nat) (hn : 0 < n) (hc : ∀ j, j < n * z.cells.size → (w.cell? ⟨b, o + j, none⟩).isSome = true) (hf : ∀ j, j < n * z.cells.size → w.frozen? ⟨b, o + j, none⟩ = false) :
    (Builtin.clear_ #[t] ty #[.slice (some ⟨b, o, none⟩) n cap]).run P w = .ok (.tuple #[]) (w.setCells b o (Builtin.zeroCells z.cells n).toList) := by
  have hsz : (Builtin.zeroCells z.cells n).toList.length = n * z.cells.size := by simp [Builtin.zeroCells]
  have hone : ∀ v ∈ (Builtin.zeroCells z.cells n).toList, v.oneCell' = true := fun v hv => by
    simp only [Builtin.zeroCells, Array.toList_map, List.mem_map, Array.mem_toList_iff, Array.mem_range] at hv
    obtain ⟨k, hk, rfl⟩ := hv
    have hp : 0 < z.cells.size := by rcases Nat.eq_zero_or_pos z.cells.size with e | e; · rw [e] at hk; omega
                                     · exact e
    have hk2 : k % z.cells.size < z.cells.size := Nat.mod_lt _ hp
    rw [getElem!_pos z.cells (k % z.cells.size) hk2]
    exact h1 _ (by simp)
  have hst := run_storeCells_cells (P := P) b o (Builtin.zeroCells z.cells n).toList 0 w (by rw [hsz]; simpa using hc) (by rw [hsz]; simpa using hf) hone
  cases n with
  | zero => omega
  | succ n => simp [Builtin.clear_, run_underlying hu, zeroValue, typeInfo, hi, hz, hst]

/-! ### Heaps -/
theorem RelH.congr {B : Nat} {β : Bet} {h h' : H} {w : World} (x : RelH B β h w) (hlo : h'.lo = h.lo) (hn : h'.next = h.next) (hb : ∀ id, (h'.blk id).alive = (h.blk id).alive ∧ (h'.blk id).cells = (h.blk id).cells) : RelH B β h' w := by
  refine ⟨fun id ha => ?_, fun id id' l l' ha ha' => ?_, fun id hi => ?_, ?_, by rw [hn]; exact x.pos, by rw [hn, hlo]; exact x.lo, x.hB, x.blt⟩
  · rw [(hb id).1] at ha
    rw [(hb id).2, hlo]
    exact x.cell id ha
  · rw [(hb id).1] at ha; rw [(hb id').1] at ha'
    rw [hlo]
    exact x.inj id id' l l' ha ha'
  · rw [(hb id).1]; rw [hn] at hi; exact x.bnd id hi
  · rw [(hb 0).1]; exact x.zero
/-- Fewer cells are known of a block. -/
theorem RelH.cut {B : Nat} {β : Bet} {h h' : H} {w : World} (x : RelH B β h w) (hlo : h'.lo = h.lo) (hn : h'.next = h.next) (hb : ∀ id, (h'.blk id).alive = (h.blk id).alive ∧ ∃ r, (h.blk id).cells = (h'.blk id).cells ++ r) : RelH B β h' w := by
  refine ⟨fun id ha => ?_, fun id id' l l' ha ha' => ?_, fun id hi => ?_, ?_, by rw [hn]; exact x.pos, by rw [hn, hlo]; exact x.lo, x.hB, x.blt⟩
  · rw [(hb id).1] at ha
    obtain ⟨r, hr⟩ := (hb id).2
    obtain ⟨l, h1, h2, h3, h4⟩ := x.cell id ha
    refine ⟨l, h1, ?_, fun i v hv => h3 i v ?_, by rw [hlo]; exact h4⟩
    · rw [hr, List.length_append] at h2; omega
    · rw [hr, List.getElem?_append_left (List.getElem?_eq_some_iff.1 hv).1]; exact hv
  · rw [(hb id).1] at ha; rw [(hb id').1] at ha'
    rw [hlo]
    exact x.inj id id' l l' ha ha'
  · rw [(hb id).1]; rw [hn] at hi; exact x.bnd id hi
  · rw [(hb 0).1]; exact x.zero
theorem Ext.congr {B : Nat} {β β' : Bet} {h h1 h2 : H} {w w' : World} (x : Ext B β h w β' h1 w') (hlo : h2.lo = h1.lo) (hn : h2.next = h1.next) (hb : ∀ id, id < h.next → h2.blk id = h1.blk id) : Ext B β h w β' h2 w' :=
  ⟨x.sub, x.below, by rw [hlo]; exact x.lo, by rw [hn]; exact x.next, fun id hi => by rw [hb id hi]; exact x.ver id hi, fun id hi => by rw [hb id hi]; exact x.same id hi⟩
/-- Cells of an own block behind those that are known may be written. -/
theorem spare_rel {B : Nat} {β : Bet} {h : H} {w : World} (hH : RelH B β h w) {id : Nat} {l : Loc} (ha : (h.blk id).alive = true) (hlo : h.lo ≤ id) (hb : β id = some l) {o : Nat} {vs : List Value} (ho : (h.blk id).cells.length ≤ o) (hr : o + vs.length ≤ l.room) :
    RelH B β h (w.setCells l.b (l.base + o) vs) ∧ Ext B β h w β h (w.setCells l.b (l.base + o) vs) := by
  obtain ⟨l1, hb1, hroom, hcell, hown⟩ := hH.cell id ha
  rw [hb] at hb1; cases hb1
  obtain ⟨hBl, hwr⟩ := hown hlo
  have hapart : ∀ j l', (h.blk j).alive = true → β j = some l' → j ≠ id → l'.b ≠ l.b := fun j l' haj hbj hj => (hH.inj id j l l' ha haj (Ne.symm hj) hlo hb hbj).symm
  have hcs : ∀ j l' i, (h.blk j).alive = true → β j = some l' → i < (h.blk j).cells.length → (w.setCells l.b (l.base + o) vs).cell? ⟨l'.b, l'.base + i, none⟩ = w.cell? ⟨l'.b, l'.base + i, none⟩ := fun j l' i haj hbj hi => by
    by_cases e : j = id
    · subst e; rw [hb] at hbj; cases hbj
      exact World.cell?_setCells_out l.b vs _ w _ (fun _ _ => .inl (by show l.base + i < l.base + o; omega))
    · exact World.cell?_setCells_out l.b vs _ w _ (fun hb2 _ => absurd hb2 (hapart j l' haj hbj e))
  refine ⟨⟨fun j haj => ?_, hH.inj, hH.bnd, hH.zero, hH.pos, hH.lo, by rw [size_setCells]; exact hH.hB, fun j l' hl => by rw [size_setCells]; exact hH.blt j l' hl⟩, ⟨Sub.refl _, below_setCells l.b hBl.1 vs _ w w (Below.refl _ _), rfl, Nat.le_refl _, fun _ _ => Nat.le_refl _, fun j hj haj _ => ⟨haj, rfl, fun l' hl' i hi => hcs j l' i haj hl' hi⟩⟩⟩
  obtain ⟨l', hb', hroom', hcell', hown'⟩ := hH.cell j haj
  refine ⟨l', hb', hroom', fun i v hv => ?_, fun hlo' => ?_⟩
  · obtain ⟨c, h1, h2⟩ := hcell' i v hv
    exact ⟨c, by rw [hcs j l' i haj hb' (List.getElem?_eq_some_iff.1 hv).1]; exact h1, h2⟩
  · obtain ⟨⟨x1, x2⟩, x3⟩ := hown' hlo'
    refine ⟨⟨x1, fun hm => (x2 hm).setCells _ _ _⟩, fun i hi => ?_⟩
    rw [World.frozen?_setCells]
    exact ⟨World.isSome_setCells _ _ _ _ _ (x3 i hi).1, (x3 i hi).2⟩
end Go.Proofs.Ythoabddfionmoaa.AH
namespace Go.Proofs.Ythoabddfionmoaa.AH
open Go Go.RowKit Go.Lib
abbrev ad (b o : Nat) : Addr := ⟨b, o, none⟩
structure InsWalk (P : Program) (f ov : Nat) (tS tE tI : TypeId) (sz : Nat) : Prop where
  fn : ∃ fn, P.funcs[f]? = some fn ∧ (fn.name == "runtime.NumGoroutine") = false ∧ fn.body.isNone = false
  non : ∀ (w : World) (a x : Option Addr) (n c i vc : Nat), i ≤ n → n ≤ c → Calls P f #[.slice a n c, .int .i64 i, .slice x 0 vc] w fun e w' => e = .returned (.slice a n c) ∧ w' = w
  app : ∀ (w w1 : World) (a x : Option Addr) (n c m vc : Nat) (r : Value), n ≤ c → 0 < m → (∀ ty, (Builtin.append_ #[tS, tS] ty #[.slice a n c, .slice x m vc]).run P w = .ok r w1) →
    Calls P f #[.slice a n c, .int .i64 n, .slice x m vc] w fun e w' => e = .returned r ∧ w' = w1
  shift : ∀ (w W1 W2 : World) (b off n c i vb voff m vc : Nat), i < n → 0 < m → n + m ≤ c → n + m ≤ 9223372036854775807 →
    (∀ lb cb, (callFunc ov #[.slice (some (ad vb voff)) m vc, .slice (some (ad b (off + (i + m) * sz))) lb cb]).run P w = .ok (.value (.bool false)) w) →
    (∀ ty dc sc, (Builtin.copy_ #[tS, tS] ty #[.slice (some (ad b (off + (i + m) * sz))) (n + m - (i + m)) dc, .slice (some (ad b (off + i * sz))) (n + m - i) sc]).run P w.drew = .ok (goInt ((n - i : Nat) : Int)) W1) →
    (∀ ty dc, (Builtin.copy_ #[tS, tS] ty #[.slice (some (ad b (off + i * sz))) (n + m - i) dc, .slice (some (ad vb voff)) m vc]).run P W1 = .ok (goInt (m : Int)) W2) →
    Calls P f #[.slice (some (ad b off)) n c, .int .i64 i, .slice (some (ad vb voff)) m vc] w fun e w' => e = .returned (.slice (some (ad b off)) (n + m) c) ∧ w' = W2
  grow : ∀ (w W1 W2 W3 : World) (b off n c i vb voff m vc N G : Nat), i < n → 0 < m → n ≤ c → c < n + m → n + m ≤ G → n + m ≤ 9223372036854775807 →
    (∀ ty, (Builtin.append_ #[tS, tI] ty #[.slice (some (ad b off)) i c, .int .i64 ((n : Int) + (m : Int) - (i : Int))]).run P w = .ok (.slice (some (ad N 0)) (n + m) G) W1) →
    (∀ ty dc, (Builtin.copy_ #[tS, tS] ty #[.slice (some (ad N (i * sz))) (n + m - i) dc, .slice (some (ad vb voff)) m vc]).run P W1 = .ok (goInt (m : Int)) W2) →
    (∀ ty dc sc, (Builtin.copy_ #[tS, tS] ty #[.slice (some (ad N ((i + m) * sz))) (n + m - (i + m)) dc, .slice (some (ad b (off + i * sz))) (n - i) sc]).run P W2.drew = .ok (goInt ((n - i : Nat) : Int)) W3) →
    Calls P f #[.slice (some (ad b off)) n c, .int .i64 i, .slice (some (ad vb voff)) m vc] w fun e w' => e = .returned (.slice (some (ad N 0)) (n + m) G) ∧ w' = W3
structure DelWalk (P : Program) (f : Nat) (tS tE : TypeId) (sz : Nat) : Prop where
  fn : ∃ fn, P.funcs[f]? = some fn ∧ (fn.name == "runtime.NumGoroutine") = false ∧ fn.body.isNone = false
  non : ∀ (w : World) (a : Option Addr) (n c i : Nat), i ≤ n → n ≤ c → Calls P f #[.slice a n c, .int .i64 i, .int .i64 i] w fun e w' => e = .returned (.slice a n c) ∧ w' = w
  del : ∀ (w W1 W2 : World) (b off n c i j : Nat), i < j → j ≤ n → n ≤ c →
    (∀ ty, (Builtin.append_ #[tS, tS] ty #[.slice (some (ad b off)) i c, .slice (some (if c = j then ad b off else ad b (off + j * sz))) (n - j) (c - j)]).run P w.drew = .ok (.slice (some (ad b off)) (i + (n - j)) c) W1) →
    (∀ ty, (Builtin.clear_ #[tS] ty #[.slice (some (ad b (off + (i + (n - j)) * sz))) (n - (i + (n - j))) (c - (i + (n - j)))]).run P W1 = .ok (.tuple #[]) W2) →
    Calls P f #[.slice (some (ad b off)) n c, .int .i64 i, .int .i64 j] w fun e w' => e = .returned (.slice (some (ad b off)) (i + (n - j)) c) ∧ w' = W2
end Go.Proofs.Ythoabddfionmoaa.AH
namespace Go.Proofs.Ythoabddfionmoaa.AH
open Go Go.RowKit Go.Lib
theorem step_append_runI {P : Program} {ops : Array Oper} {o : Oper} {a : Act} {w : World} {K : Act → World → Prop} {Q : Exit → Act → World → Prop} {E : Prop}
    (hg : o.guard = none) (d x : Operand) (dT sT : TypeId) (hop : o.op = Op.call { callee := Callee.builtin Builtin.append, args := #[d, x], argTypes := #[dT, sT] })
    (v u : Value) (hd : a.eval d = v) (hx : a.eval x = u) {v' : Value} {w' : World} (hr : (Builtin.append_ #[dT, sT] o.type #[v, u]).run P w = .ok v' w') (hK : K (a.put o.dst v') w') :
    if Region.wanted o (yielded ops a.tmps) = true then Oper.wp P o a w K Q else E := by
  have hw : Region.wanted o (yielded ops a.tmps) = true := by simp [Region.wanted, hg]
  rw [if_pos hw]
  unfold Oper.wp
  simp [execOp, hop, resolve, invoke, builtin, hd, hx, hr, Result.andThen]
  exact hK
theorem All2.drop' {α β : Type} {R : α → β → Prop} {xs : List α} {ys : List β} (h : All2 R xs ys) (n : Nat) : All2 R (xs.drop n) (ys.drop n) := h.drop n
/-- The shift, in place. -/
theorem shift_rel {B : Nat} {β : Bet} {h : H} {w : World} (hH : RelH B β h w) {id off n m i sz : Nat} {l : Loc} {olds ys : List V} {cs vs : List Value} (ha : (h.blk id).alive = true) (hlo : h.lo ≤ id) (hb : β id = some l)
    (ho : h.load id off (n * sz) = some olds) (hoc : All2 (RelC β) olds cs) (hy : All2 (RelC β) ys vs) (hvl : vs.length = m * sz) (hi : i ≤ n) (hroom : off + (n + m) * sz ≤ l.room) :
    RelH B (β.set h.next ⟨l.b, l.base + off, l.room - off, l.str⟩) ((h.new (olds.take (i * sz) ++ ys ++ olds.drop (i * sz))).kill id) ((w.drew.setCells l.b (l.base + off + (i + m) * sz) (cs.drop (i * sz))).setCells l.b (l.base + off + i * sz) vs) ∧
    Ext B β h w (β.set h.next ⟨l.b, l.base + off, l.room - off, l.str⟩) ((h.new (olds.take (i * sz) ++ ys ++ olds.drop (i * sz))).kill id) ((w.drew.setCells l.b (l.base + off + (i + m) * sz) (cs.drop (i * sz))).setCells l.b (l.base + off + i * sz) vs) := by
  have hmul : (i + m) * sz = i * sz + m * sz := Nat.add_mul _ _ _
  have hin : i * sz ≤ n * sz := Nat.mul_le_mul_right _ hi
  have hol : olds.length = n * sz := bload_len ho
  have hcl : cs.length = n * sz := by rw [← hoc.length, hol]
  have ew : (w.drew.setCells l.b (l.base + off + (i + m) * sz) (cs.drop (i * sz))).setCells l.b (l.base + off + i * sz) vs = w.drew.setCells l.b (l.base + off + i * sz) (vs ++ cs.drop (i * sz)) := by
    rw [setCells_comm _ _ _ _ _ _ (by rw [hvl, hmul]; omega), setCells_app, hvl, hmul, Nat.add_assoc (l.base + off)]
  rw [ew]
  have hl2 : h.load id off (i * sz) = some (olds.take (i * sz)) := by
    have := bload_sub ho 0 (i * sz) (by omega)
    simpa using this
  have e2 : olds.take (i * sz) ++ ys ++ olds.drop (i * sz) = olds.take (i * sz) ++ (ys ++ olds.drop (i * sz)) := by simp
  rw [e2]
  have hnm : (n + m) * sz = n * sz + m * sz := Nat.add_mul _ _ _
  obtain ⟨_, h1, h2⟩ := grow_rel hH.drew (olds := olds.take (i * sz)) (news := ys ++ olds.drop (i * sz)) (news' := vs ++ cs.drop (i * sz)) ha hlo hb (.inr hl2) (hy.append (hoc.drop _)) (by rw [List.length_append, List.length_drop, hvl, hcl]; omega)
  exact ⟨h1, (Ext.drew B β h w).trans h2⟩
/-- The row that is new. -/
theorem fresh_rel {B : Nat} {β : Bet} {h : H} {w : World} (hH : RelH B β h w) {C : Array Value} {e : TypeId} {i0 o1 o2 : Nat} {a b c : List V} {a' b' c' : List Value} (hp : All2 (RelC β) a a') (hb : All2 (RelC β) b b') (hc : All2 (RelC β) c c')
    (h1 : C.toList.take a'.length = a') (e1 : o1 = a'.length) (e2 : o2 = a'.length + b'.length) (hle : a'.length + b'.length + c'.length ≤ C.size) (id : Nat) (w1 w2 w3 : World)
    (k1 : w1 = w.drew.alloc (.cells C e)) (k2 : w2 = w1.setCells w.heap.size o1 b') (k3 : w3 = w2.drew.setCells w.heap.size o2 c') :
    RelH B (β.set h.next ⟨w.heap.size, 0, C.size, false⟩) ((h.new (a ++ b ++ c)).kill id) w3 ∧ Ext B β h w (β.set h.next ⟨w.heap.size, 0, C.size, false⟩) ((h.new (a ++ b ++ c)).kill id) w3 ∧ h.next ≠ 0 := by
  have hne : h.next ≠ 0 := by have := hH.pos; omega
  have hal := hp.length
  have hbl := hb.length
  have hcl := hc.length
  obtain ⟨hR, hX⟩ := new_rel hH.drew (cs := a) C e (0, 0) false (by simp) (by omega) (by rw [hal, h1]; exact hp) (fun j _ => by omega)
  have hsz : w.drew.heap.size = w.heap.size := rfl
  rw [hsz] at hR hX
  have hbig : ∃ hx : H, hx = (h.new a) := ⟨_, rfl⟩
  -- the cells behind a are known after they are written: a block of a, then one of a ++ b ++ c
  have hset : (β.set h.next ⟨w.heap.size, 0, C.size, false⟩) h.next = some ⟨w.heap.size, 0, C.size, false⟩ := Bet.set_same _ _ _
  have hsub : Sub β (β.set h.next ⟨w.heap.size, 0, C.size, false⟩) := Bet.sub_set (hH.bnd h.next (Nat.le_refl _)).2
  have hblk : (h.new a).blk h.next = ⟨a, (h.blk h.next).ver, true⟩ := by simp [H.new]
  have hx3 : w3 = w1.drew.setCells w.heap.size (0 + a.length) (b' ++ c') := by
    rw [k3, k2, drew_setCells, setCells_app, e1, e2, Nat.zero_add, hal]
  obtain ⟨hR2, hX2⟩ := spare_rel hR.drew (id := h.next) (l := ⟨w.heap.size, 0, C.size, false⟩) (by rw [hblk]) (by show h.lo ≤ h.next; exact hH.lo) hset (o := a.length) (vs := b' ++ c') (by rw [hblk]; exact Nat.le_refl _) (by rw [List.length_append]; show a.length + _ ≤ C.size; omega)
  have hw3 : (w.drew.alloc (.cells C e (0, 0))).drew.setCells w.heap.size (0 + a.length) (b' ++ c') = w3 := by rw [hx3, k1]
  simp only [] at hR2 hX2
  rw [hw3] at hR2 hX2
  -- what is known of the block
  have hth : ∀ j, j < C.size → (w1.drew.cell? ⟨w.heap.size, j, none⟩).isSome = true := fun j hj => by
    rw [k1]
    show ((w.drew.alloc (.cells C e (0, 0))).cell? ⟨w.drew.heap.size, j, none⟩).isSome = true
    rw [World.cell?_alloc_mark]; simpa using hj
  have hRfull : RelH B (β.set h.next ⟨w.heap.size, 0, C.size, false⟩) (h.new (a ++ b ++ c)) w3 := by
    have hb1 : ∀ j, j ≠ h.next → (h.new (a ++ b ++ c)).blk j = (h.new a).blk j := fun j hj => by simp [H.new, hj]
    have hb2 : (h.new (a ++ b ++ c)).blk h.next = ⟨a ++ b ++ c, (h.blk h.next).ver, true⟩ := by simp [H.new]
    have hal1 : ∀ j, ((h.new (a ++ b ++ c)).blk j).alive = ((h.new a).blk j).alive := fun j => by
      by_cases e : j = h.next
      · subst e; rw [hb2, hblk]
      · rw [hb1 j e]
    refine ⟨fun j haj => ?_, fun j j' l l' ha ha' => ?_, fun j hj => ?_, ?_, hR2.pos, hR2.lo, hR2.hB, hR2.blt⟩
    · by_cases e : j = h.next
      · subst e
        rw [hal1] at haj
        obtain ⟨l, q1, q2, q3, q4⟩ := hR2.cell h.next haj
        rw [hset] at q1; cases q1
        refine ⟨_, hset, by rw [hb2]; simp only [List.length_append]; omega, fun i v hv => ?_, q4⟩
        rw [hb2] at hv
        by_cases hia : i < a.length
        · refine q3 i v ?_
          rw [hblk]
          simp only [List.append_assoc] at hv
          rwa [List.getElem?_append_left hia] at hv
        · simp only [List.append_assoc] at hv
          rw [List.getElem?_append_right (by omega)] at hv
          obtain ⟨cv, hcv, hr⟩ := (hb.append hc).get hv
          refine ⟨cv, ?_, hr.mono hsub⟩
          have hlt := (List.getElem?_eq_some_iff.1 hcv).1
          have := World.cell?_setCells_in w.heap.size (b' ++ c') (0 + a.length) w1.drew (fun j hj => hth _ (by rw [List.length_append] at hj; omega)) (i - a.length) hlt
          rw [hx3]
          rw [show 0 + a.length + (i - a.length) = 0 + i by omega] at this
          rw [List.getElem?_eq_getElem hlt] at hcv
          simp only [Option.some.injEq] at hcv
          show (w1.drew.setCells w.heap.size (0 + a.length) (b' ++ c')).cell? ⟨w.heap.size, 0 + i, none⟩ = some cv
          rw [this, hcv]
      · rw [hb1 j e] at haj ⊢
        exact hR2.cell j haj
    · rw [hal1] at ha ha'
      exact hR2.inj j j' l l' ha ha'
    · rw [hal1]; exact hR2.bnd j hj
    · rw [hal1]; exact hR2.zero
  have hXfull : Ext B β h w (β.set h.next ⟨w.heap.size, 0, C.size, false⟩) (h.new (a ++ b ++ c)) w3 := by
    have hX3 : Ext B β h w (β.set h.next ⟨w.heap.size, 0, C.size, false⟩) (h.new a) w3 := (Ext.drew B β h w).trans (hX.trans ((Ext.drew B _ _ _).trans hX2))
    refine hX3.congr rfl rfl fun j hj => ?_
    have : j ≠ h.next := by omega
    simp [H.new, this]
  obtain ⟨r1, r2⟩ := kill_rel hRfull id
  exact ⟨r1, hXfull.trans r2, hne⟩
end Go.Proofs.Ythoabddfionmoaa.AH
