/- The row of the law FnExactFoldCommands: for every input it answers true, and what came in reads as it did. Its conditions are the given statement's. PRINTED BY lawrow.py (this session's own program). -/
import Derived.Test.YthoabddfionmoaaRows
import Derived.Test.YthoabddfionmoaaD2
import Derived.Test.YthoabddfionmoaaAN
import Derived.Test.YthoabddfionmoaaP1
set_option linter.unusedVariables false
set_option maxRecDepth 100000
namespace Go.Proofs.Ythoabddfionmoaa.fnExactFoldCommands
open Go Go.RowKit Go.ChangeShapes Go.WideShapes
open Go.ChangeMaps (open_string shut_string)
open Go.Proofs.Ythoabddfionmoaa.AH (primT annT)
theorem own : ownKnob Try.prog.godebug = none := by kernel_rfl
theorem laidOut : laidOutB Try.prog = true := by kernel_rfl
theorem prims (B f : Nat) (p : List AH.V → AH.H → Option (AH.V × AH.H)) (h : primT f = some p) : AH.PrimOk Try.prog B f p := by
  unfold primT at h
  split at h
  · cases h; exact AH.p74_ok B
  · cases h; exact AH.p92_ok B
  · cases h; exact AH.p93_ok B
  · cases h
theorem lifted (os : Os) (started : os.Started) (H : Type) (enc : TypeId × Value → H) :
    ReturnsInHanded {} Try.checked os 5 .any (Rows.fnExactFoldCommandsSpec.pre6 enc Try.prog Try.f5 Rows.fnExactFoldCommandsRow.domain false) (Rows.fnExactFoldCommandsSpec.post enc Try.prog Try.f5 false true false false) := by
  refine AH.returns_law (C := Try.checked) own started (by kernel_rfl) Try.func5
    (ChangeSpec.witness6 (enc := enc) (C := Try.checked) false ⟨#[], #[.slice none 0 0], []⟩ 8 (by kernel_rfl) (by kernel_rfl) (by kernel_rfl) (by kernel_rfl)) (by kernel_rfl) (by kernel_rfl) ?_
  intro W base args ds gs before hpos hval hW hsz0
  have hsz : (DataW.weightsEach Try.prog (Try.f5.params.toList ++ Rows.fnExactFoldCommandsSpec.plain.varTypes Try.prog) (ds ++ gs)).all (· ≤ reachBytes) = true := hsz0
  have hW' := hW
  obtain ⟨p, q, hA0, hV, rfl, hfz, hnd⟩ := hW
  have hA : DataW.TrodAll enc Try.prog W 0 (fun _ => true) true Try.f5.params.toList args.toList ds p := hA0
  rw [Try.params5] at hA hval hsz
  obtain ⟨rfl, rfl⟩ := trodVars_none hV
  have hlen := AH.trodAll_len hA
  have hwt : ∀ m ∈ DataW.weightsEach Try.prog [22] ds, m ≤ reachBytes := fun m hm => by
    have e : [22] ++ Rows.fnExactFoldCommandsSpec.plain.varTypes Try.prog = [22] := rfl
    simp only [List.append_nil] at hsz
    have := List.all_eq_true.1 hsz m hm
    simpa using this
  refine (AH.law_calls (P := Try.prog) (prims := primT) (ann := annT) (ts := [22]) (by kernel_rfl) prims (by kernel_rfl) hpos hA (fun j t v h1 h2 => hval j t v (by simpa using h1) (by simpa using h2)) hwt AH.foldCommands_run).mono fun e W' ⟨he, bel⟩ => ?_
  subst he
  have hB := AH.trodAll_below laidOut bel (by kernel_rfl) hA
  match ds, hlen with
  | [d0], _ => exact ⟨_, rfl, _, _, _, [], _, [], hW', trodAll_mk1 (shut_bool Try.underlying4 _), hB, rfl, bel.frame _, fun h => by cases h⟩
theorem over : Rows.fnExactFoldCommandsRow.holds Try.pinned (OpenSpec.ofChange Rows.fnExactFoldCommandsSpec) :=
  OpenClaim.holds_of_wide 5 Try.f5 rfl rfl rfl rfl rfl rfl rfl ⟨rfl, rfl, rfl, rfl, rfl⟩ rfl rfl rfl rfl rfl (by kernel_rfl) Try.func5 (by kernel_rfl)
    (of_decide_eq_true (by kernel_rfl)) (by unfold Func.isWrapper; first | (rw [if_pos (by decide +kernel)]; kernel_rfl) | (rw [if_neg (by decide +kernel)]; exact ⟨rfl, rfl⟩))
    (fun os started H enc _ => lifted os started H enc)
theorem proved : Rows.FnExactFoldCommandsSaid := over
end Go.Proofs.Ythoabddfionmoaa.fnExactFoldCommands
namespace Go.Proofs.Ythoabddfionmoaa
theorem fnExactFoldCommands_holds : Rows.FnExactFoldCommandsSaid := fnExactFoldCommands.proved
#print axioms fnExactFoldCommands_holds
end Go.Proofs.Ythoabddfionmoaa
