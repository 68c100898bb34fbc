/- The law FnExactFoldCommands on what came in. No condition. -/
import Derived.Test.YthoabddfionmoaaE9
import Derived.Test.YthoabddfionmoaaAN
set_option linter.unusedVariables false
set_option maxRecDepth 100000
namespace Go.Proofs.Ythoabddfionmoaa.AH
open Go Go.RowKit
theorem foldCommands_run (h : H) (us : List V) (hk : Hok h) (hl : h.lo = h.next) (a : HasAs Try.prog h [22] us) : ∃ h', run Try.prog primT annT 5 us h = some (.bool true, h') := by
  match us, a with
  | [u], ⟨a, _⟩ =>
    have c := a.plain (k := .sl [.int .i64, .int .i64, .int .i64, .str, .str, .str]) (by kernel_rfl) Try.underlying22 (fun fs e => by cases e)
    obtain ⟨l, z, id, rfl, s, hn, hg⟩ := c.toSl (α := Cmd) (good := fun c => c.k.size ≤ 140737488351232 ∧ c.v.size ≤ 140737488351232 ∧ c.d.size ≤ 140737488351232) rfl fun r hr => by
      obtain ⟨a1, _, rfl, _, hr⟩ := hr.ints
      obtain ⟨a2, _, rfl, _, hr⟩ := hr.ints
      obtain ⟨a3, _, rfl, _, hr⟩ := hr.ints
      obtain ⟨s1, _, rfl, q1, hr⟩ := hr.strs
      obtain ⟨s2, _, rfl, q2, hr⟩ := hr.strs
      obtain ⟨s3, _, rfl, q3, hr⟩ := hr.strs
      obtain rfl := hr.end
      exact ⟨⟨a1, a2, a3, s1, s2, s3⟩, rfl, q1, q2, q3⟩
    obtain ⟨r, h', e, rfl⟩ := law5 l hg hn _ h hk ⟨z, id, 0, rfl, s⟩
    exact ⟨h', e⟩
end Go.Proofs.Ythoabddfionmoaa.AH
