/- What is asked of a walk over slices.Insert and slices.Delete. No condition. -/
import Derived.Test.YthoabddfionmoaaAI
set_option linter.unusedVariables false
set_option linter.unusedSimpArgs false
namespace Go.Proofs.Ythoabddfionmoaa.AH
open Go Go.RowKit Go.Lib
abbrev ad (b o : Nat) : Addr := ⟨b, o, none⟩
structure InsWalk (P : Program) (f ov : Nat) (tS tE tI : TypeId) (sz : Nat) : Prop where
  fn : ∃ fn, P.funcs[f]? = some fn ∧ (fn.name == "runtime.NumGoroutine") = false ∧ fn.body.isNone = false
  non : ∀ (w : World) (a x : Option Addr) (n c i vc : Nat), i ≤ n → n ≤ c → Calls P f #[.slice a n c, .int .i64 i, .slice x 0 vc] w fun e w' => e = .returned (.slice a n c) ∧ w' = w
  app : ∀ (w w1 : World) (a x : Option Addr) (n c m vc : Nat) (r : Value), n ≤ c → 0 < m → (∀ ty, (Builtin.append_ #[tS, tS] ty #[.slice a n c, .slice x m vc]).run P w = .ok r w1) →
    Calls P f #[.slice a n c, .int .i64 n, .slice x m vc] w fun e w' => e = .returned r ∧ w' = w1
  shift : ∀ (w W1 W2 : World) (b off n c i vb voff m vc : Nat), i < n → 0 < m → n + m ≤ c → n + m ≤ 9223372036854775807 →
    (∀ lb cb, (callFunc ov #[.slice (some (ad vb voff)) m vc, .slice (some (ad b (off + (i + m) * sz))) lb cb]).run P w = .ok (.value (.bool false)) w) →
    (∀ ty dc sc, (Builtin.copy_ #[tS, tS] ty #[.slice (some (ad b (off + (i + m) * sz))) (n + m - (i + m)) dc, .slice (some (ad b (off + i * sz))) (n + m - i) sc]).run P w.drew = .ok (goInt ((n - i : Nat) : Int)) W1) →
    (∀ ty dc, (Builtin.copy_ #[tS, tS] ty #[.slice (some (ad b (off + i * sz))) (n + m - i) dc, .slice (some (ad vb voff)) m vc]).run P W1 = .ok (goInt (m : Int)) W2) →
    Calls P f #[.slice (some (ad b off)) n c, .int .i64 i, .slice (some (ad vb voff)) m vc] w fun e w' => e = .returned (.slice (some (ad b off)) (n + m) c) ∧ w' = W2
  grow : ∀ (w W1 W2 W3 : World) (b off n c i vb voff m vc N G : Nat), i < n → 0 < m → n ≤ c → c < n + m → n + m ≤ G → n + m ≤ 9223372036854775807 →
    (∀ ty, (Builtin.append_ #[tS, tI] ty #[.slice (some (ad b off)) i c, .int .i64 ((n : Int) + (m : Int) - (i : Int))]).run P w = .ok (.slice (some (ad N 0)) (n + m) G) W1) →
    (∀ ty dc, (Builtin.copy_ #[tS, tS] ty #[.slice (some (ad N (i * sz))) (n + m - i) dc, .slice (some (ad vb voff)) m vc]).run P W1 = .ok (goInt (m : Int)) W2) →
    (∀ ty dc sc, (Builtin.copy_ #[tS, tS] ty #[.slice (some (ad N ((i + m) * sz))) (n + m - (i + m)) dc, .slice (some (ad b (off + i * sz))) (n - i) sc]).run P W2.drew = .ok (goInt ((n - i : Nat) : Int)) W3) →
    Calls P f #[.slice (some (ad b off)) n c, .int .i64 i, .slice (some (ad vb voff)) m vc] w fun e w' => e = .returned (.slice (some (ad N 0)) (n + m) G) ∧ w' = W3
structure DelWalk (P : Program) (f : Nat) (tS tE : TypeId) (sz : Nat) : Prop where
  fn : ∃ fn, P.funcs[f]? = some fn ∧ (fn.name == "runtime.NumGoroutine") = false ∧ fn.body.isNone = false
  non : ∀ (w : World) (a : Option Addr) (n c i : Nat), i ≤ n → n ≤ c → Calls P f #[.slice a n c, .int .i64 i, .int .i64 i] w fun e w' => e = .returned (.slice a n c) ∧ w' = w
  del : ∀ (w W1 W2 : World) (b off n c i j : Nat), i < j → j ≤ n → n ≤ c →
    (∀ ty, (Builtin.append_ #[tS, tS] ty #[.slice (some (ad b off)) i c, .slice (some (if c = j then ad b off else ad b (off + j * sz))) (n - j) (c - j)]).run P w.drew = .ok (.slice (some (ad b off)) (i + (n - j)) c) W1) →
    (∀ ty, (Builtin.clear_ #[tS] ty #[.slice (some (ad b (off + (i + (n - j)) * sz))) (n - (i + (n - j))) (c - (i + (n - j)))]).run P W1 = .ok (.tuple #[]) W2) →
    Calls P f #[.slice (some (ad b off)) n c, .int .i64 i, .int .i64 j] w fun e w' => e = .returned (.slice (some (ad b off)) (i + (n - j)) c) ∧ w' = W2
end Go.Proofs.Ythoabddfionmoaa.AH
