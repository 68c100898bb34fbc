/- The state of a map: equality, marks, a copy of its own. Contracts of seat s: the reference's map of commands. Contracts of seat s: the reference applies a command. Contracts of seat s: the reference applies a command; its ChangesOf. Contracts of seat s: the reference's ChangesOf. Contracts of seat s: the library's binary search at both kinds. Seat s: the map stays in order. Contracts of seat s: the program's map does a command in its own memory. Contracts of seat s: the program applies a command in its own memory. The program's map of commands over blocks of its own. No condition. -/
import Derived.Test.YthoabddfionmoaaK34
import Derived.Test.YthoabddfionmoaaK31
import Derived.Test.YthoabddfionmoaaK32
import Derived.Test.YthoabddfionmoaaK3St
set_option linter.unusedVariables false
set_option linter.unusedSimpArgs false
set_option maxRecDepth 100000
namespace Go.Proofs.Ythoabddfionmoaa.AH
open Go Go.RowKit
theorem eKv (a b : Kv) (h1 : a.cells.length ≤ 1000) (h2 : a.sess.length ≤ 1000) (h3 : b.cells.length ≤ 1000) (h4 : b.sess.length ≤ 1000) (v1 v2 w1 w2 : V) (h : H) (hk : Hok h) (r1 : RV h v1 a.cells) (r2 : RV h v2 a.sess) (r3 : RV h w1 b.cells) (r4 : RV h w2 b.sess) :
    Wp (R 24 [.agg [v1, v2], .agg [w1, w2]] h) fun r h' => r = .bool (decide (a = b)) ∧ Fr [] h h' := by
  refine R24 rfl ?_
  rw [S24_eq]
  have s := Mm.base hk
  repeat (first
   | ((with_reducible refine Wp.gb ?_); refine Wp.b (by first | (with_reducible first | exact fA_p (by assumption) | exact fA_o (by assumption) | exact nilC_ptr (by assumption) | exact bin_lss .. | exact bin_leq .. | exact bin_gtr .. | exact bin_geq .. | exact bin_eql .. | exact bin_neq .. | exact bin_add .. | exact bin_sub .. | exact bin_mul .. | exact str_eql .. | exact str_neq .. | exact str_lss .. | exact str_gtr .. | exact str_geq .. | exact str_leq .. | exact not_bool .. | exact lenS_str .. | assumption) | exact (show extV (.tup _) _ = some _ from rfl) | exact s.ld1 0 rfl (by assumption) _ rfl | exact s.ld1 1 rfl (by assumption) _ rfl | exact s.ld1 2 rfl (by assumption) _ rfl | exact s.ld1 3 rfl (by assumption) _ rfl | exact s.ld1 4 rfl (by assumption) _ rfl | exact s.ld1 5 rfl (by assumption) _ rfl | exact s.ld1 6 rfl (by assumption) _ rfl | exact s.ld1 7 rfl (by assumption) _ rfl | exact s.ld1 8 rfl (by assumption) _ rfl | exact s.ld1 9 rfl (by assumption) _ rfl | exact s.ld1 10 rfl (by assumption) _ rfl | exact s.ld1 11 rfl (by assumption) _ rfl | exact bload_ld1 (by assumption) _ rfl | exact bload_ldn (by assumption) _ _ (Nat.le_refl _) | exact (show bldV _ _ = some _ from rfl) | ((first | apply s.ldn 0 rfl | apply s.ldn 1 rfl | apply s.ldn 2 rfl | apply s.ldn 3 rfl | apply s.ldn 4 rfl | apply s.ldn 5 rfl | apply s.ldn 6 rfl | apply s.ldn 7 rfl | apply s.ldn 8 rfl | apply s.ldn 9 rfl | apply s.ldn 10 rfl | apply s.ldn 11 rfl); (· assumption); (· first | exact Nat.le_refl _ | decide | (simp; done)); (· rfl))) ?_)
   | (with_reducible first | refine Wp.onT (by assumption) ?_ | refine Wp.onF (by assumption) ?_ | refine Wp.spT (by assumption) ?_ | refine Wp.spF (by assumption) ?_)
   | ((with_reducible refine Wp.gbx ?_); refine Wp.box s rfl fun _p _g _p0 _F s => ?_)
   | ((with_reducible refine Wp.gal ?_); refine Wp.alo s fun _p _g _p0 _F s => ?_))
  refine Wp.bind (ePairS a.cells b.cells (by omega) (by omega) _ _ _ s.k (s.bor r1) (s.bor r3)) ?_
  rintro _ _g ⟨rfl, _F⟩
  replace s := s.fr0 _F
  try dsimp only
  repeat (first
   | ((with_reducible refine Wp.gb ?_); refine Wp.b (by first | (with_reducible first | exact fA_p (by assumption) | exact fA_o (by assumption) | exact nilC_ptr (by assumption) | exact bin_lss .. | exact bin_leq .. | exact bin_gtr .. | exact bin_geq .. | exact bin_eql .. | exact bin_neq .. | exact bin_add .. | exact bin_sub .. | exact bin_mul .. | exact str_eql .. | exact str_neq .. | exact str_lss .. | exact str_gtr .. | exact str_geq .. | exact str_leq .. | exact not_bool .. | exact lenS_str .. | assumption) | exact (show extV (.tup _) _ = some _ from rfl) | exact s.ld1 0 rfl (by assumption) _ rfl | exact s.ld1 1 rfl (by assumption) _ rfl | exact s.ld1 2 rfl (by assumption) _ rfl | exact s.ld1 3 rfl (by assumption) _ rfl | exact s.ld1 4 rfl (by assumption) _ rfl | exact s.ld1 5 rfl (by assumption) _ rfl | exact s.ld1 6 rfl (by assumption) _ rfl | exact s.ld1 7 rfl (by assumption) _ rfl | exact s.ld1 8 rfl (by assumption) _ rfl | exact s.ld1 9 rfl (by assumption) _ rfl | exact s.ld1 10 rfl (by assumption) _ rfl | exact s.ld1 11 rfl (by assumption) _ rfl | exact bload_ld1 (by assumption) _ rfl | exact bload_ldn (by assumption) _ _ (Nat.le_refl _) | exact (show bldV _ _ = some _ from rfl) | ((first | apply s.ldn 0 rfl | apply s.ldn 1 rfl | apply s.ldn 2 rfl | apply s.ldn 3 rfl | apply s.ldn 4 rfl | apply s.ldn 5 rfl | apply s.ldn 6 rfl | apply s.ldn 7 rfl | apply s.ldn 8 rfl | apply s.ldn 9 rfl | apply s.ldn 10 rfl | apply s.ldn 11 rfl); (· assumption); (· first | exact Nat.le_refl _ | decide | (simp; done)); (· rfl))) ?_)
   | (with_reducible first | refine Wp.onT (by assumption) ?_ | refine Wp.onF (by assumption) ?_ | refine Wp.spT (by assumption) ?_ | refine Wp.spF (by assumption) ?_)
   | ((with_reducible refine Wp.gbx ?_); refine Wp.box s rfl fun _p _g _p0 _F s => ?_)
   | ((with_reducible refine Wp.gal ?_); refine Wp.alo s fun _p _g _p0 _F s => ?_))
  refine Wp.on (fun c1 => ?_) (fun c1 => ?_)
  · refine Wp.r1 rfl rfl ⟨?_, s.F⟩
    have : a ≠ b := by rintro rfl; simp at c1
    simp [this]
  repeat (first
   | ((with_reducible refine Wp.gb ?_); refine Wp.b (by first | (with_reducible first | exact fA_p (by assumption) | exact fA_o (by assumption) | exact nilC_ptr (by assumption) | exact bin_lss .. | exact bin_leq .. | exact bin_gtr .. | exact bin_geq .. | exact bin_eql .. | exact bin_neq .. | exact bin_add .. | exact bin_sub .. | exact bin_mul .. | exact str_eql .. | exact str_neq .. | exact str_lss .. | exact str_gtr .. | exact str_geq .. | exact str_leq .. | exact not_bool .. | exact lenS_str .. | assumption) | exact (show extV (.tup _) _ = some _ from rfl) | exact s.ld1 0 rfl (by assumption) _ rfl | exact s.ld1 1 rfl (by assumption) _ rfl | exact s.ld1 2 rfl (by assumption) _ rfl | exact s.ld1 3 rfl (by assumption) _ rfl | exact s.ld1 4 rfl (by assumption) _ rfl | exact s.ld1 5 rfl (by assumption) _ rfl | exact s.ld1 6 rfl (by assumption) _ rfl | exact s.ld1 7 rfl (by assumption) _ rfl | exact s.ld1 8 rfl (by assumption) _ rfl | exact s.ld1 9 rfl (by assumption) _ rfl | exact s.ld1 10 rfl (by assumption) _ rfl | exact s.ld1 11 rfl (by assumption) _ rfl | exact bload_ld1 (by assumption) _ rfl | exact bload_ldn (by assumption) _ _ (Nat.le_refl _) | exact (show bldV _ _ = some _ from rfl) | ((first | apply s.ldn 0 rfl | apply s.ldn 1 rfl | apply s.ldn 2 rfl | apply s.ldn 3 rfl | apply s.ldn 4 rfl | apply s.ldn 5 rfl | apply s.ldn 6 rfl | apply s.ldn 7 rfl | apply s.ldn 8 rfl | apply s.ldn 9 rfl | apply s.ldn 10 rfl | apply s.ldn 11 rfl); (· assumption); (· first | exact Nat.le_refl _ | decide | (simp; done)); (· rfl))) ?_)
   | (with_reducible first | refine Wp.onT (by assumption) ?_ | refine Wp.onF (by assumption) ?_ | refine Wp.spT (by assumption) ?_ | refine Wp.spF (by assumption) ?_)
   | ((with_reducible refine Wp.gbx ?_); refine Wp.box s rfl fun _p _g _p0 _F s => ?_)
   | ((with_reducible refine Wp.gal ?_); refine Wp.alo s fun _p _g _p0 _F s => ?_))
  refine Wp.bind (eSessionS a.sess b.sess (by omega) (by omega) _ _ _ s.k (s.bor r2) (s.bor r4)) ?_
  rintro _ _g ⟨rfl, _F⟩
  replace s := s.fr0 _F
  try dsimp only
  repeat (first
   | ((with_reducible refine Wp.gb ?_); refine Wp.b (by first | (with_reducible first | exact fA_p (by assumption) | exact fA_o (by assumption) | exact nilC_ptr (by assumption) | exact bin_lss .. | exact bin_leq .. | exact bin_gtr .. | exact bin_geq .. | exact bin_eql .. | exact bin_neq .. | exact bin_add .. | exact bin_sub .. | exact bin_mul .. | exact str_eql .. | exact str_neq .. | exact str_lss .. | exact str_gtr .. | exact str_geq .. | exact str_leq .. | exact not_bool .. | exact lenS_str .. | assumption) | exact (show extV (.tup _) _ = some _ from rfl) | exact s.ld1 0 rfl (by assumption) _ rfl | exact s.ld1 1 rfl (by assumption) _ rfl | exact s.ld1 2 rfl (by assumption) _ rfl | exact s.ld1 3 rfl (by assumption) _ rfl | exact s.ld1 4 rfl (by assumption) _ rfl | exact s.ld1 5 rfl (by assumption) _ rfl | exact s.ld1 6 rfl (by assumption) _ rfl | exact s.ld1 7 rfl (by assumption) _ rfl | exact s.ld1 8 rfl (by assumption) _ rfl | exact s.ld1 9 rfl (by assumption) _ rfl | exact s.ld1 10 rfl (by assumption) _ rfl | exact s.ld1 11 rfl (by assumption) _ rfl | exact bload_ld1 (by assumption) _ rfl | exact bload_ldn (by assumption) _ _ (Nat.le_refl _) | exact (show bldV _ _ = some _ from rfl) | ((first | apply s.ldn 0 rfl | apply s.ldn 1 rfl | apply s.ldn 2 rfl | apply s.ldn 3 rfl | apply s.ldn 4 rfl | apply s.ldn 5 rfl | apply s.ldn 6 rfl | apply s.ldn 7 rfl | apply s.ldn 8 rfl | apply s.ldn 9 rfl | apply s.ldn 10 rfl | apply s.ldn 11 rfl); (· assumption); (· first | exact Nat.le_refl _ | decide | (simp; done)); (· rfl))) ?_)
   | (with_reducible first | refine Wp.onT (by assumption) ?_ | refine Wp.onF (by assumption) ?_ | refine Wp.spT (by assumption) ?_ | refine Wp.spF (by assumption) ?_)
   | ((with_reducible refine Wp.gbx ?_); refine Wp.box s rfl fun _p _g _p0 _F s => ?_)
   | ((with_reducible refine Wp.gal ?_); refine Wp.alo s fun _p _g _p0 _F s => ?_))
  have e1 : a.cells = b.cells := by simpa using c1
  refine Wp.on (fun c2 => ?_) (fun c2 => ?_)
  · refine Wp.r1 rfl rfl ⟨?_, s.F⟩
    have : a ≠ b := by rintro rfl; simp at c2
    simp [this]
  · refine Wp.r1 rfl rfl ⟨?_, s.F⟩
    have e2 : a.sess = b.sess := by simpa using c2
    cases a; cases b; simp_all
/-- The marks of a state. -/
def mkKv (k : Nat) (a : Kv) : Kv := ⟨mkLPair k a.cells.length, mkLSession (k + 2 * a.cells.length) a.sess.length⟩
theorem mKv {h0 g : H} {M : List (Nat × List V)} (a : Kv) (h1 : a.cells.length ≤ 1000) (h2 : a.sess.length ≤ 1000) {v1 v2 : V} {i1 i2 : Nat} (s : Mm h0 g M) (x y : Nat) (hxy : x ≠ y) (hx : M[x]? = some (i1, flat a.cells)) (hy : M[y]? = some (i2, flat a.sess)) (o1 : OV v1 a.cells i1) (o2 : OV v2 a.sess i2) (k : Nat) (hk1 : 1 ≤ k) (hk : k ≤ 1048576) :
    Wp (R 26 [.agg [v1, v2], .int .i64 k] g) fun r g' => r = .int .i64 ((k + 2 * a.cells.length + 4 * a.sess.length : Nat) : Int) ∧ Mm h0 g' ((M.set x (i1, flat (mkKv k a).cells)).set y (i2, flat (mkKv k a).sess)) ∧ OV v1 (mkKv k a).cells i1 ∧ OV v2 (mkKv k a).sess i2 := by
  refine R26 rfl ?_
  rw [S26_eq]
  repeat (first
   | ((with_reducible refine Wp.gb ?_); refine Wp.b (by first | (with_reducible first | exact fA_p (by assumption) | exact fA_o (by assumption) | exact nilC_ptr (by assumption) | exact bin_lss .. | exact bin_leq .. | exact bin_gtr .. | exact bin_geq .. | exact bin_eql .. | exact bin_neq .. | exact bin_add .. | exact bin_sub .. | exact bin_mul .. | exact str_eql .. | exact str_neq .. | exact str_lss .. | exact str_gtr .. | exact str_geq .. | exact str_leq .. | exact not_bool .. | exact lenS_str .. | assumption) | exact (show extV (.tup _) _ = some _ from rfl) | exact s.ld1 0 rfl (by assumption) _ rfl | exact s.ld1 1 rfl (by assumption) _ rfl | exact s.ld1 2 rfl (by assumption) _ rfl | exact s.ld1 3 rfl (by assumption) _ rfl | exact s.ld1 4 rfl (by assumption) _ rfl | exact s.ld1 5 rfl (by assumption) _ rfl | exact s.ld1 6 rfl (by assumption) _ rfl | exact s.ld1 7 rfl (by assumption) _ rfl | exact s.ld1 8 rfl (by assumption) _ rfl | exact s.ld1 9 rfl (by assumption) _ rfl | exact s.ld1 10 rfl (by assumption) _ rfl | exact s.ld1 11 rfl (by assumption) _ rfl | exact bload_ld1 (by assumption) _ rfl | exact bload_ldn (by assumption) _ _ (Nat.le_refl _) | exact (show bldV _ _ = some _ from rfl) | ((first | apply s.ldn 0 rfl | apply s.ldn 1 rfl | apply s.ldn 2 rfl | apply s.ldn 3 rfl | apply s.ldn 4 rfl | apply s.ldn 5 rfl | apply s.ldn 6 rfl | apply s.ldn 7 rfl | apply s.ldn 8 rfl | apply s.ldn 9 rfl | apply s.ldn 10 rfl | apply s.ldn 11 rfl); (· assumption); (· first | exact Nat.le_refl _ | decide | (simp; done)); (· rfl))) ?_)
   | (with_reducible first | refine Wp.onT (by assumption) ?_ | refine Wp.onF (by assumption) ?_ | refine Wp.spT (by assumption) ?_ | refine Wp.spF (by assumption) ?_)
   | ((with_reducible refine Wp.gbx ?_); refine Wp.box s rfl fun _p _g _p0 _F s => ?_)
   | ((with_reducible refine Wp.gal ?_); refine Wp.alo s fun _p _g _p0 _F s => ?_))
  refine Wp.bind (mPairS s (x + 1) o1 (by simpa using hx) k hk1 (by omega)) ?_
  rintro _ g2 ⟨rfl, s, o1⟩
  simp only [List.set_cons_succ, List.set_cons_zero] at s
  repeat (first
   | ((with_reducible refine Wp.gb ?_); refine Wp.b (by first | (with_reducible first | exact fA_p (by assumption) | exact fA_o (by assumption) | exact nilC_ptr (by assumption) | exact bin_lss .. | exact bin_leq .. | exact bin_gtr .. | exact bin_geq .. | exact bin_eql .. | exact bin_neq .. | exact bin_add .. | exact bin_sub .. | exact bin_mul .. | exact str_eql .. | exact str_neq .. | exact str_lss .. | exact str_gtr .. | exact str_geq .. | exact str_leq .. | exact not_bool .. | exact lenS_str .. | assumption) | exact (show extV (.tup _) _ = some _ from rfl) | exact s.ld1 0 rfl (by assumption) _ rfl | exact s.ld1 1 rfl (by assumption) _ rfl | exact s.ld1 2 rfl (by assumption) _ rfl | exact s.ld1 3 rfl (by assumption) _ rfl | exact s.ld1 4 rfl (by assumption) _ rfl | exact s.ld1 5 rfl (by assumption) _ rfl | exact s.ld1 6 rfl (by assumption) _ rfl | exact s.ld1 7 rfl (by assumption) _ rfl | exact s.ld1 8 rfl (by assumption) _ rfl | exact s.ld1 9 rfl (by assumption) _ rfl | exact s.ld1 10 rfl (by assumption) _ rfl | exact s.ld1 11 rfl (by assumption) _ rfl | exact bload_ld1 (by assumption) _ rfl | exact bload_ldn (by assumption) _ _ (Nat.le_refl _) | exact (show bldV _ _ = some _ from rfl) | ((first | apply s.ldn 0 rfl | apply s.ldn 1 rfl | apply s.ldn 2 rfl | apply s.ldn 3 rfl | apply s.ldn 4 rfl | apply s.ldn 5 rfl | apply s.ldn 6 rfl | apply s.ldn 7 rfl | apply s.ldn 8 rfl | apply s.ldn 9 rfl | apply s.ldn 10 rfl | apply s.ldn 11 rfl); (· assumption); (· first | exact Nat.le_refl _ | decide | (simp; done)); (· rfl))) ?_)
   | (with_reducible first | refine Wp.onT (by assumption) ?_ | refine Wp.onF (by assumption) ?_ | refine Wp.spT (by assumption) ?_ | refine Wp.spF (by assumption) ?_)
   | ((with_reducible refine Wp.gbx ?_); refine Wp.box s rfl fun _p _g _p0 _F s => ?_)
   | ((with_reducible refine Wp.gal ?_); refine Wp.alo s fun _p _g _p0 _F s => ?_))
  refine Wp.bind (mSessionS s (y + 1) o2 (by simpa [List.getElem?_set_ne hxy] using hy) (k + 2 * a.cells.length) (by omega) (by omega)) ?_
  rintro _ g3 ⟨rfl, s, o2⟩
  simp only [List.set_cons_succ, List.set_cons_zero] at s
  exact Wp.r1 rfl rfl ⟨rfl, s.tail, o1, o2⟩
theorem hKv (a : Kv) (h1 : a.cells.length ≤ 1000) (h2 : a.sess.length ≤ 1000) (k : Nat) (hk1 : 1 ≤ k) (hk : k ≤ 1048576) {v1 v2 : V} (g : H) (ok : Hok g) (r1 : RV g v1 (mkKv k a).cells) (r2 : RV g v2 (mkKv k a).sess) :
    Wp (R 28 [.agg [v1, v2], .int .i64 k] g) fun r g' => r = .int .i64 ((k + 2 * a.cells.length + 4 * a.sess.length : Nat) : Int) ∧ Fr [] g g' := by
  refine R28 rfl ?_
  rw [S28_eq]
  have s := Mm.base ok
  repeat (first
   | ((with_reducible refine Wp.gb ?_); refine Wp.b (by first | (with_reducible first | exact fA_p (by assumption) | exact fA_o (by assumption) | exact nilC_ptr (by assumption) | exact bin_lss .. | exact bin_leq .. | exact bin_gtr .. | exact bin_geq .. | exact bin_eql .. | exact bin_neq .. | exact bin_add .. | exact bin_sub .. | exact bin_mul .. | exact str_eql .. | exact str_neq .. | exact str_lss .. | exact str_gtr .. | exact str_geq .. | exact str_leq .. | exact not_bool .. | exact lenS_str .. | assumption) | exact (show extV (.tup _) _ = some _ from rfl) | exact s.ld1 0 rfl (by assumption) _ rfl | exact s.ld1 1 rfl (by assumption) _ rfl | exact s.ld1 2 rfl (by assumption) _ rfl | exact s.ld1 3 rfl (by assumption) _ rfl | exact s.ld1 4 rfl (by assumption) _ rfl | exact s.ld1 5 rfl (by assumption) _ rfl | exact s.ld1 6 rfl (by assumption) _ rfl | exact s.ld1 7 rfl (by assumption) _ rfl | exact s.ld1 8 rfl (by assumption) _ rfl | exact s.ld1 9 rfl (by assumption) _ rfl | exact s.ld1 10 rfl (by assumption) _ rfl | exact s.ld1 11 rfl (by assumption) _ rfl | exact bload_ld1 (by assumption) _ rfl | exact bload_ldn (by assumption) _ _ (Nat.le_refl _) | exact (show bldV _ _ = some _ from rfl) | ((first | apply s.ldn 0 rfl | apply s.ldn 1 rfl | apply s.ldn 2 rfl | apply s.ldn 3 rfl | apply s.ldn 4 rfl | apply s.ldn 5 rfl | apply s.ldn 6 rfl | apply s.ldn 7 rfl | apply s.ldn 8 rfl | apply s.ldn 9 rfl | apply s.ldn 10 rfl | apply s.ldn 11 rfl); (· assumption); (· first | exact Nat.le_refl _ | decide | (simp; done)); (· rfl))) ?_)
   | (with_reducible first | refine Wp.onT (by assumption) ?_ | refine Wp.onF (by assumption) ?_ | refine Wp.spT (by assumption) ?_ | refine Wp.spF (by assumption) ?_)
   | ((with_reducible refine Wp.gbx ?_); refine Wp.box s rfl fun _p _g _p0 _F s => ?_)
   | ((with_reducible refine Wp.gal ?_); refine Wp.alo s fun _p _g _p0 _F s => ?_))
  refine Wp.bind (hPairS a.cells.length k hk1 (by omega) v1 _ s.k (s.bor r1)) ?_
  rintro _ _g ⟨rfl, _F⟩
  replace s := s.fr0 _F
  try dsimp only
  repeat (first
   | ((with_reducible refine Wp.gb ?_); refine Wp.b (by first | (with_reducible first | exact fA_p (by assumption) | exact fA_o (by assumption) | exact nilC_ptr (by assumption) | exact bin_lss .. | exact bin_leq .. | exact bin_gtr .. | exact bin_geq .. | exact bin_eql .. | exact bin_neq .. | exact bin_add .. | exact bin_sub .. | exact bin_mul .. | exact str_eql .. | exact str_neq .. | exact str_lss .. | exact str_gtr .. | exact str_geq .. | exact str_leq .. | exact not_bool .. | exact lenS_str .. | assumption) | exact (show extV (.tup _) _ = some _ from rfl) | exact s.ld1 0 rfl (by assumption) _ rfl | exact s.ld1 1 rfl (by assumption) _ rfl | exact s.ld1 2 rfl (by assumption) _ rfl | exact s.ld1 3 rfl (by assumption) _ rfl | exact s.ld1 4 rfl (by assumption) _ rfl | exact s.ld1 5 rfl (by assumption) _ rfl | exact s.ld1 6 rfl (by assumption) _ rfl | exact s.ld1 7 rfl (by assumption) _ rfl | exact s.ld1 8 rfl (by assumption) _ rfl | exact s.ld1 9 rfl (by assumption) _ rfl | exact s.ld1 10 rfl (by assumption) _ rfl | exact s.ld1 11 rfl (by assumption) _ rfl | exact bload_ld1 (by assumption) _ rfl | exact bload_ldn (by assumption) _ _ (Nat.le_refl _) | exact (show bldV _ _ = some _ from rfl) | ((first | apply s.ldn 0 rfl | apply s.ldn 1 rfl | apply s.ldn 2 rfl | apply s.ldn 3 rfl | apply s.ldn 4 rfl | apply s.ldn 5 rfl | apply s.ldn 6 rfl | apply s.ldn 7 rfl | apply s.ldn 8 rfl | apply s.ldn 9 rfl | apply s.ldn 10 rfl | apply s.ldn 11 rfl); (· assumption); (· first | exact Nat.le_refl _ | decide | (simp; done)); (· rfl))) ?_)
   | (with_reducible first | refine Wp.onT (by assumption) ?_ | refine Wp.onF (by assumption) ?_ | refine Wp.spT (by assumption) ?_ | refine Wp.spF (by assumption) ?_)
   | ((with_reducible refine Wp.gbx ?_); refine Wp.box s rfl fun _p _g _p0 _F s => ?_)
   | ((with_reducible refine Wp.gal ?_); refine Wp.alo s fun _p _g _p0 _F s => ?_))
  refine Wp.onF (by simp; omega) ?_
  repeat (first
   | ((with_reducible refine Wp.gb ?_); refine Wp.b (by first | (with_reducible first | exact fA_p (by assumption) | exact fA_o (by assumption) | exact nilC_ptr (by assumption) | exact bin_lss .. | exact bin_leq .. | exact bin_gtr .. | exact bin_geq .. | exact bin_eql .. | exact bin_neq .. | exact bin_add .. | exact bin_sub .. | exact bin_mul .. | exact str_eql .. | exact str_neq .. | exact str_lss .. | exact str_gtr .. | exact str_geq .. | exact str_leq .. | exact not_bool .. | exact lenS_str .. | assumption) | exact (show extV (.tup _) _ = some _ from rfl) | exact s.ld1 0 rfl (by assumption) _ rfl | exact s.ld1 1 rfl (by assumption) _ rfl | exact s.ld1 2 rfl (by assumption) _ rfl | exact s.ld1 3 rfl (by assumption) _ rfl | exact s.ld1 4 rfl (by assumption) _ rfl | exact s.ld1 5 rfl (by assumption) _ rfl | exact s.ld1 6 rfl (by assumption) _ rfl | exact s.ld1 7 rfl (by assumption) _ rfl | exact s.ld1 8 rfl (by assumption) _ rfl | exact s.ld1 9 rfl (by assumption) _ rfl | exact s.ld1 10 rfl (by assumption) _ rfl | exact s.ld1 11 rfl (by assumption) _ rfl | exact bload_ld1 (by assumption) _ rfl | exact bload_ldn (by assumption) _ _ (Nat.le_refl _) | exact (show bldV _ _ = some _ from rfl) | ((first | apply s.ldn 0 rfl | apply s.ldn 1 rfl | apply s.ldn 2 rfl | apply s.ldn 3 rfl | apply s.ldn 4 rfl | apply s.ldn 5 rfl | apply s.ldn 6 rfl | apply s.ldn 7 rfl | apply s.ldn 8 rfl | apply s.ldn 9 rfl | apply s.ldn 10 rfl | apply s.ldn 11 rfl); (· assumption); (· first | exact Nat.le_refl _ | decide | (simp; done)); (· rfl))) ?_)
   | (with_reducible first | refine Wp.onT (by assumption) ?_ | refine Wp.onF (by assumption) ?_ | refine Wp.spT (by assumption) ?_ | refine Wp.spF (by assumption) ?_)
   | ((with_reducible refine Wp.gbx ?_); refine Wp.box s rfl fun _p _g _p0 _F s => ?_)
   | ((with_reducible refine Wp.gal ?_); refine Wp.alo s fun _p _g _p0 _F s => ?_))
  refine Wp.bind (hSessionS a.sess.length (k + 2 * a.cells.length) (by omega) (by omega) v2 _ s.k (s.bor r2)) ?_
  rintro _ _g ⟨rfl, _F⟩
  replace s := s.fr0 _F
  try dsimp only
  repeat (first
   | ((with_reducible refine Wp.gb ?_); refine Wp.b (by first | (with_reducible first | exact fA_p (by assumption) | exact fA_o (by assumption) | exact nilC_ptr (by assumption) | exact bin_lss .. | exact bin_leq .. | exact bin_gtr .. | exact bin_geq .. | exact bin_eql .. | exact bin_neq .. | exact bin_add .. | exact bin_sub .. | exact bin_mul .. | exact str_eql .. | exact str_neq .. | exact str_lss .. | exact str_gtr .. | exact str_geq .. | exact str_leq .. | exact not_bool .. | exact lenS_str .. | assumption) | exact (show extV (.tup _) _ = some _ from rfl) | exact s.ld1 0 rfl (by assumption) _ rfl | exact s.ld1 1 rfl (by assumption) _ rfl | exact s.ld1 2 rfl (by assumption) _ rfl | exact s.ld1 3 rfl (by assumption) _ rfl | exact s.ld1 4 rfl (by assumption) _ rfl | exact s.ld1 5 rfl (by assumption) _ rfl | exact s.ld1 6 rfl (by assumption) _ rfl | exact s.ld1 7 rfl (by assumption) _ rfl | exact s.ld1 8 rfl (by assumption) _ rfl | exact s.ld1 9 rfl (by assumption) _ rfl | exact s.ld1 10 rfl (by assumption) _ rfl | exact s.ld1 11 rfl (by assumption) _ rfl | exact bload_ld1 (by assumption) _ rfl | exact bload_ldn (by assumption) _ _ (Nat.le_refl _) | exact (show bldV _ _ = some _ from rfl) | ((first | apply s.ldn 0 rfl | apply s.ldn 1 rfl | apply s.ldn 2 rfl | apply s.ldn 3 rfl | apply s.ldn 4 rfl | apply s.ldn 5 rfl | apply s.ldn 6 rfl | apply s.ldn 7 rfl | apply s.ldn 8 rfl | apply s.ldn 9 rfl | apply s.ldn 10 rfl | apply s.ldn 11 rfl); (· assumption); (· first | exact Nat.le_refl _ | decide | (simp; done)); (· rfl))) ?_)
   | (with_reducible first | refine Wp.onT (by assumption) ?_ | refine Wp.onF (by assumption) ?_ | refine Wp.spT (by assumption) ?_ | refine Wp.spF (by assumption) ?_)
   | ((with_reducible refine Wp.gbx ?_); refine Wp.box s rfl fun _p _g _p0 _F s => ?_)
   | ((with_reducible refine Wp.gal ?_); refine Wp.alo s fun _p _g _p0 _F s => ?_))
  refine Wp.onF (by simp; omega) ?_
  exact Wp.r1 rfl rfl ⟨rfl, s.F⟩
/-- A copy of its own. -/
theorem own50 (a : Kv) (h1 : a.cells.length ≤ 1000) (h2 : a.sess.length ≤ 1000) {v1 v2 : V} (g : H) (ok : Hok g) (r1 : RV g v1 a.cells) (r2 : RV g v2 a.sess) :
    Wp (R 50 [.agg [v1, v2]] g) fun r g' => ∃ w1 w2 i1 i2, r = .agg [w1, w2] ∧ Mm g g' [(i1, flat a.cells), (i2, flat a.sess)] ∧ OV w1 a.cells i1 ∧ OV w2 a.sess i2 := by
  refine R50 rfl ?_
  rw [S50_eq]
  have s := Mm.base ok
  repeat (first
   | ((with_reducible refine Wp.gb ?_); refine Wp.b (by first | (with_reducible first | exact fA_p (by assumption) | exact fA_o (by assumption) | exact nilC_ptr (by assumption) | exact bin_lss .. | exact bin_leq .. | exact bin_gtr .. | exact bin_geq .. | exact bin_eql .. | exact bin_neq .. | exact bin_add .. | exact bin_sub .. | exact bin_mul .. | exact str_eql .. | exact str_neq .. | exact str_lss .. | exact str_gtr .. | exact str_geq .. | exact str_leq .. | exact not_bool .. | exact lenS_str .. | assumption) | exact (show extV (.tup _) _ = some _ from rfl) | exact s.ld1 0 rfl (by assumption) _ rfl | exact s.ld1 1 rfl (by assumption) _ rfl | exact s.ld1 2 rfl (by assumption) _ rfl | exact s.ld1 3 rfl (by assumption) _ rfl | exact s.ld1 4 rfl (by assumption) _ rfl | exact s.ld1 5 rfl (by assumption) _ rfl | exact s.ld1 6 rfl (by assumption) _ rfl | exact s.ld1 7 rfl (by assumption) _ rfl | exact s.ld1 8 rfl (by assumption) _ rfl | exact s.ld1 9 rfl (by assumption) _ rfl | exact s.ld1 10 rfl (by assumption) _ rfl | exact s.ld1 11 rfl (by assumption) _ rfl | exact bload_ld1 (by assumption) _ rfl | exact bload_ldn (by assumption) _ _ (Nat.le_refl _) | exact (show bldV _ _ = some _ from rfl) | ((first | apply s.ldn 0 rfl | apply s.ldn 1 rfl | apply s.ldn 2 rfl | apply s.ldn 3 rfl | apply s.ldn 4 rfl | apply s.ldn 5 rfl | apply s.ldn 6 rfl | apply s.ldn 7 rfl | apply s.ldn 8 rfl | apply s.ldn 9 rfl | apply s.ldn 10 rfl | apply s.ldn 11 rfl); (· assumption); (· first | exact Nat.le_refl _ | decide | (simp; done)); (· rfl))) ?_)
   | (with_reducible first | refine Wp.onT (by assumption) ?_ | refine Wp.onF (by assumption) ?_ | refine Wp.spT (by assumption) ?_ | refine Wp.spF (by assumption) ?_)
   | ((with_reducible refine Wp.gbx ?_); refine Wp.box s rfl fun _p _g _p0 _F s => ?_)
   | ((with_reducible refine Wp.gal ?_); refine Wp.alo s fun _p _g _p0 _F s => ?_))
  refine Wp.lit s ([] : List Pr) rfl rfl rfl fun w1 i1 _g o1 n1 _F s => ?_
  have _c := o1.cells
  have _n := o1.nt
  repeat (first
   | ((with_reducible refine Wp.gb ?_); refine Wp.b (by first | (with_reducible first | exact fA_p (by assumption) | exact fA_o (by assumption) | exact nilC_ptr (by assumption) | exact bin_lss .. | exact bin_leq .. | exact bin_gtr .. | exact bin_geq .. | exact bin_eql .. | exact bin_neq .. | exact bin_add .. | exact bin_sub .. | exact bin_mul .. | exact str_eql .. | exact str_neq .. | exact str_lss .. | exact str_gtr .. | exact str_geq .. | exact str_leq .. | exact not_bool .. | exact lenS_str .. | assumption) | exact (show extV (.tup _) _ = some _ from rfl) | exact s.ld1 0 rfl (by assumption) _ rfl | exact s.ld1 1 rfl (by assumption) _ rfl | exact s.ld1 2 rfl (by assumption) _ rfl | exact s.ld1 3 rfl (by assumption) _ rfl | exact s.ld1 4 rfl (by assumption) _ rfl | exact s.ld1 5 rfl (by assumption) _ rfl | exact s.ld1 6 rfl (by assumption) _ rfl | exact s.ld1 7 rfl (by assumption) _ rfl | exact s.ld1 8 rfl (by assumption) _ rfl | exact s.ld1 9 rfl (by assumption) _ rfl | exact s.ld1 10 rfl (by assumption) _ rfl | exact s.ld1 11 rfl (by assumption) _ rfl | exact bload_ld1 (by assumption) _ rfl | exact bload_ldn (by assumption) _ _ (Nat.le_refl _) | exact (show bldV _ _ = some _ from rfl) | ((first | apply s.ldn 0 rfl | apply s.ldn 1 rfl | apply s.ldn 2 rfl | apply s.ldn 3 rfl | apply s.ldn 4 rfl | apply s.ldn 5 rfl | apply s.ldn 6 rfl | apply s.ldn 7 rfl | apply s.ldn 8 rfl | apply s.ldn 9 rfl | apply s.ldn 10 rfl | apply s.ldn 11 rfl); (· assumption); (· first | exact Nat.le_refl _ | decide | (simp; done)); (· rfl))) ?_)
   | (with_reducible first | refine Wp.onT (by assumption) ?_ | refine Wp.onF (by assumption) ?_ | refine Wp.spT (by assumption) ?_ | refine Wp.spF (by assumption) ?_)
   | ((with_reducible refine Wp.gbx ?_); refine Wp.box s rfl fun _p _g _p0 _F s => ?_)
   | ((with_reducible refine Wp.gal ?_); refine Wp.alo s fun _p _g _p0 _F s => ?_))
  refine Wp.app s 0 o1 rfl (s.bor r1) rfl (by simp <;> omega) (by simp <;> omega) fun w1 i1 _g o1 _F s => ?_
  simp only [List.set_cons_succ, List.set_cons_zero, List.nil_append] at s o1
  have _c := o1.cells
  have _n := o1.nt
  dsimp only
  repeat (first
   | ((with_reducible refine Wp.gb ?_); refine Wp.b (by first | (with_reducible first | exact fA_p (by assumption) | exact fA_o (by assumption) | exact nilC_ptr (by assumption) | exact bin_lss .. | exact bin_leq .. | exact bin_gtr .. | exact bin_geq .. | exact bin_eql .. | exact bin_neq .. | exact bin_add .. | exact bin_sub .. | exact bin_mul .. | exact str_eql .. | exact str_neq .. | exact str_lss .. | exact str_gtr .. | exact str_geq .. | exact str_leq .. | exact not_bool .. | exact lenS_str .. | assumption) | exact (show extV (.tup _) _ = some _ from rfl) | exact s.ld1 0 rfl (by assumption) _ rfl | exact s.ld1 1 rfl (by assumption) _ rfl | exact s.ld1 2 rfl (by assumption) _ rfl | exact s.ld1 3 rfl (by assumption) _ rfl | exact s.ld1 4 rfl (by assumption) _ rfl | exact s.ld1 5 rfl (by assumption) _ rfl | exact s.ld1 6 rfl (by assumption) _ rfl | exact s.ld1 7 rfl (by assumption) _ rfl | exact s.ld1 8 rfl (by assumption) _ rfl | exact s.ld1 9 rfl (by assumption) _ rfl | exact s.ld1 10 rfl (by assumption) _ rfl | exact s.ld1 11 rfl (by assumption) _ rfl | exact bload_ld1 (by assumption) _ rfl | exact bload_ldn (by assumption) _ _ (Nat.le_refl _) | exact (show bldV _ _ = some _ from rfl) | ((first | apply s.ldn 0 rfl | apply s.ldn 1 rfl | apply s.ldn 2 rfl | apply s.ldn 3 rfl | apply s.ldn 4 rfl | apply s.ldn 5 rfl | apply s.ldn 6 rfl | apply s.ldn 7 rfl | apply s.ldn 8 rfl | apply s.ldn 9 rfl | apply s.ldn 10 rfl | apply s.ldn 11 rfl); (· assumption); (· first | exact Nat.le_refl _ | decide | (simp; done)); (· rfl))) ?_)
   | (with_reducible first | refine Wp.onT (by assumption) ?_ | refine Wp.onF (by assumption) ?_ | refine Wp.spT (by assumption) ?_ | refine Wp.spF (by assumption) ?_)
   | ((with_reducible refine Wp.gbx ?_); refine Wp.box s rfl fun _p _g _p0 _F s => ?_)
   | ((with_reducible refine Wp.gal ?_); refine Wp.alo s fun _p _g _p0 _F s => ?_)
   | ((with_reducible refine Wp.gst ?_); (first | apply Wp.sto s 0 rfl | apply Wp.sto s 1 rfl | apply Wp.sto s 2 rfl | apply Wp.sto s 3 rfl | apply Wp.sto s 4 rfl | apply Wp.sto s 5 rfl | apply Wp.sto s 6 rfl | apply Wp.sto s 7 rfl | apply Wp.sto s 8 rfl | apply Wp.sto s 9 rfl | apply Wp.sto s 10 rfl | apply Wp.sto s 11 rfl); (· assumption); (· first | rfl | assumption); (· rfl); (· first | exact Nat.le_refl _ | decide | (simp; done)); (· rfl); intro _g _F s; simp only [List.set_cons_succ, List.set_cons_zero, List.take_succ_cons, List.take_zero, List.drop_succ_cons, List.drop_zero, List.drop_nil, List.nil_append, List.cons_append, List.append_nil, Nat.zero_add, Nat.reduceAdd] at s))
  refine Wp.lit s ([] : List Se) rfl rfl rfl fun w2 i2 _g o2 n2 _F s => ?_
  have _c := o2.cells
  have _n := o2.nt
  repeat (first
   | ((with_reducible refine Wp.gb ?_); refine Wp.b (by first | (with_reducible first | exact fA_p (by assumption) | exact fA_o (by assumption) | exact nilC_ptr (by assumption) | exact bin_lss .. | exact bin_leq .. | exact bin_gtr .. | exact bin_geq .. | exact bin_eql .. | exact bin_neq .. | exact bin_add .. | exact bin_sub .. | exact bin_mul .. | exact str_eql .. | exact str_neq .. | exact str_lss .. | exact str_gtr .. | exact str_geq .. | exact str_leq .. | exact not_bool .. | exact lenS_str .. | assumption) | exact (show extV (.tup _) _ = some _ from rfl) | exact s.ld1 0 rfl (by assumption) _ rfl | exact s.ld1 1 rfl (by assumption) _ rfl | exact s.ld1 2 rfl (by assumption) _ rfl | exact s.ld1 3 rfl (by assumption) _ rfl | exact s.ld1 4 rfl (by assumption) _ rfl | exact s.ld1 5 rfl (by assumption) _ rfl | exact s.ld1 6 rfl (by assumption) _ rfl | exact s.ld1 7 rfl (by assumption) _ rfl | exact s.ld1 8 rfl (by assumption) _ rfl | exact s.ld1 9 rfl (by assumption) _ rfl | exact s.ld1 10 rfl (by assumption) _ rfl | exact s.ld1 11 rfl (by assumption) _ rfl | exact bload_ld1 (by assumption) _ rfl | exact bload_ldn (by assumption) _ _ (Nat.le_refl _) | exact (show bldV _ _ = some _ from rfl) | ((first | apply s.ldn 0 rfl | apply s.ldn 1 rfl | apply s.ldn 2 rfl | apply s.ldn 3 rfl | apply s.ldn 4 rfl | apply s.ldn 5 rfl | apply s.ldn 6 rfl | apply s.ldn 7 rfl | apply s.ldn 8 rfl | apply s.ldn 9 rfl | apply s.ldn 10 rfl | apply s.ldn 11 rfl); (· assumption); (· first | exact Nat.le_refl _ | decide | (simp; done)); (· rfl))) ?_)
   | (with_reducible first | refine Wp.onT (by assumption) ?_ | refine Wp.onF (by assumption) ?_ | refine Wp.spT (by assumption) ?_ | refine Wp.spF (by assumption) ?_)
   | ((with_reducible refine Wp.gbx ?_); refine Wp.box s rfl fun _p _g _p0 _F s => ?_)
   | ((with_reducible refine Wp.gal ?_); refine Wp.alo s fun _p _g _p0 _F s => ?_))
  refine Wp.app s 0 o2 rfl (s.bor r2) rfl (by simp <;> omega) (by simp <;> omega) fun w2 i2 _g o2 _F s => ?_
  simp only [List.set_cons_succ, List.set_cons_zero, List.nil_append] at s o2
  have _c := o2.cells
  have _n := o2.nt
  dsimp only
  repeat (first
   | ((with_reducible refine Wp.gb ?_); refine Wp.b (by first | (with_reducible first | exact fA_p (by assumption) | exact fA_o (by assumption) | exact nilC_ptr (by assumption) | exact bin_lss .. | exact bin_leq .. | exact bin_gtr .. | exact bin_geq .. | exact bin_eql .. | exact bin_neq .. | exact bin_add .. | exact bin_sub .. | exact bin_mul .. | exact str_eql .. | exact str_neq .. | exact str_lss .. | exact str_gtr .. | exact str_geq .. | exact str_leq .. | exact not_bool .. | exact lenS_str .. | assumption) | exact (show extV (.tup _) _ = some _ from rfl) | exact s.ld1 0 rfl (by assumption) _ rfl | exact s.ld1 1 rfl (by assumption) _ rfl | exact s.ld1 2 rfl (by assumption) _ rfl | exact s.ld1 3 rfl (by assumption) _ rfl | exact s.ld1 4 rfl (by assumption) _ rfl | exact s.ld1 5 rfl (by assumption) _ rfl | exact s.ld1 6 rfl (by assumption) _ rfl | exact s.ld1 7 rfl (by assumption) _ rfl | exact s.ld1 8 rfl (by assumption) _ rfl | exact s.ld1 9 rfl (by assumption) _ rfl | exact s.ld1 10 rfl (by assumption) _ rfl | exact s.ld1 11 rfl (by assumption) _ rfl | exact bload_ld1 (by assumption) _ rfl | exact bload_ldn (by assumption) _ _ (Nat.le_refl _) | exact (show bldV _ _ = some _ from rfl) | ((first | apply s.ldn 0 rfl | apply s.ldn 1 rfl | apply s.ldn 2 rfl | apply s.ldn 3 rfl | apply s.ldn 4 rfl | apply s.ldn 5 rfl | apply s.ldn 6 rfl | apply s.ldn 7 rfl | apply s.ldn 8 rfl | apply s.ldn 9 rfl | apply s.ldn 10 rfl | apply s.ldn 11 rfl); (· assumption); (· first | exact Nat.le_refl _ | decide | (simp; done)); (· rfl))) ?_)
   | (with_reducible first | refine Wp.onT (by assumption) ?_ | refine Wp.onF (by assumption) ?_ | refine Wp.spT (by assumption) ?_ | refine Wp.spF (by assumption) ?_)
   | ((with_reducible refine Wp.gbx ?_); refine Wp.box s rfl fun _p _g _p0 _F s => ?_)
   | ((with_reducible refine Wp.gal ?_); refine Wp.alo s fun _p _g _p0 _F s => ?_)
   | ((with_reducible refine Wp.gst ?_); (first | apply Wp.sto s 0 rfl | apply Wp.sto s 1 rfl | apply Wp.sto s 2 rfl | apply Wp.sto s 3 rfl | apply Wp.sto s 4 rfl | apply Wp.sto s 5 rfl | apply Wp.sto s 6 rfl | apply Wp.sto s 7 rfl | apply Wp.sto s 8 rfl | apply Wp.sto s 9 rfl | apply Wp.sto s 10 rfl | apply Wp.sto s 11 rfl); (· assumption); (· first | rfl | assumption); (· rfl); (· first | exact Nat.le_refl _ | decide | (simp; done)); (· rfl); intro _g _F s; simp only [List.set_cons_succ, List.set_cons_zero, List.take_succ_cons, List.take_zero, List.drop_succ_cons, List.drop_zero, List.drop_nil, List.nil_append, List.cons_append, List.append_nil, Nat.zero_add, Nat.reduceAdd] at s))
  refine Wp.r1 (s.ldn 2 rfl (by assumption) 0 2 (Nat.le_refl 2) rfl) rfl ⟨w1, w2, i1, i2, rfl, ?_, o1, o2⟩
  exact (s.sub (by repeat (first | exact List.Sublist.refl _ | apply List.Sublist.cons_cons | apply List.Sublist.cons))).perm (List.Perm.swap _ _ _)
end Go.Proofs.Ythoabddfionmoaa.AH
namespace Go.Proofs.Ythoabddfionmoaa.AH
open Go Go.RowKit
theorem Sl.take {α : Type} [Enc α] {l : List α} {h : H} {z id off : Nat} (s : Sl l h z id off) (k : Nat) (hk : k ≤ l.length) : Sl (l.take k) h z id off := by
  have := s.sub 0 k (by omega)
  simpa using this
theorem Sl.drop {α : Type} [Enc α] {l : List α} {h : H} {z id off : Nat} (s : Sl l h z id off) (k : Nat) (hk : k ≤ l.length) : Sl (l.drop k) h z id (off + k * Enc.sz α) := by
  have := s.sub k (l.length - k) (by omega)
  rwa [List.take_of_length_le (by simp)] at this
theorem c79 (l : List Pr) (hn : l.length ≤ 1000) (x : Pr) (z id off : Nat) (h : H) (hk : Hok h) (s : Sl l h z id off) :
    Wp (R 79 [.sl z id off l.length, .agg x.en] h) fun r h' => Fr [] h h' ∧ ∃ z2 id2 off2, r = .sl z2 id2 off2 (putPr l x).length ∧ Sl (putPr l x) h' z2 id2 off2 ∧ (id2 = 0 ∨ h.next ≤ id2) := by
  refine R79 rfl ?_
  rw [S79_eq]
  refine Wp.bx hk (Fr.refl [] h) rfl ?_
  intro b g1 n1 hb gn1 gb1 k1 b0 blo F1 F1'
  have s1 := s.fr0 F1
  have kl := kPr_le l x.k
  have zz : 2 = z ∨ id = 0 := s.zor
  have e1 : ld1 g1 (.ptr b (0 + 0)) = some (.str x.k) := by simp [gb1, Pr.en]
  simp only [fA_ptr b0, Option.bind_some, e1, c78 l (by omega) x.k z id off g1 s1, ext_tup, List.getElem?_cons_zero, List.getElem?_cons_succ]
  rw [slL_hi zz kl]
  simp only [Option.bind_some]
  refine Wp.ap k1 F1 (l := ([] : List Pr)) (m := l.take (kPr l x.k)) (.inl ⟨rfl, rfl⟩) (.inl rfl) (.inl rfl) (s1.take _ kl) rfl (by simp; omega) rfl (by simp; omega) (by simp; omega) ?_
  intro z2 id2 off2 g2 k2 s2 own2 fr2 F2 F2'
  have gb2 : g2.blk b = ⟨x.en, n1, true⟩ := by rw [F2'.blk1 b0 (by omega) b0, gb1]
  have e2 : ldn 2 g2 (.ptr b 0) = some (.agg x.en) := by simp [gb2, Pr.en]
  simp only [e2, Option.bind_some]
  refine Wp.bs k2 F2 [x] (by simp [Pr.en, flat_one, Enc.enc]) rfl rfl ?_
  intro b3 g3 hb3 gn3 s3 k3 b03 blo3 F3 F3'
  have hid2 : id2 = 0 ∨ id2 ∈ ([] : List Nat) ∨ h.next ≤ id2 := by
    rcases fr2 with fr2 | fr2
    · exact .inl fr2.2
    · exact .inr (.inr (by have := F1.2.1; omega))
  refine Wp.ap k3 F3 (s2.fr0 F3') (by rw [F3'.1]; exact own2) hid2 s3 rfl rfl rfl (by simp; omega) (by simp; omega) ?_
  intro z4 id4 off4 g4 k4 s4 own4 fr4 F4 F4'
  have s4' := s.fr0 F4
  have hid4 : id4 = 0 ∨ id4 ∈ ([] : List Nat) ∨ h.next ≤ id4 := by
    rcases fr4 with fr4 | fr4
    · exact absurd fr4.1 (by simp)
    · exact .inr (.inr (by have := F3.2.1; omega))
  simp only [onB_bool]
  have hput : putPr l x = [] ++ l.take (kPr l x.k) ++ [x] ++ l.drop (if hasPr l x.k then kPr l x.k + 1 else kPr l x.k) := by simp [putPr]
  split
  · rename_i e
    have hlt := hasPr_lt e
    simp only [bin_add, Option.bind_some]
    rw [inc64 (by omega), slL_lo zz (by omega)]
    simp only [Option.bind_some]
    rw [hput, e]
    refine Wp.ap k4 F4 s4 own4 hid4 (s4'.drop (kPr l x.k + 1) (by omega)) rfl (by simp) rfl (by simp; omega) (by simp; omega) ?_
    intro z5 id5 off5 g5 k5 s5 own5 fr5 F5 F5'
    refine ⟨_, _, rfl, F5, z5, id5, off5, rfl, s5, ?_⟩
    rcases fr5 with fr5 | fr5
    · rw [fr5.2]; simpa using hid4
    · have := F4.2.1; omega
  · rename_i e
    rw [slL_lo zz (by omega)]
    simp only [Option.bind_some]
    rw [hput, if_neg e]
    refine Wp.ap k4 F4 s4 own4 hid4 (s4'.drop (kPr l x.k) (by omega)) rfl (by simp) rfl (by simp; omega) (by simp; omega) ?_
    intro z5 id5 off5 g5 k5 s5 own5 fr5 F5 F5'
    refine ⟨_, _, rfl, F5, z5, id5, off5, rfl, s5, ?_⟩
    rcases fr5 with fr5 | fr5
    · rw [fr5.2]; simpa using hid4
    · have := F4.2.1; omega
theorem rp0 (k : Int) (v : ByteArray) : bldV [(V.int .i64 0), (V.str ⟨#[]⟩)] [(0, 1, .int .i64 k), (1, 1, .str v)] = some (.agg (Rp.en ⟨k, v⟩)) := rfl
theorem rp1 (k : Int) : bldV [(V.int .i64 0), (V.str ⟨#[]⟩)] [(0, 1, .int .i64 k)] = some (.agg (Rp.en ⟨k, emp⟩)) := rfl
theorem rp2 (v : ByteArray) : bldV [(V.int .i64 0), (V.str ⟨#[]⟩)] [(1, 1, .str v)] = some (.agg (Rp.en ⟨0, v⟩)) := rfl
theorem rp3 : bldV [(V.int .i64 0), (V.str ⟨#[]⟩)] [] = some (.agg (Rp.en ⟨0, emp⟩)) := rfl
/-- A reply is put into its box and read from there. -/
theorem wp_rep {h0 h : H} (F : Fr [] h0 h) {p n : Nat} {cs : List V} (hb : h.blk p = ⟨cs, n, true⟩) (hl : cs.length = 2) (hlo : h.lo ≤ p) (hp : h0.next ≤ p) (a : V) (ha : ntup a = some a) (rp : Rp) {Q : V → H → Prop}
    (c : ∀ g, Fr [] h0 g → Fr [p] h g → Q (.tup [a, .agg rp.en]) g) :
    Wp (stN 2 h (.ptr p 0) (.agg rp.en) fun h' => (ress [(some a), (ldn 2 h' (.ptr p 0))]).map fun vs => (tupOf vs, h')) Q := by
  refine Wp.st (vs := rp.en) rfl rfl (by rw [hb]) hlo (by rw [hb]; show 0 + 2 ≤ cs.length; omega) ?_
  intro g ver gn gb F'
  have e : ldn 2 g (.ptr p 0) = some (.agg rp.en) := by
    rw [hb] at gb
    have : List.drop (0 + rp.en.length) cs = [] := List.drop_of_length_le (by show cs.length ≤ 0 + 2; omega)
    rw [this] at gb
    simp [gb, Rp.en]
  simp only [e, ress_cons, ress_nil, Option.bind_some, ha, ntup_agg, Option.map_some, tupOf_two]
  exact ⟨_, _, rfl, c g (F.tr F' (by simp; omega)) F'⟩
theorem valPr_at {l : List Pr} {x : ByteArray} (e : hasPr l x = true) : valPr l x = (l[kPr l x]'(hasPr_lt e)).v := by
  unfold valPr; rw [List.getElem?_eq_getElem (hasPr_lt e)]
theorem c59 (l : List Pr) (hn : l.length ≤ 1000) (x : Cmd) (z id off : Nat) (h : H) (hk : Hok h) (s : Sl l h z id off) :
    Wp (R 59 [.sl z id off l.length, .agg x.en] h) fun r h' => Fr [] h h' ∧ ∃ z2 id2 off2, r = .tup [.sl z2 id2 off2 (doPr l x).1.length, .agg (doPr l x).2.en] ∧ Sl (doPr l x).1 h' z2 id2 off2 ∧ (id2 = id ∨ id2 = 0 ∨ h.next ≤ id2) := by
  refine R59 rfl ?_
  rw [S59_eq]
  refine Wp.bx hk (Fr.refl [] h) rfl ?_
  intro b g1 n1 hb gn1 gb1 k1 b0 blo F1 F1'
  refine Wp.al k1 F1 ?_
  intro p g2 n2 hp gn2 gp2 k2 p0 plo F2 F2'
  have gb2 : g2.blk b = ⟨x.en, n1, true⟩ := by rw [F2'.blk0 b0 (by omega), gb1]
  have s2 := s.fr0 F2
  have kl := kPr_le l x.k
  have zz : 2 = z ∨ id = 0 := s.zor
  have hpn : h.next ≤ p := by omega
  have hidp : id ≠ p := by have := s.lt hk; omega
  have e0 : ld1 g2 (.ptr b (0 + 3)) = some (.str x.k) := by simp [gb2, Cmd.en]
  have e2 : ld1 g2 (.ptr b (0 + 2)) = some (.int .i64 x.o) := by simp [gb2, Cmd.en]
  have e4 : ld1 g2 (.ptr b (0 + 4)) = some (.str x.v) := by simp [gb2, Cmd.en]
  have e5 : ld1 g2 (.ptr b (0 + 5)) = some (.str x.d) := by simp [gb2, Cmd.en]
  have put : ∀ {Q : V → H → Prop}, (∀ r h', (Fr [] h h' ∧ ∃ z2 id2 off2, r = .tup [.sl z2 id2 off2 (putPr l ⟨x.k, x.v⟩).length, .agg (Rp.en ⟨0, emp⟩)] ∧ Sl (putPr l ⟨x.k, x.v⟩) h' z2 id2 off2 ∧ (id2 = id ∨ id2 = 0 ∨ h.next ≤ id2)) → Q r h') →
      Wp ((R 79 [.sl z id off l.length, .agg (Pr.en ⟨x.k, x.v⟩)] g2).bind fun r51 => (bldV [(V.int .i64 0), (V.str ⟨#[]⟩)] []).bind fun v52 =>
        stN 2 r51.2 (.ptr p 0) v52 fun h53 => (ress [(some r51.1), (ldn 2 h53 (.ptr p 0))]).map fun vs => (tupOf vs, h53)) Q := by
    intro Q hQ
    refine Wp.bind (c79 l hn ⟨x.k, x.v⟩ z id off g2 k2 s2) ?_
    rintro r g3 ⟨F3, z3, id3, off3, rfl, s3, fr3⟩
    rw [rp3]
    simp only [Option.bind_some]
    refine wp_rep (F2.trans0 F3) (cs := [(V.int .i64 0), (V.str ⟨#[]⟩)]) (n := n2) (by rw [F3.blk0 p0 (by omega), gp2]) rfl (by rw [F3.1]; exact plo) hpn _ rfl _ ?_
    intro g F F'
    refine hQ _ _ ⟨F, z3, id3, off3, rfl, s3.fr F' (by simp; omega), ?_⟩
    have := F2.2.1; omega
  have bp : bldV [(V.str ⟨#[]⟩), (V.str ⟨#[]⟩)] [(0, 1, .str x.k), (1, 1, .str x.v)] = some (.agg (Pr.en ⟨x.k, x.v⟩)) := rfl
  have j5 : x.o = 2 → ¬ (hasPr l x.k = false ∧ l.length = 40) → Wp (S59_j5 R (.sl z id off l.length) (.ptr b 0) (.ptr p 0) g2) fun r h' => Fr [] h h' ∧ ∃ z2 id2 off2, r = .tup [.sl z2 id2 off2 (doPr l x).1.length, .agg (doPr l x).2.en] ∧ Sl (doPr l x).1 h' z2 id2 off2 ∧ (id2 = id ∨ id2 = 0 ∨ h.next ≤ id2) := by
    intro ho hh
    rw [S59_j5_eq]
    simp only [fA_ptr b0, Option.bind_some, e0, e4, bp]
    refine put ?_
    intro r h' q
    simpa only [doPr, ho, if_true, if_neg hh] using q
  have same : ∀ (rp : Rp), doPr l x = (l, rp) → Wp (stN 2 g2 (.ptr p 0) (.agg rp.en) fun h' => (ress [(some (.sl z id off l.length)), (ldn 2 h' (.ptr p 0))]).map fun vs => (tupOf vs, h')) fun r h' => Fr [] h h' ∧ ∃ z2 id2 off2, r = .tup [.sl z2 id2 off2 (doPr l x).1.length, .agg (doPr l x).2.en] ∧ Sl (doPr l x).1 h' z2 id2 off2 ∧ (id2 = id ∨ id2 = 0 ∨ h.next ≤ id2) := by
    intro rp he
    refine wp_rep F2 gp2 rfl plo hpn _ rfl rp ?_
    intro g F F'
    rw [he]
    exact ⟨F, z, id, off, rfl, s.fr0 F, .inl rfl⟩
  simp only [fA_ptr b0, Option.bind_some, e0, e2, c78 l (by omega) x.k z id off g2 s2, ext_tup, List.getElem?_cons_zero, List.getElem?_cons_succ, bin_eql, onB_bool, decide_eq_true_eq, not_bool, spB_bool, lenL_sl]
  by_cases ho2 : x.o = 2
  · rw [if_pos ho2]
    by_cases hh : hasPr l x.k = true
    · rw [if_neg (by simp [hh])]
      exact j5 ho2 (by simp [hh])
    · rw [if_pos (by simp [hh])]
      by_cases h40 : l.length = 40
      · rw [if_pos (by omega), rp1]
        simp only [Option.bind_some]
        exact same ⟨4, emp⟩ (by simp [doPr, ho2, h40, hh])
      · rw [if_neg (by omega)]
        exact j5 ho2 (by simp [h40])
  rw [if_neg ho2]
  by_cases hh : hasPr l x.k = false
  · rw [if_pos (by simp [hh]), rp1]
    simp only [Option.bind_some]
    exact same ⟨1, emp⟩ (by simp [doPr, ho2, hh])
  have hh : hasPr l x.k = true := by simpa using hh
  rw [if_neg (by simp [hh])]
  have hlt := hasPr_lt hh
  have ip := (s2.pos hlt).1
  have ev : ld1 g2 (.ptr id (off + kPr l x.k * 2 + 1)) = some (.str (valPr l x.k)) := by
    have eb : bload (g2.blk id) (off + kPr l x.k * 2 + 1) 1 = some [V.str l[kPr l x.k].v] := bload_sub (s2.get hlt) 1 1 (by decide)
    rw [valPr_at hh, ld1_ptr, eb]; rfl
  rw [iA_sl hlt]
  simp only [Option.bind_some, fA_ptr ip, ev, e2, e5]
  by_cases ho1 : x.o = 1
  · simp only [ho1, bin_eql, decide_true, Option.bind_some, onB_bool, if_true]
    rw [rp2]
    simp only [Option.bind_some]
    exact same ⟨0, valPr l x.k⟩ (by simp [doPr, ho1, hh])
  simp only [bin_eql, ho1, decide_false, Option.bind_some, onB_bool, Bool.false_eq_true, if_false]
  by_cases ho3 : x.o = 3
  · simp only [ho3, decide_true, if_true]
    rw [slL_hi zz kl]
    simp only [Option.bind_some, bin_add]
    rw [inc64 (by omega), slL_lo zz (by omega), rp2]
    simp only [Option.bind_some]
    refine Wp.bs k2 F2 ([] : List Pr) rfl rfl rfl ?_
    intro b3 g3 hb3 gn3 s3 k3 b03 blo3 F3 F3'
    refine Wp.ap k3 F3 s3 (.inr blo3) (.inr (.inr (by omega))) ((s.fr0 F3).take _ kl) rfl (by simp; omega) rfl (by simp; omega) (by simp; omega) ?_
    intro z4 id4 off4 g4 k4 s4 own4 fr4 F4 F4'
    have hid4 : id4 = 0 ∨ id4 ∈ ([] : List Nat) ∨ h.next ≤ id4 := by
      rcases fr4 with fr4 | fr4 <;> have := F3.2.1 <;> omega
    refine Wp.ap k4 F4 s4 own4 hid4 ((s.fr0 F4).drop (kPr l x.k + 1) (by omega)) rfl (by simp) rfl (by simp; omega) (by simp; omega) ?_
    intro z5 id5 off5 g5 k5 s5 own5 fr5 F5 F5'
    have hd : doPr l x = (l.take (kPr l x.k) ++ l.drop (kPr l x.k + 1), ⟨0, valPr l x.k⟩) := by simp [doPr, ho3, hh]
    have gp5 : g5.blk p = ⟨[(V.int .i64 0), (V.str ⟨#[]⟩)], n2, true⟩ := by
      have hp4 : p ≠ id4 := by rcases fr4 with fr4 | fr4 <;> omega
      have := F4'.2.1
      rw [F5'.blk1 p0 (by omega) hp4, F4'.blk1 p0 (by omega) (by omega), F3'.blk0 p0 (by omega), gp2]
    refine wp_rep F5 gp5 rfl (by rw [F5'.1, F4'.1, F3'.1]; exact plo) hpn _ rfl _ ?_
    intro g F F'
    have hp5 : id5 ≠ p := by
      have := F4'.2.1
      have := F3'.2.1
      rcases fr5 with fr5 | fr5 <;> rcases fr4 with fr4 | fr4 <;> omega
    rw [hd]
    refine ⟨F, z5, id5, off5, by simp, by simpa using s5.fr F' (by simpa using hp5), ?_⟩
    have := F4.2.1
    rcases fr5 with fr5 | fr5 <;> omega
  simp only [ho3, decide_false, Bool.false_eq_true, if_false, str_neq, Option.bind_some]
  by_cases hv : valPr l x.k = x.d
  · simp only [hv, decide_true, Bool.not_true, Bool.false_eq_true, if_false, e0, e4, bp, Option.bind_some]
    refine put ?_
    intro r h' q
    have hd : doPr l x = (putPr l ⟨x.k, x.v⟩, ⟨0, emp⟩) := by simp [doPr, ho1, ho2, ho3, hh, hv]
    rw [hd]
    exact q
  · simp only [hv, decide_false, Bool.not_false, if_true]
    rw [rp0]
    simp only [Option.bind_some]
    exact same ⟨3, valPr l x.k⟩ (by simp [doPr, ho1, ho2, ho3, hh, hv])
end Go.Proofs.Ythoabddfionmoaa.AH
namespace Go.Proofs.Ythoabddfionmoaa.AH
open Go Go.RowKit
/-- A state's value: its two slices; of their blocks' numbers P holds. -/
def KvV (P : Nat → Prop) (s : Kv) (h : H) (cs : List V) : Prop := ∃ z1 i1 o1 z2 i2 o2, cs = [.sl z1 i1 o1 s.cells.length, .sl z2 i2 o2 s.sess.length] ∧ Sl s.cells h z1 i1 o1 ∧ Sl s.sess h z2 i2 o2 ∧ P i1 ∧ P i2
theorem KvV.fr0 {P : Nat → Prop} {s : Kv} {h h' : H} {cs : List V} (k : KvV P s h cs) (F : Fr [] h h') : KvV P s h' cs := by
  obtain ⟨z1, i1, o1, z2, i2, o2, e, s1, s2, p⟩ := k
  exact ⟨z1, i1, o1, z2, i2, o2, e, s1.fr0 F, s2.fr0 F, p⟩
def Kv.ok (s : Kv) : Prop := s.cells.length ≤ 40 ∧ s.sess.length ≤ 12
theorem putPr_len (l : List Pr) (x : Pr) : (putPr l x).length = if hasPr l x.k then l.length else l.length + 1 := by
  have := kPr_le l x.k
  unfold putPr
  cases e : hasPr l x.k
  · simp; omega
  · have := hasPr_lt e
    simp; omega
theorem doPr_len (l : List Pr) (c : Cmd) (hl : l.length ≤ 40) : (doPr l c).1.length ≤ 40 := by
  unfold doPr
  have := kPr_le l c.k
  split
  · split
    · exact hl
    · rename_i q
      rw [putPr_len]
      cases e : hasPr l c.k
      · simp only [e, true_and] at q
        simp; omega
      · simpa using hl
  · split
    · exact hl
    · rename_i q
      split
      · exact hl
      · split
        · simp; omega
        · split
          · exact hl
          · rw [putPr_len]
            have : hasPr l c.k = true := by simpa using q
            simpa [this] using hl
theorem applySt_ok {s : Kv} (k : s.ok) (c : Cmd) : (applySt s c).1.ok := by
  unfold applySt
  have := kSe_le s.sess c.s
  split
  · exact k
  · rename_i q
    split
    · exact k
    · split
      · exact k
      · refine ⟨doPr_len _ _ k.1, ?_⟩
        have k2 := k.2
        cases e : hasSe s.sess c.s
        · simp only [e, true_and, not_or] at q
          simp; omega
        · have := hasSe_lt e
          simp; omega
theorem pdV_fr {S : List Nat} {h g : H} (F : Fr S h g) {r o : Nat} {k : Option (V × H)} (r0 : r ≠ 0) (rn : r < h.next) (hr : r ∉ S) : pdV g (.ptr r o) h k = k := by
  rw [pdV_ptr, F.blk r0 rn hr, if_pos rfl]
/-- A result is put into its box. -/
theorem wp_put {h0 h : H} (F : Fr [] h0 h) {p n : Nat} {cs st : List V} (hb : h.blk p = ⟨cs, n, true⟩) (hl : cs.length = 2) (hst : st.length = 2) (hlo : h.lo ≤ p) (hp : h0.next ≤ p) {f : H → Option (V × H)} {Q : V → H → Prop}
    (c : ∀ g ver, g.next = h.next → g.blk p = ⟨st, ver, true⟩ → Fr [] h0 g → Fr [p] h g → Wp (f g) Q) : Wp (stN 2 h (.ptr p 0) (.agg st) f) Q := by
  refine Wp.st (vs := st) rfl hst (by rw [hb]) hlo (by rw [hb]; show 0 + 2 ≤ cs.length; omega) ?_
  intro g ver gn gb F'
  refine c g ver gn ?_ (F.tr F' (by simp; omega)) F'
  rw [gb, hb]
  have : List.drop (0 + st.length) cs = [] := List.drop_of_length_le (by omega)
  simp; omega
/-- The second result is put into its box, and both are read. -/
theorem wp_snd {h0 h : H} (F : Fr [] h0 h) {p q n m : Nat} {ds st : List V} (hb : h.blk p = ⟨st, n, true⟩) (hd : h.blk q = ⟨ds, m, true⟩) (hm : ds.length = 2) (hst : st.length = 2) (hpq : p ≠ q) (p0 : p ≠ 0) (pn : p < h.next) (hlq : h.lo ≤ q) (hq : h0.next ≤ q) (rp : List V) (hrp : rp.length = 2) {Q : V → H → Prop}
    (c : ∀ g, Fr [] h0 g → Fr [q] h g → Q (.tup [.agg st, .agg rp]) g) :
    Wp (stN 2 h (.ptr q 0) (.agg rp) fun h' => (ress [(ldn 2 h' (.ptr p 0)), (ldn 2 h' (.ptr q 0))]).map fun vs => (tupOf vs, h')) Q := by
  refine wp_put F hd hm hrp hlq hq ?_
  intro g2 ver2 gn2 gb2 F2' F2
  have gb' : g2.blk p = ⟨st, n, true⟩ := by rw [F2.blk1 p0 (by omega) hpq, hb]
  have e1 : ldn 2 g2 (.ptr p 0) = some (.agg st) := by simp [gb', hst, List.take_of_length_le (Nat.le_of_eq hst)]
  have e2 : ldn 2 g2 (.ptr q 0) = some (.agg rp) := by simp [gb2, hrp, List.take_of_length_le (Nat.le_of_eq hrp)]
  simp only [e1, e2, ress_cons, ress_nil, Option.bind_some, ntup_agg, Option.map_some, tupOf_two]
  exact ⟨_, _, rfl, c g2 F2' F2⟩
theorem seAt_at {l : List Se} {x : Int} (e : hasSe l x = true) : seAt l x = l[kSe l x]'(hasSe_lt e) := by
  unfold seAt; rw [List.getElem?_eq_getElem (hasSe_lt e)]
/-- A box: its block, its place. -/
structure Bx (h : H) (b : Nat) (cs : List V) : Prop where
  blk : ∃ n, h.blk b = ⟨cs, n, true⟩
  ne : b ≠ 0
  lt : b < h.next
  lo : h.lo ≤ b
theorem Bx.fr {S : List Nat} {h g : H} {b : Nat} {cs : List V} (x : Bx h b cs) (F : Fr S h g) (k : b ∉ S) : Bx g b cs :=
  ⟨by rw [F.blk x.ne x.lt k]; exact x.blk, x.ne, Nat.lt_of_lt_of_le x.lt F.2.1, by rw [F.1]; exact x.lo⟩
theorem Bx.fr0 {h g : H} {b : Nat} {cs : List V} (x : Bx h b cs) (F : Fr [] h g) : Bx g b cs := x.fr F (by simp)
theorem Bx.fr1 {h g : H} {b i : Nat} {cs : List V} (x : Bx h b cs) (F : Fr [i] h g) (k : b ≠ i) : Bx g b cs := x.fr F (by simpa using k)
theorem Bx.ldn {h : H} {b n : Nat} {cs : List V} (x : Bx h b cs) (hn : cs.length = n) : ldn n h (.ptr b 0) = some (.agg cs) := by
  obtain ⟨m, e⟩ := x.blk
  rw [ldn_ptr, e, bload_mk _ _ _ _ (by omega), List.drop_zero, List.take_of_length_le (by omega)]; rfl
theorem Bx.ld1 {h : H} {b o : Nat} {cs : List V} (x : Bx h b cs) (ho : o < cs.length) : ld1 h (.ptr b (0 + o)) = some cs[o] := by
  obtain ⟨m, e⟩ := x.blk
  rw [ld1_ptr, e, bload_mk _ _ _ _ (by omega), Nat.zero_add, List.drop_eq_getElem_cons ho]; rfl
theorem Bx.st {h : H} {b o n : Nat} {cs vs ds : List V} {v : V} (x : Bx h b cs) (hv : cellsV v = some vs) (hn : vs.length = n) (ho : o + n ≤ cs.length) (hd : ds = cs.take o ++ vs ++ cs.drop (o + n)) {f : H → Option (V × H)} {Q : V → H → Prop}
    (c : ∀ g, g.next = h.next → Bx g b ds → Fr [b] h g → Wp (f g) Q) : Wp (stN n h (.ptr b o) v f) Q := by
  subst hd
  obtain ⟨m, e⟩ := x.blk
  refine Wp.st (vs := vs) hv hn (by rw [e]) x.lo (by rw [e]; exact ho) ?_
  intro g ver gn gb F'
  refine c g gn ⟨⟨ver, by rw [gb, e, hn]⟩, x.ne, by rw [gn]; exact x.lt, by rw [F'.1]; exact x.lo⟩ F'
theorem Wp.bxB {S : List Nat} {h0 h : H} (hk : Hok h) (F : Fr S h0 h) {v : V} {cs : List V} (hv : cellsV v = some cs) {f : V → H → Option (V × H)} {Q : V → H → Prop}
    (c : ∀ b g, b = h.next → g.next = b + 1 → Bx g b cs → Hok g → Fr S h0 g → Fr [] h g → Wp (f (.ptr b 0) g) Q) : Wp (bxK h v f) Q :=
  Wp.bx hk F hv fun b g n e1 e2 e3 e4 e5 e6 e7 e8 => c b g e1 e2 ⟨⟨n, e3⟩, e5, by omega, e6⟩ e4 e7 e8
theorem Wp.alB {S : List Nat} {h0 h : H} (hk : Hok h) (F : Fr S h0 h) {z : List V} {f : V → H → Option (V × H)} {Q : V → H → Prop}
    (c : ∀ b g, b = h.next → g.next = b + 1 → Bx g b z → Hok g → Fr S h0 g → Fr [] h g → Wp (f (.ptr b 0) g) Q) : Wp (alK z h f) Q :=
  Wp.al hk F fun b g n e1 e2 e3 e4 e5 e6 e7 e8 => c b g e1 e2 ⟨⟨n, e3⟩, e5, by omega, e6⟩ e4 e7 e8
def newSe (s : Kv) (x : Cmd) : Se := ⟨x.s, x.n, (doPr s.cells x).2⟩
def putSe (s : Kv) (x : Cmd) : List Se := s.sess.take (kSe s.sess x.s) ++ [newSe s x] ++ s.sess.drop (if hasSe s.sess x.s then kSe s.sess x.s + 1 else kSe s.sess x.s)
abbrev Post31 (P : Nat → Prop) (h0 : H) (s' : Kv) (rp : Rp) : V → H → Prop := fun r h' => Fr [] h0 h' ∧ ∃ cs', r = .tup [.agg cs', .agg rp.en] ∧ KvV P s' h' cs'
theorem Sl.fr1 {α : Type} [Enc α] {i : Nat} {l : List α} {h h' : H} {z id off : Nat} (s : Sl l h z id off) (F : Fr [i] h h') (k : id ≠ i) : Sl l h' z id off := s.fr F (by simpa using k)
theorem Fr.tr1 {i : Nat} {a b c : H} (x : Fr [] a b) (y : Fr [i] b c) (k : a.next ≤ i) : Fr [] a c := x.tr y (fun j hj => by rw [List.mem_singleton] at hj; subst hj; exact .inr (.inr k))
theorem nel {a b : Nat} (h : a < b) : a ≠ b := Nat.ne_of_lt h
theorem ner {a b : Nat} (h : a < b) : b ≠ a := Nat.ne_of_gt h
theorem nil1 {a i : Nat} (h : a ≠ i) : a ∉ [i] := by simpa using h
theorem j15_31 {P : Nat → Prop} {h0 g : H} (hP : ∀ i, h0.next ≤ i → P i) (k : Hok g) (F0 : Fr [] h0 g) {b p q e k' : Nat} {cells : List Pr} {sess new : List Se} {z6 i6 o6 z2 i2 o2 zn nn on : Nat} {rp : Rp}
    (Bb : Bx g b [.sl z6 i6 o6 cells.length, .sl z2 i2 o2 sess.length]) (Bp : Bx g p [.sl 0 0 0 0, .sl 0 0 0 0]) (Bq : Bx g q [(V.int .i64 0), (V.str ⟨#[]⟩)]) (Be : Bx g e rp.en)
    (hb : h0.next ≤ b) (d1 : b < p) (d2 : p < q) (d3 : q < e) (d4 : e < nn)
    (s6 : Sl cells g z6 i6 o6) (s2 : Sl sess g z2 i2 o2) (sn : Sl new g zn nn on) (own : nn = 0 ∨ g.lo ≤ nn) (m1 : i6 ≠ b) (m2 : i6 ≠ p) (m3 : i6 ≠ q) (m4 : i6 ≠ nn)
    (hk' : k' ≤ sess.length) (hl : sess.length ≤ 100) (hn : new.length ≤ 100) (P6 : P i6) :
    Wp (S31_j15 R (.ptr b 0) (.ptr p 0) (.ptr q 0) (.int .i64 k') (.ptr e 0) (.sl zn nn on new.length) g) (Post31 P h0 ⟨cells, new ++ sess.drop k'⟩ rp) := by
  rw [S31_j15_eq]
  have c1 := Bb.ld1 (o := 1) (by simp)
  have zz : 4 = z2 ∨ i2 = 0 := s2.zor
  simp only [fA_ptr Bb.ne, Option.bind_some, c1, List.getElem_cons_succ, List.getElem_cons_zero]
  rw [slL_lo zz hk']
  simp only [Option.bind_some]
  have hnn : h0.next ≤ nn := by clear zz own m1 m2 m3 m4; omega
  have hbn : nn < g.next := sn.lt k
  refine Wp.ap k F0 sn own (.inr (.inr hnn)) (s2.drop k' hk') rfl (by simp) rfl (by simp; clear zz own m1 m2 m3 m4; omega) (by simp; clear zz own m1 m2 m3 m4; omega) ?_
  intro z5 i5 o5 g5 k5 s5 own5 fr5 F5 F5'
  have hi5 : e < i5 := by
    clear zz own m1 m2 m3 m4 own5
    rcases fr5 with fr5 | fr5 <;> omega
  clear fr5 own5 own zz
  have hb2 : h0.next ≤ p := by clear m1 m2 m3 m4; omega
  have hb3 : h0.next ≤ q := by clear m1 m2 m3 m4; omega
  have bn : b < nn := by clear m1 m2 m3 m4; omega
  have pn : p < nn := by clear m1 m2 m3 m4; omega
  have qn : q < nn := by clear m1 m2 m3 m4; omega
  have bq : b < q := Nat.lt_trans d1 d2
  have be : b < e := Nat.lt_trans bq d3
  have pe : p < e := Nat.lt_trans d2 d3
  have Bb5 := Bb.fr1 F5' (nel bn)
  refine Bb5.st (n := 1) (vs := [.sl z5 i5 o5 (new ++ sess.drop k').length]) (ds := [.sl z6 i6 o6 cells.length, .sl z5 i5 o5 (new ++ sess.drop k').length]) rfl rfl (by simp) rfl ?_
  intro g6 n6' B6 F6'
  have F6 := F5.tr1 F6' hb
  have hl6 := B6.ldn (n := 2) rfl
  have Be6 := (Be.fr1 F5' (nel d4)).fr1 F6' (ner be)
  have hl7 := Be6.ldn (n := 2) rfl
  have Bp6 := (Bp.fr1 F5' (nel pn)).fr1 F6' (ner d1)
  have Bq6 := (Bq.fr1 F5' (nel qn)).fr1 F6' (ner bq)
  simp only [hl6, hl7, Option.bind_some]
  refine Bp6.st (n := 2) (vs := [.sl z6 i6 o6 cells.length, .sl z5 i5 o5 (new ++ sess.drop k').length]) (ds := [.sl z6 i6 o6 cells.length, .sl z5 i5 o5 (new ++ sess.drop k').length]) rfl rfl (by simp) rfl ?_
  intro g7 n7' B7 F7'
  have F7 := F6.tr1 F7' hb2
  rw [pdV_fr F7' Be6.ne Be6.lt (nil1 (ner pe))]
  have Bq7 := Bq6.fr1 F7' (ner d2)
  refine Bq7.st (n := 2) (vs := rp.en) (ds := rp.en) rfl rfl (by simp) rfl ?_
  intro g8 n8' B8 F8'
  have F8 := F7.tr1 F8' hb3
  have hp8 := (B7.fr1 F8' (nel d2)).ldn (n := 2) rfl
  have hq8 := B8.ldn (n := 2) rfl
  simp only [hp8, hq8, ress_cons, ress_nil, Option.bind_some, ntup_agg, Option.map_some, tupOf_two]
  refine ⟨_, _, rfl, F8, _, rfl, z6, i6, o6, z5, i5, o5, rfl, ?_, ?_, P6, hP i5 (Nat.le_trans hb3 (Nat.le_of_lt (Nat.lt_trans d3 hi5)))⟩
  · exact (((s6.fr1 F5' m4).fr1 F6' m1).fr1 F7' m2).fr1 F8' m3
  · exact ((s5.fr1 F6' (ner (Nat.lt_trans be hi5))).fr1 F7' (ner (Nat.lt_trans pe hi5))).fr1 F8' (ner (Nat.lt_trans d3 hi5))
theorem j8_31 {P : Nat → Prop} {h0 g : H} (hP : ∀ i, h0.next ≤ i → P i) (hP0 : P 0) (hk0 : Hok h0) (k : Hok g) (F0 : Fr [] h0 g) {b d p q : Nat} (s : Kv) (hs : s.ok) (x : Cmd) {z1 i1 o1 z2 i2 o2 : Nat}
    (Bb : Bx g b [.sl z1 i1 o1 s.cells.length, .sl z2 i2 o2 s.sess.length]) (Bd : Bx g d x.en) (Bp : Bx g p [.sl 0 0 0 0, .sl 0 0 0 0]) (Bq : Bx g q [(V.int .i64 0), (V.str ⟨#[]⟩)])
    (hb : h0.next ≤ b) (d1 : b < d) (d2 : d < p) (d3 : p < q) (s1 : Sl s.cells h0 z1 i1 o1) (s2 : Sl s.sess h0 z2 i2 o2) (P1 : P i1) :
    Wp (S31_j8 R (.ptr b 0) (.ptr d 0) (.ptr p 0) (.ptr q 0) (.int .i64 (kSe s.sess x.s)) (.bool (hasSe s.sess x.s)) g) (Post31 P h0 ⟨(doPr s.cells x).1, putSe s x⟩ (doPr s.cells x).2) := by
  have lt1 := s1.lt hk0
  have lt2 := s2.lt hk0
  have kl := kSe_le s.sess x.s
  have hs2 := hs.2
  have hs1 := hs.1
  have zz : 4 = z2 ∨ i2 = 0 := s2.zor
  rw [S31_j8_eq]
  have b0' := Bb.ld1 (o := 0) (by simp)
  have b6 := Bd.ldn (n := 6) rfl
  simp only [fA_ptr Bb.ne, fA_ptr Bd.ne, Option.bind_some, b0', b6, List.getElem_cons_zero]
  refine Wp.bind (c59 s.cells (by clear zz; omega) x z1 i1 o1 g k (s1.fr0 F0)) ?_
  rintro r g6 ⟨F6', z6, i6, o6, rfl, s6, fr6⟩
  have F6 := F0.trans0 F6'
  have k6 := F6'.ok k
  have n6 := F6'.2.1
  have qn := Bq.lt
  have l6 := s6.lt k6
  have P6 : P i6 := by
    rcases fr6 with fr6 | fr6 | fr6
    · rw [fr6]; exact P1
    · rw [fr6]; exact hP0
    · exact hP i6 (Nat.le_trans F0.2.1 fr6)
  have m6 : i6 < b ∨ q < i6 := by clear zz; rcases fr6 with fr6 | fr6 | fr6 <;> omega
  clear fr6
  simp only [ext_tup, Option.bind_some, List.getElem?_cons_zero, List.getElem?_cons_succ]
  refine Wp.alB k6 F6 ?_
  intro e g7 he7 gn7 Be7 k7 F7 F7'
  have he : q < e := by clear zz m6; omega
  have he0 : h0.next ≤ e := by clear zz m6; omega
  have m6e : i6 < e := by clear zz m6; omega
  refine Be7.st (n := 2) (vs := (doPr s.cells x).2.en) (ds := (doPr s.cells x).2.en) rfl rfl (by simp) rfl ?_
  intro g8 gn8 Be8 F8'
  have F8 := F7.tr1 F8' he0
  have dq : d < q := Nat.lt_trans d2 d3
  have bq : b < q := Nat.lt_trans d1 dq
  have be : b < e := Nat.lt_trans bq he
  have Bb8 := ((Bb.fr0 F6').fr0 F7').fr1 F8' (nel be)
  refine Bb8.st (n := 1) (vs := [.sl z6 i6 o6 (doPr s.cells x).1.length]) (ds := [V.sl z6 i6 o6 (doPr s.cells x).fst.length, V.sl z2 i2 o2 s.sess.length]) rfl rfl (by simp) rfl ?_
  intro g9 gn9 Bb9 F9'
  have F9 := F8.tr1 F9' hb
  have k9 := F9.ok hk0
  have c1 := Bb9.ld1 (o := 1) (by simp)
  simp only [c1, Option.bind_some, List.getElem_cons_succ, List.getElem_cons_zero]
  rw [slL_hi zz kl]
  simp only [Option.bind_some]
  clear zz
  have hb1 : b < g9.next := Bb9.lt
  have he1 : e < g9.next := by clear m6; omega
  refine Wp.ap k9 F9 (l := ([] : List Se)) (m := s.sess.take (kSe s.sess x.s)) (.inl ⟨rfl, rfl⟩) (.inl rfl) (.inl rfl) ((s2.fr0 F9).take _ kl) rfl (by simp; clear m6; omega) rfl (by simp; clear m6; omega) (by simp; clear m6; omega) ?_
  intro za ia oa ga ka sa owna fra Fa Fa'
  have hia : ia = 0 ∨ e < ia := by clear m6; rcases fra with fra | fra <;> omega
  have lia := sa.lt ka
  clear fra
  have Bda := (((((Bd.fr0 F6').fr0 F7').fr1 F8' (nel (Nat.lt_trans dq he))).fr1 F9' (ner d1)).fr1 Fa' Bd.ne)
  have Bea := (Be8.fr1 F9' (ner be)).fr1 Fa' Be8.ne
  have Bba := Bb9.fr1 Fa' Bb9.ne
  have Bpa := (((((Bp.fr0 F6').fr0 F7').fr1 F8' (nel (Nat.lt_trans d3 he))).fr1 F9' (ner (Nat.lt_trans d1 d2))).fr1 Fa' Bp.ne)
  have Bqa := (((((Bq.fr0 F6').fr0 F7').fr1 F8' (nel he)).fr1 F9' (ner bq)).fr1 Fa' Bq.ne)
  have x1 : ld1 ga (.ptr d (0 + 0)) = some (.int .i64 x.s) := Bda.ld1 (o := 0) (by simp [Cmd.en])
  have x2 : ld1 ga (.ptr d (0 + 1)) = some (.int .i64 x.n) := Bda.ld1 (o := 1) (by simp [Cmd.en])
  have x3 := Bea.ldn (n := 2) rfl
  simp only [x1, x2, x3, Option.bind_some]
  rw [show bldV [(V.int .i64 0), (V.int .i64 0), (V.int .i64 0), (V.str ⟨#[]⟩)] [(0, 1, .int .i64 x.s), (1, 1, .int .i64 x.n), (2, 2, .agg (doPr s.cells x).2.en)] = some (.agg (Se.en (newSe s x))) from rfl]
  simp only [Option.bind_some]
  refine Wp.bs ka Fa [newSe s x] rfl rfl rfl ?_
  intro ib gb hib gnb sb kb ib0 ilob Fb Fb'
  have na := Fa'.2.1
  have hida : ia = 0 ∨ ia ∈ ([] : List Nat) ∨ h0.next ≤ ia := by
    rcases hia with fra | fra
    · exact .inl fra
    · exact .inr (.inr (Nat.le_of_lt (Nat.lt_of_le_of_lt he0 fra)))
  refine Wp.ap kb Fb (sa.fr0 Fb') (by rw [Fb'.1]; exact owna) hida sb rfl rfl rfl (by simp; clear m6 hia hida owna; omega) (by simp; clear m6 hia hida owna; omega) ?_
  intro zc ic oc gc kc sc ownc frc Fc Fc'
  have hic : e < ic := by
    rcases frc with frc | frc
    · exact absurd frc.1 (by simp)
    · clear m6 hia hida owna ownc; omega
  have hic2 : g6.next ≤ ic := by
    rcases frc with frc | frc
    · exact absurd frc.1 (by simp)
    · clear m6 hia hida owna ownc; omega
  clear frc
  have nia : ∀ {y : Nat}, y ≠ 0 → y ≤ e → y ≠ ia := fun y0 ye => by
    rcases hia with r | r
    · rw [r]; exact y0
    · exact nel (Nat.lt_of_le_of_lt ye r)
  have Bbc := (Bba.fr0 Fb').fr1 Fc' (nia Bb.ne (Nat.le_of_lt be))
  have Bpc := (Bpa.fr0 Fb').fr1 Fc' (nia Bp.ne (Nat.le_of_lt (Nat.lt_trans d3 he)))
  have Bqc := (Bqa.fr0 Fb').fr1 Fc' (nia Bq.ne (Nat.le_of_lt he))
  have Bec := (Bea.fr0 Fb').fr1 Fc' (nia Be8.ne (Nat.le_refl _))
  have n6b : i6 ≠ b ∧ i6 ≠ p ∧ i6 ≠ q := by
    rcases m6 with r | r
    · exact ⟨nel r, nel (by omega), nel (by omega)⟩
    · exact ⟨ner (by omega), ner (by omega), ner r⟩
  have s6c : Sl (doPr s.cells x).1 gc z6 i6 o6 := by
    have t := ((((s6.fr0 F7').fr1 F8' (nel m6e)).fr1 F9' n6b.1))
    by_cases h6 : i6 = 0
    · rcases s6 with s6 | s6
      · exact .inl s6
      · exact absurd h6 s6.1
    · exact ((t.fr1 Fa' h6).fr0 Fb').fr1 Fc' (nia h6 (Nat.le_of_lt m6e))
  have fin : ∀ k', k' ≤ s.sess.length → putSe s x = ([] ++ s.sess.take (kSe s.sess x.s) ++ [newSe s x]) ++ s.sess.drop k' →
      Wp (S31_j15 R (.ptr b 0) (.ptr p 0) (.ptr q 0) (.int .i64 k') (.ptr e 0) (.sl zc ic oc ([] ++ s.sess.take (kSe s.sess x.s) ++ [newSe s x]).length) gc) (Post31 P h0 ⟨(doPr s.cells x).1, putSe s x⟩ (doPr s.cells x).2) := by
    intro k' hk' he
    rw [he]
    refine j15_31 hP kc Fc Bbc Bpc Bqc Bec hb (Nat.lt_trans d1 d2) d3 ‹q < e› hic s6c (s2.fr0 Fc) sc ownc n6b.1 n6b.2.1 n6b.2.2 (nel (Nat.lt_of_lt_of_le l6 hic2)) hk' (by clear m6 hia hida owna ownc; omega) (by simp; clear m6 hia hida owna ownc; omega) P6
  simp only [onB_bool]
  split
  · rename_i hh
    have hlt := hasSe_lt hh
    simp only [bin_add, Option.bind_some]
    rw [inc64 (by clear m6 hia hida owna ownc; omega)]
    exact fin _ hlt (by simp [putSe, hh])
  · rename_i hh
    exact fin _ kl (by simp [putSe, hh])
end Go.Proofs.Ythoabddfionmoaa.AH
namespace Go.Proofs.Ythoabddfionmoaa.AH
open Go Go.RowKit
theorem c31 {P : Nat → Prop} (s : Kv) (hs : s.ok) (x : Cmd) (cs : List V) (h : H) (hk : Hok h) (hP : ∀ i, h.next ≤ i → P i) (hP0 : P 0) (kv : KvV P s h cs) :
    Wp (R 31 [.agg cs, .agg x.en] h) (Post31 P h (applySt s x).1 (applySt s x).2) := by
  obtain ⟨z1, i1, o1, z2, i2, o2, rfl, s1, s2, P1, P2⟩ := kv
  refine R31 rfl ?_
  rw [S31_eq]
  refine Wp.bxB hk (Fr.refl [] h) rfl ?_
  intro b g1 hb gn1 Bb1 k1 F1 F1'
  refine Wp.bxB k1 F1 rfl ?_
  intro d g2 hd gn2 Bd2 k2 F2 F2'
  refine Wp.alB k2 F2 ?_
  intro p g3 hp gn3 Bp3 k3 F3 F3'
  refine Wp.alB k3 F3 ?_
  intro q g4 hq gn4 Bq4 k4 F4 F4'
  have Bb4 := ((Bb1.fr0 F2').fr0 F3').fr0 F4'
  have Bd4 := (Bd2.fr0 F3').fr0 F4'
  have Bp4 := Bp3.fr0 F4'
  have e42 := c42 x g4 k4
  have F5' : Fr [] g4 (g4.new x.en) := (Fr.refl _ _).new _
  have k5 := k4.new x.en
  have a1 : ld1 g4 (.ptr b (0 + 1)) = some (.sl z2 i2 o2 s.sess.length) := Bb4.ld1 (o := 1) (by simp)
  have a2 : ld1 g4 (.ptr d (0 + 0)) = some (.int .i64 x.s) := Bd4.ld1 (o := 0) (by simp [Cmd.en])
  have a3 := Bd4.ldn (n := 6) rfl
  have hs2 := hs.2
  have lt2 := s2.lt hk
  refine Wp.b (fA_ptr Bb4.ne) (Wp.b a1 (Wp.b (fA_ptr Bd4.ne) (Wp.b a2 ?_)))
  refine Wp.b (c58 s.sess (by omega) x.s z2 i2 o2 g4 (s2.fr0 F4)) (Wp.b rfl (Wp.b rfl (Wp.b a3 (Wp.b e42 (Wp.b rfl ?_)))))
  generalize g4.new x.en = g at *
  have F5 : Fr [] h g := F4.trans0 F5'
  have Bb := Bb4.fr0 F5'
  have Bd := Bd4.fr0 F5'
  have Bp := Bp4.fr0 F5'
  have Bq := Bq4.fr0 F5'
  have hbn : h.next ≤ b := by omega
  have d1 : b < d := by omega
  have d2 : d < p := by omega
  have d3 : p < q := by omega
  have hpn : h.next ≤ p := by omega
  have hqn : h.next ≤ q := by omega
  have b1 : ld1 g (.ptr b (0 + 1)) = some (.sl z2 i2 o2 s.sess.length) := Bb.ld1 (o := 1) (by simp)
  have b2 := Bb.ldn (n := 2) rfl
  have b3 : ld1 g (.ptr d (0 + 1)) = some (.int .i64 x.n) := Bd.ld1 (o := 1) (by simp [Cmd.en])
  have t2 := s2.fr0 F5
  have two : ∀ (rp : Rp) (w : Option (V × H) → H → Option (V × H)), applySt s x = (s, rp) → (∀ k g', Fr [p] g g' → w k g' = k) → Wp (stN 2 g (.ptr p 0) (.agg [.sl z1 i1 o1 s.cells.length, .sl z2 i2 o2 s.sess.length]) fun h' => w (stN 2 h' (.ptr q 0) (.agg rp.en) fun h' => (ress [(ldn 2 h' (.ptr p 0)), (ldn 2 h' (.ptr q 0))]).map fun vs => (tupOf vs, h')) h')
      (Post31 P h (applySt s x).1 (applySt s x).2) := by
    intro rp w he hw
    refine Bp.st (n := 2) (vs := [.sl z1 i1 o1 s.cells.length, .sl z2 i2 o2 s.sess.length]) (ds := [.sl z1 i1 o1 s.cells.length, .sl z2 i2 o2 s.sess.length]) rfl rfl (by simp) rfl ?_
    intro g6 gn6 Bp6 F6'
    have F6 := F5.tr1 F6' hpn
    rw [hw _ _ F6']
    refine (Bq.fr1 F6' (ner d3)).st (n := 2) (vs := rp.en) (ds := rp.en) rfl rfl (by simp) rfl ?_
    intro g7 gn7 Bq7 F7'
    have F7 := F6.tr1 F7' hqn
    have e1 := (Bp6.fr1 F7' (nel d3)).ldn (n := 2) rfl
    have e2 := Bq7.ldn (n := 2) rfl
    simp only [e1, e2, ress_cons, ress_nil, Option.bind_some, ntup_agg, Option.map_some, tupOf_two]
    rw [he]
    exact ⟨_, _, rfl, F7, _, rfl, z1, i1, o1, z2, i2, o2, rfl, s1.fr0 F7, s2.fr0 F7, P1, P2⟩
  have j8 : applySt s x = (⟨(doPr s.cells x).1, putSe s x⟩, (doPr s.cells x).2) → Wp (S31_j8 R (.ptr b 0) (.ptr d 0) (.ptr p 0) (.ptr q 0) (.int .i64 (kSe s.sess x.s)) (.bool (hasSe s.sess x.s)) g) (Post31 P h (applySt s x).1 (applySt s x).2) := by
    intro he
    rw [he]
    exact j8_31 hP hP0 hk k5 F5 s hs x Bb Bd Bp Bq hbn d1 d2 d3 s1 s2 P1
  have l1 := fA_ptr (o := 1) (off := 0) Bb.ne
  have l2 := fA_ptr (o := 1) (off := 0) Bd.ne
  refine Wp.sp (fun ok => ?_) (fun ok => ?_)
  · have ok : okC x = false := by simpa using ok
    exact Wp.b b2 (Wp.b (rp1 4) (two ⟨4, emp⟩ (fun k _ => k) (by simp [applySt, ok]) (fun _ _ _ => rfl)))
  have ok : okC x = true := by simpa using ok
  refine Wp.b rfl (Wp.sp (fun hh => ?_) (fun hh => ?_))
  · have hh : hasSe s.sess x.s = false := by simpa using hh
    refine Wp.b l1 (Wp.b b1 (Wp.b (lenL_sl _ _ _ _) (Wp.b (bin_eql _ _ _ _ _) (Wp.on (fun h12 => ?_) (fun h12 => ?_)))))
    · have h12 : s.sess.length = 12 := by simp at h12; omega
      exact Wp.b b2 (Wp.b (rp1 4) (two ⟨4, emp⟩ (fun k _ => k) (by simp [applySt, hh, h12]) (fun _ _ _ => rfl)))
    · have h12 : ¬ s.sess.length = 12 := by simp at h12; omega
      exact Wp.spF hh (Wp.spF hh (j8 (by simp [applySt, ok, hh, h12, putSe, newSe])))
  have hh : hasSe s.sess x.s = true := by simpa using hh
  have hlt := hasSe_lt hh
  have ip := (t2.pos hlt).1
  have q1 : ld1 g (.ptr i2 (o2 + kSe s.sess x.s * 4 + 1)) = some (.int .i64 (seAt s.sess x.s).l) := by
    have eb : bload (g.blk i2) (o2 + kSe s.sess x.s * 4 + 1) 1 = some [V.int .i64 s.sess[kSe s.sess x.s].l] := bload_sub (t2.get hlt) 1 1 (by decide)
    rw [ld1_ptr, eb, seAt_at hh]; rfl
  have q2 : ldn 2 g (.ptr i2 (o2 + kSe s.sess x.s * 4 + 2)) = some (.agg (seAt s.sess x.s).r.en) := by
    have eb : bload (g.blk i2) (o2 + kSe s.sess x.s * 4 + 2) 2 = some s.sess[kSe s.sess x.s].r.en := bload_sub (t2.get hlt) 2 2 (by decide)
    rw [ldn_ptr, eb, seAt_at hh]; rfl
  have hi : iA 4 (.sl z2 i2 o2 s.sess.length) (.int .i64 (kSe s.sess x.s)) = some (.ptr i2 (o2 + kSe s.sess x.s * 4)) := iA_sl hlt
  refine Wp.spT hh (Wp.b l1 (Wp.b b1 (Wp.b hi (Wp.b (fA_ptr ip) (Wp.b q1 (Wp.b l2 (Wp.b b3 (Wp.b (bin_eql _ _ _ _ _) (Wp.on (fun hl => ?_) (fun hl => ?_))))))))))
  · have hl : (seAt s.sess x.s).l = x.n := by simpa using hl
    refine Wp.b b2 (Wp.b l1 (Wp.b b1 (Wp.b hi (Wp.b (fA_ptr ip) (Wp.b q2 ?_)))))
    exact two _ (fun k g' => pdV g' (.ptr i2 (o2 + kSe s.sess x.s * 4 + 2)) g (pdV g' (.ptr b (0 + 1)) g k)) (by simp [applySt, ok, hh, hl])
      (fun k g' F => by rw [pdV_fr F ip (by have := t2.lt k5; exact this) (nil1 (nel (Nat.lt_of_lt_of_le lt2 hpn))), pdV_fr F Bb.ne Bb.lt (nil1 (nel (Nat.lt_trans d1 d2)))])
  have hl : ¬ (seAt s.sess x.s).l = x.n := by simpa using hl
  refine Wp.spT hh (Wp.b l1 (Wp.b b1 (Wp.b hi (Wp.b (fA_ptr ip) (Wp.b q1 (Wp.b l2 (Wp.b b3 (Wp.b (bin_gtr _ _ _ _ _) (Wp.on (fun hg => ?_) (fun hg => ?_))))))))))
  · have hg : x.n < (seAt s.sess x.s).l := by simpa using hg
    exact Wp.b b2 (Wp.b (rp1 2) (two ⟨2, emp⟩ (fun k _ => k) (by simp [applySt, ok, hh, hl, hg]) (fun _ _ _ => rfl)))
  · have hg : ¬ x.n < (seAt s.sess x.s).l := by simpa using hg
    exact j8 (by simp [applySt, ok, hh, hl, hg, putSe, newSe])
end Go.Proofs.Ythoabddfionmoaa.AH
namespace Go.Proofs.Ythoabddfionmoaa.AH
open Go Go.RowKit
theorem bytes_beq (a b : ByteArray) : (a == b) = decide (a = b) := by
  cases a with | mk a => cases b with | mk b =>
  have e : (ByteArray.mk a == ByteArray.mk b) = (a == b) := rfl
  rw [e, Bool.eq_iff_iff, beq_iff_eq, decide_eq_true_eq, ByteArray.mk.injEq]
theorem Sl.frz {α : Type} [Enc α] {i : Nat} {l : List α} {h h' : H} {z id off : Nat} (s : Sl l h z id off) (F : Fr [i] h h') (k : id ≠ i ∨ id = 0) : Sl l h' z id off := by
  rcases s with s | s
  · exact .inl s
  · exact (Sl.fr1 (.inr s) F (k.resolve_right s.1))
theorem prEq (a b c d : ByteArray) : (eqV Try.prog Op.maxDepth 88 (.agg [.str a, .str b]) (.agg [.str c, .str d])) = if (a == c) = true then (if (b == d) = true then some true else some false) else some false := by kernel_rfl
theorem prGuard : Try.prog.eqGuardType Try.prog.depth 88 = false := by kernel_rfl
theorem prNe (p q : Pr) : binV Try.prog .neq 88 (.agg p.en) (.agg q.en) = some (.bool (!decide (p = q))) := by
  obtain ⟨a, b⟩ := p
  obtain ⟨c, d⟩ := q
  have e : binV Try.prog .neq 88 (.agg (Pr.en ⟨a, b⟩)) (.agg (Pr.en ⟨c, d⟩)) = if Try.prog.eqGuardType Try.prog.depth 88 then none else (eqV Try.prog Op.maxDepth 88 (.agg [.str a, .str b]) (.agg [.str c, .str d])).map fun b => V.bool !b := rfl
  rw [e, prGuard, prEq, bytes_beq, bytes_beq]
  by_cases h1 : a = c <;> by_cases h2 : b = d <;> simp [h1, h2]
theorem l32 (l m : List Pr) (hlm : l.length = m.length) (hn : l.length ≤ 4611686018427387904) (z id off z' id' off' : Nat) (h : H) (s : Sl l h z id off) (s' : Sl m h z' id' off') : ∀ (n i : Nat), i + n = l.length →
    S32_l4 R (.sl z id off l.length) (.sl z' id' off' m.length) (.int .i64 l.length) (.int .i64 i) h = some (.bool (decide (l.drop i = m.drop i)), h)
  | 0, i, hi => by
    rw [S32_l4_eq]
    have : i = l.length := by omega
    subst this
    have : m.drop l.length = [] := List.drop_of_length_le (by omega)
    simp [this]
  | n + 1, i, hi => by
    rw [S32_l4_eq]
    have hil : i < l.length := by omega
    have him : i < m.length := by omega
    have eg : bload (h.blk id) (off + i * 2) 2 = some l[i].en := s.get hil
    have eg' : bload (h.blk id') (off' + i * 2) 2 = some m[i].en := s'.get him
    simp only [Option.bind_some, bin_lss, Int.ofNat_lt, hil, decide_true, onB_bool, if_true, iA_sl hil, iA_sl him, ldn_ptr, eg, eg', Option.map_some, prNe, bin_add]
    rw [inc64 (by omega), l32 l m hlm hn z id off z' id' off' h s s' n (i + 1) (by omega)]
    by_cases e : l[i] = m[i]
    · simp [e, drop_eq_step l m i hil him]
    · simp [e, drop_eq_step l m i hil him]
theorem c32 (l m : List Pr) (hn : l.length ≤ 4611686018427387904) (hm : m.length ≤ 4611686018427387904) (z id off z' id' off' : Nat) (h : H) (s : Sl l h z id off) (s' : Sl m h z' id' off') :
    R 32 [.sl z id off l.length, .sl z' id' off' m.length] h = some (.bool (decide (l = m)), h) := by
  refine ret_of (R32 rfl ?_)
  rw [S32_eq]
  refine wp_of (v := _) (h := h) ?_ ⟨rfl, rfl⟩
  by_cases e : l.length = m.length
  · have := l32 l m e hn z id off z' id' off' h s s' l.length 0 (by omega)
    simp only [Int.ofNat_zero, List.drop_zero] at this
    simp only [lenL_sl, Option.bind_some, bin_neq, e, decide_true, Bool.not_true, onB_bool, Bool.false_eq_true, if_false]
    rw [e] at this
    exact this
  · have : ¬ l = m := by rintro rfl; exact e rfl
    have e' : ¬ (l.length : Int) = m.length := by omega
    simp [e', this]
/-- The numbers of the commands that change the map. -/
def chgs : Kv → Nat → List Cmd → List Int
  | _, _, [] => []
  | s, i, c :: l => if s.cells = (applySt s c).1.cells then chgs (applySt s c).1 (i + 1) l else (i : Int) :: chgs (applySt s c).1 (i + 1) l
theorem chgs_len : ∀ (l : List Cmd) (s : Kv) (i : Nat), (chgs s i l).length ≤ l.length
  | [], s, i => Nat.le_refl _
  | c :: l, s, i => by
    have := chgs_len l (applySt s c).1 (i + 1)
    unfold chgs
    split <;> simp <;> omega
theorem l7 (l : List Cmd) (hn : l.length ≤ 100) (z id off p : Nat) (h0 : H) (hk0 : Hok h0) (sl : Sl l h0 z id off) (hp : h0.next ≤ p) : ∀ (n i : Nat), i + n = l.length → ∀ (s : Kv) (cs : List V) (out : List Int) (zo io oo : Nat) (g : H), s.ok → Hok g → Fr [] h0 g → Bx g p cs → KvV (fun i => i ≠ p ∧ (i ≠ io ∨ i = 0)) s g cs →
    Sl out g zo io oo → (io = 0 ∨ h0.next ≤ io) → io ≠ p → out.length ≤ i →
    Wp (S7_l6 R (.ptr p 0) (.sl zo io oo out.length) (.sl z id off l.length) (.int .i64 l.length) (.int .i64 i) g) fun r h' => Fr [] h0 h' ∧ ∃ z2 i2 o2, r = .tup [.sl z2 i2 o2 (out ++ chgs s i (l.drop i)).length, .bool true] ∧ Sl (out ++ chgs s i (l.drop i)) h' z2 i2 o2 ∧ (i2 = 0 ∨ h0.next ≤ i2)
  | 0, i, hi, s, cs, out, zo, io, oo, g, hs, hk, F, B, kv, so, ow, np, ho => by
    rw [S7_l6_eq]
    have : i = l.length := by omega
    subst this
    refine Wp.b (bin_lss _ _ _ _ _) (Wp.onF (by simp) (Wp.r2 rfl rfl rfl rfl ⟨F, zo, io, oo, ?_, ?_, ow⟩))
    · simp [chgs]
    · simpa [chgs] using so
  | n + 1, i, hi, s, cs, out, zo, io, oo, g, hs, hk, F, B, kv, so, ow, np, ho => by
    rw [S7_l6_eq]
    have hil : i < l.length := by omega
    have slg := sl.fr0 F
    have eg : ldn 6 g (.ptr id (off + i * 6)) = some (.agg l[i].en) := by
      have : bload (g.blk id) (off + i * 6) 6 = some l[i].en := slg.get hil
      rw [ldn_ptr, this]; rfl
    refine Wp.b (bin_lss _ _ _ _ _) (Wp.onT (by simp; exact hil) (Wp.b (iA_sl hil) (Wp.b eg ?_)))
    refine Wp.alB hk F ?_
    intro d g1 hd gn1 Bd1 k1 F1 F1'
    refine Bd1.st (n := 6) (vs := l[i].en) (ds := l[i].en) rfl rfl (by simp) rfl ?_
    intro g2 gn2 Bd2 F2'
    have hpl := B.lt
    have hgn := F.2.1
    have dn : h0.next ≤ d := by omega
    have F2 := F1.tr1 F2' dn
    have k2 := F2'.ok k1
    have pd : p < d := by omega
    have B2 := (B.fr0 F1').fr1 F2' (nel pd)
    have F12 : Fr [] g g2 := F1'.tr1 F2' (by omega)
    have kv2 := kv.fr0 F12
    obtain ⟨z1, i1, o1, z2, i2, o2, rfl, s1, s2, ⟨q1, q1b⟩, q2, q2b⟩ := kv
    have x1 : ld1 g2 (.ptr p (0 + 0)) = some (.sl z1 i1 o1 s.cells.length) := B2.ld1 (o := 0) (by simp)
    have x2 := B2.ldn (n := 2) rfl
    have x3 := Bd2.ldn (n := 6) rfl
    refine Wp.b (fA_ptr B2.ne) (Wp.b x1 (Wp.b x2 (Wp.b x3 ?_)))
    refine Wp.bind (c31 (P := fun i => i ≠ p ∧ (i ≠ io ∨ i = 0)) s hs l[i] _ g2 k2 (fun j hj => by have := B2.lt; have := (so.fr0 F12).lt k2; exact ⟨by omega, .inl (by omega)⟩) ⟨Ne.symm B2.ne, .inr rfl⟩ kv2) ?_
    rintro r g3 ⟨F3', cs', rfl, kv3⟩
    have F3 := F2.trans0 F3'
    have k3 := F3'.ok k2
    have B3 := B2.fr0 F3'
    obtain ⟨z1', i1', o1', z2', i2', o2', rfl, s1', s2', ⟨q1', q1b'⟩, q2', q2b'⟩ := kv3
    refine Wp.b rfl (Wp.b rfl ?_)
    refine B3.st (n := 2) (vs := [V.sl z1' i1' o1' (applySt s l[i]).1.cells.length, V.sl z2' i2' o2' (applySt s l[i]).1.sess.length]) (ds := [V.sl z1' i1' o1' (applySt s l[i]).1.cells.length, V.sl z2' i2' o2' (applySt s l[i]).1.sess.length]) rfl rfl (by simp) rfl ?_
    intro g4 gn4 B4 F4'
    have F4 := F3.tr1 F4' hp
    have k4 := F4'.ok k3
    have t1 := (((s1.fr0 F12).fr0 F3').fr1 F4' q1)
    have t1' := s1'.fr1 F4' q1'
    have t2' := s2'.fr1 F4' q2'
    have hs' := applySt_ok hs l[i]
    have y1 : ld1 g4 (.ptr p (0 + 0)) = some (.sl z1' i1' o1' (applySt s l[i]).1.cells.length) := B4.ld1 (o := 0) (by simp)
    have cl := hs.1
    have cl' := hs'.1
    refine Wp.b (fA_ptr B4.ne) (Wp.b y1 (Wp.b (c32 _ _ (by omega) (by omega) z1 i1 o1 z1' i1' o1' g4 t1 t1') (Wp.b rfl ?_)))
    have kv4 : KvV (fun i => i ≠ p ∧ (i ≠ io ∨ i = 0)) (applySt s l[i]).1 g4 [V.sl z1' i1' o1' (applySt s l[i]).1.cells.length, V.sl z2' i2' o2' (applySt s l[i]).1.sess.length] := ⟨z1', i1', o1', z2', i2', o2', rfl, t1', t2', ⟨q1', q1b'⟩, q2', q2b'⟩
    have so4 := ((so.fr0 F12).fr0 F3').fr1 F4' np
    have hdrop : l.drop i = l[i] :: l.drop (i + 1) := List.drop_eq_getElem_cons hil
    refine Wp.on (fun hc => ?_) (fun hc => ?_)
    · have hc : ¬ s.cells = (applySt s l[i]).1.cells := by simpa using hc
      refine Wp.bs k4 F4 [(i : Int)] rfl rfl rfl ?_
      intro b5 g5 hb5 gn5 s5 k5 b50 blo5 F5 F5'
      refine Wp.ap k5 F5 (so4.fr0 F5') (by rcases ow with r | r; exact .inl r; exact .inr (by rw [F5.1]; have := hk0.2; omega)) (by rcases ow with r | r; exact .inl r; exact .inr (.inr r)) s5 rfl rfl rfl (by simp; omega) (by simp; omega) ?_
      intro z6 i6 o6 g6 k6 s6 own6 fr6 F6 F6'
      have hi6 : p < i6 ∧ h0.next ≤ i6 := by
        have := B4.lt
        rcases fr6 with fr6 | fr6
        · exact absurd fr6.1 (by simp)
        · have := F5.2.1; omega
      refine Wp.b (bin_add _ _ _ _ _) ?_
      rw [inc64 (by omega)]
      have npo : p ≠ io := Ne.symm np
      have Bk := (B4.fr0 F5').fr1 F6' npo
      have kv6 : KvV (fun j => j ≠ p ∧ (j ≠ i6 ∨ j = 0)) (applySt s l[i]).1 g6 [V.sl z1' i1' o1' (applySt s l[i]).1.cells.length, V.sl z2' i2' o2' (applySt s l[i]).1.sess.length] := by
        have hi6 : g5.next ≤ i6 := by
          rcases fr6 with fr6 | fr6
          · exact absurd fr6.1 (by simp)
          · exact fr6
        have u1 := (t1'.fr0 F5')
        have u2 := (t2'.fr0 F5')
        exact ⟨z1', i1', o1', z2', i2', o2', rfl, u1.frz F6' q1b', u2.frz F6' q2b', ⟨q1', .inl (nel (Nat.lt_of_lt_of_le (u1.lt k5) hi6))⟩, q2', .inl (nel (Nat.lt_of_lt_of_le (u2.lt k5) hi6))⟩
      refine (l7 l hn z id off p h0 hk0 sl hp n (i + 1) (by omega) _ _ (out ++ [(i : Int)]) z6 i6 o6 g6 hs' k6 F6 Bk kv6 s6 (.inr hi6.2) (ner hi6.1) (by simp; omega)).mono ?_
      rintro r h' ⟨Fz, a, b, c, rfl, ss, ww⟩
      refine ⟨Fz, a, b, c, ?_, ?_, ww⟩
      · rw [hdrop, chgs, if_neg hc]; simp
      · rw [hdrop, chgs, if_neg hc]; simpa using ss
    · have hc : s.cells = (applySt s l[i]).1.cells := by simpa using hc
      refine Wp.b (bin_add _ _ _ _ _) ?_
      rw [inc64 (by omega)]
      refine (l7 l hn z id off p h0 hk0 sl hp n (i + 1) (by omega) _ _ out zo io oo g4 hs' k4 F4 B4 kv4 so4 ow np (by omega)).mono ?_
      rintro r h' ⟨Fz, a, b, c, rfl, ss, ww⟩
      refine ⟨Fz, a, b, c, ?_, ?_, ww⟩
      · rw [hdrop, chgs, if_pos hc]
      · rw [hdrop, chgs, if_pos hc]; exact ss
theorem c7 (l : List Cmd) (hn : l.length ≤ 4611686018427387904) (z id off : Nat) (h : H) (hk : Hok h) (sl : Sl l h z id off) :
    Wp (R 7 [.sl z id off l.length] h) fun r h' => Fr [] h h' ∧ ∃ z2 i2 o2, r = .tup [.sl z2 i2 o2 (if l.length ≤ 100 then chgs ⟨[], []⟩ 0 l else []).length, .bool (decide (l.length ≤ 100))] ∧ Sl (if l.length ≤ 100 then chgs ⟨[], []⟩ 0 l else []) h' z2 i2 o2 := by
  refine R7 rfl ?_
  rw [S7_eq]
  refine Wp.b (lenL_sl _ _ _ _) (Wp.b (bin_gtr _ _ _ _ _) (Wp.on (fun hc => ?_) (fun hc => ?_)))
  · have hc : ¬ l.length ≤ 100 := by simp at hc; omega
    rw [if_neg hc]
    exact Wp.r2 rfl rfl rfl rfl ⟨Fr.refl _ _, 0, 0, 0, by simp [hc], Sl.nil _ _ _⟩
  · have hc : l.length ≤ 100 := by simp at hc; omega
    rw [if_pos hc]
    refine Wp.b rfl ?_
    refine Wp.alB hk (Fr.refl [] h) ?_
    intro p g1 hp gn1 B1 k1 F1 F1'
    refine B1.st (n := 2) (vs := [.sl 0 0 0 0, .sl 0 0 0 0]) (ds := [.sl 0 0 0 0, .sl 0 0 0 0]) rfl rfl (by simp) rfl ?_
    intro g2 gn2 B2 F2'
    have F2 := F1.tr1 F2' (by omega)
    refine Wp.b (lenL_sl _ _ _ _) ?_
    refine (l7 l hc z id off p h hk sl (by omega) l.length 0 (by omega) ⟨[], []⟩ _ [] 0 0 0 g2 ⟨by simp, by simp⟩ (F2'.ok k1) F2 B2 ⟨0, 0, 0, 0, 0, 0, rfl, Sl.nil _ _ _, Sl.nil _ _ _, ⟨Ne.symm B2.ne, .inr rfl⟩, Ne.symm B2.ne, .inr rfl⟩ (Sl.nil _ _ _) (.inl rfl) (Ne.symm B2.ne) (by simp)).mono ?_
    rintro r h' ⟨F, a, b, c, rfl, ss, ww⟩
    exact ⟨F, a, b, c, by simp [hc], by simpa using ss⟩
end Go.Proofs.Ythoabddfionmoaa.AH
namespace Go.Proofs.Ythoabddfionmoaa.AH
open Go Go.RowKit
theorem c95 (a : Int) (h : H) : R 95 [.int .i64 a] h = some (.bool false, h) := by
  refine ret_of (R95 rfl ?_)
  rw [S95_eq]
  refine wp_of (v := _) (h := h) ?_ ⟨rfl, rfl⟩
  simp
theorem c94 (a : ByteArray) (h : H) : R 94 [.str a] h = some (.bool false, h) := by
  refine ret_of (R94 rfl ?_)
  rw [S94_eq]
  refine wp_of (v := _) (h := h) ?_ ⟨rfl, rfl⟩
  simp
theorem c89 (a b : Int) (h : H) : R 89 [.int .i64 a, .int .i64 b] h = some (.int .i64 (if a < b then -1 else if b < a then 1 else 0), h) := by
  refine ret_of (R89 rfl ?_)
  rw [S89_eq]
  refine wp_of (v := _) (h := h) ?_ ⟨rfl, rfl⟩
  simp [c95]
  by_cases h1 : a < b
  · simp [h1]
  · by_cases h2 : b < a <;> simp [h1, h2]
theorem c82 (a b : ByteArray) (h : H) : R 82 [.str a, .str b] h = some (.int .i64 (if sLt a b then -1 else if a = b then 0 else 1), h) := by
  refine ret_of (R82 rfl ?_)
  rw [S82_eq]
  refine wp_of (v := _) (h := h) ?_ ⟨rfl, rfl⟩
  simp [c94]
  cases h1 : sLt a b
  · by_cases h2 : a = b
    · simp [h2] at h1 ⊢
    · simp [h1, h2]
  · simp [h1]
theorem c88 (e : Se) (x : Int) (h : H) (hk : Hok h) : Wp (R 88 [.agg e.en, .int .i64 x] h) fun r h' => r = .int .i64 (if e.i < x then -1 else if x < e.i then 1 else 0) ∧ Fr [] h h' := by
  refine R88 rfl ?_
  rw [S88_eq]
  refine Wp.bxB hk (Fr.refl [] h) rfl ?_
  intro b g hb gn B k F F'
  have x1 : ld1 g (.ptr b (0 + 0)) = some (.int .i64 e.i) := B.ld1 (o := 0) (by simp [Se.en])
  exact Wp.b (fA_ptr B.ne) (Wp.b x1 (Wp.b (c89 _ _ _) (Wp.r1 rfl rfl ⟨rfl, F⟩)))
theorem c81 (e : Pr) (x : ByteArray) (h : H) (hk : Hok h) : Wp (R 81 [.agg e.en, .str x] h) fun r h' => r = .int .i64 (if sLt e.k x then -1 else if e.k = x then 0 else 1) ∧ Fr [] h h' := by
  refine R81 rfl ?_
  rw [S81_eq]
  refine Wp.bxB hk (Fr.refl [] h) rfl ?_
  intro b g hb gn B k F F'
  have x1 : ld1 g (.ptr b (0 + 0)) = some (.str e.k) := B.ld1 (o := 0) (by simp [Pr.en])
  exact Wp.b (fA_ptr B.ne) (Wp.b x1 (Wp.b (c82 _ _ _) (Wp.r1 rfl rfl ⟨rfl, F⟩)))
theorem wrapu (x : Nat) (hx : x < 9223372036854775808) : IntKind.u64.wrap (x : Int) = (x : Int) := by
  have e : IntKind.u64.wrap (x : Int) = (x : Int) % 18446744073709551616 := by
    unfold IntKind.wrap
    have h64 : (2 : Int) ^ 64 = 18446744073709551616 := by decide
    simp only [IntKind.bits, IntKind.signed, h64, Bool.false_and, Bool.false_eq_true, if_false]
  rw [e]; omega
theorem shr1 (P : Program) (t : TypeId) (x : Nat) : binV P .shr t (.int .u64 (x : Int)) (.int .u64 1) = some (.int .u64 ((x / 2 : Nat) : Int)) := by
  have : binV P .shr t (.int .u64 (x : Int)) (.int .u64 1) = some (.int .u64 ((x : Int).fdiv 2)) := rfl
  rw [this]
  congr 2
  rw [Int.fdiv_eq_ediv_of_nonneg _ (by decide)]; omega
theorem dyn0 {call : CallF} {f : Nat} {args : List V} {h : H} {k : V × H → Option (V × H)} : dynK call (.fn f []) args h k = (call f args h).bind k := by
  simp [dynK]
/-- The place is found where the smaller ones are a beginning. -/
theorem l87 (l : List Se) (hn : l.length ≤ 1048576) (x : Int) (hm : ∀ i j (hi : i < j) (hj : j < l.length), l[j].i < x → l[i].i < x) (z id off : Nat) : ∀ (n lo hi : Nat), hi - lo ≤ n → lo ≤ hi → hi ≤ l.length → (∀ j (hj : j < l.length), j < lo → l[j].i < x) → (∀ j (hj : j < l.length), hi ≤ j → ¬ l[j].i < x) → ∀ (h : H), Hok h → Sl l h z id off →
    Wp (S87_l3 R (.sl z id off l.length) (.int .i64 x) (.fn 88 []) (.int .i64 l.length) (.int .i64 lo) (.int .i64 hi) h) fun r h' => r = .tup [.int .i64 (kSe l x), .bool (hasSe l x)] ∧ Fr [] h h' := by
  intro n
  induction n with
  | zero =>
    intro lo hi hd hle hhi h1 h2 h hk s
    have : hi = lo := by omega
    subst this
    rw [S87_l3_eq]
    have ek : kSe l x = hi := tw_at _ _ _ (fun j hj hji => by simpa using h1 j hj hji) hhi (fun hi' => by simpa using h2 hi hi' (Nat.le_refl _))
    refine Wp.b (bin_lss _ _ _ _ _) (Wp.onF (by simp) (Wp.b (bin_lss _ _ _ _ _) (Wp.sp (fun hc => ?_) (fun hc => ?_))))
    · have hlt : hi < l.length := by simp at hc; omega
      have eg : ldn 4 h (.ptr id (off + hi * 4)) = some (.agg l[hi].en) := by
        have : bload (h.blk id) (off + hi * 4) 4 = some l[hi].en := s.get hlt
        rw [ldn_ptr, this]; rfl
      refine Wp.b (iA_sl hlt) (Wp.b eg ?_)
      rw [dyn0]
      refine Wp.bind (c88 l[hi] x h hk) ?_
      rintro r h' ⟨rfl, F⟩
      refine Wp.b (bin_eql _ _ _ _ _) (Wp.r2 rfl rfl rfl rfl ⟨?_, F⟩)
      have nl := h2 hi hlt (Nat.le_refl _)
      have e2 : hasSe l x = decide (l[hi].i = x) := by unfold hasSe; rw [ek, List.getElem?_eq_getElem hlt]
      rw [ek, e2, if_neg nl]
      by_cases e : x < l[hi].i
      · have : ¬ l[hi].i = x := by omega
        simp [e, this]
      · have : l[hi].i = x := by omega
        simp [this]
    · have hge : ¬ hi < l.length := by simp at hc; omega
      have e2 : hasSe l x = false := by unfold hasSe; rw [ek, List.getElem?_eq_none (by omega)]
      exact Wp.r2 rfl rfl rfl rfl ⟨by rw [ek, e2], Fr.refl _ _⟩
  | succ n ih =>
    intro lo hi hd hle hhi h1 h2 h hk s
    by_cases hlt : lo < hi
    · rw [S87_l3_eq]
      have hmid : (lo + hi) / 2 < l.length := by omega
      have eg : ldn 4 h (.ptr id (off + (lo + hi) / 2 * 4)) = some (.agg l[(lo + hi) / 2].en) := by
        have : bload (h.blk id) (off + (lo + hi) / 2 * 4) 4 = some l[(lo + hi) / 2].en := s.get hmid
        rw [ldn_ptr, this]; rfl
      have e1 : binV Try.prog .add 3 (.int .i64 lo) (.int .i64 hi) = some (.int .i64 ((lo + hi : Nat) : Int)) := by
        rw [bin_add, wrap64 (by omega) (by omega)]; rfl
      have e2 : cvI .u64 (.int .i64 ((lo + hi : Nat) : Int)) = some (.int .u64 ((lo + hi : Nat) : Int)) := by
        show some (V.int .u64 (IntKind.u64.wrap _)) = _
        rw [wrapu _ (by omega)]
      have e3 : cvI .i64 (.int .u64 (((lo + hi) / 2 : Nat) : Int)) = some (.int .i64 (((lo + hi) / 2 : Nat) : Int)) := by
        show some (V.int .i64 (IntKind.i64.wrap _)) = _
        rw [wrap64 (by omega) (by omega)]
      refine Wp.b (bin_lss _ _ _ _ _) (Wp.onT (by simp; omega) (Wp.b e1 (Wp.b e2 (Wp.b (shr1 _ _ _) (Wp.b e3 (Wp.b (iA_sl hmid) (Wp.b eg ?_)))))))
      rw [dyn0]
      refine Wp.bind (c88 l[(lo + hi) / 2] x h hk) ?_
      rintro r h' ⟨rfl, F⟩
      refine Wp.b (bin_lss _ _ _ _ _) (Wp.on (fun hc => ?_) (fun hc => ?_))
      · have hc : l[(lo + hi) / 2].i < x := by
          by_cases q : l[(lo + hi) / 2].i < x
          · exact q
          · rw [if_neg q] at hc; split at hc <;> simp at hc
        refine Wp.b (bin_add _ _ _ _ _) ?_
        rw [inc64 (by omega)]
        refine (ih ((lo + hi) / 2 + 1) hi (by omega) (by omega) hhi (fun j hj hji => ?_) h2 h' (F.ok hk) (s.fr0 F)).mono (fun r h'' q => ⟨q.1, F.trans0 q.2⟩)
        by_cases e : j = (lo + hi) / 2
        · subst e; exact hc
        · exact hm j ((lo + hi) / 2) (by omega) hmid hc
      · have hc : ¬ l[(lo + hi) / 2].i < x := by
          intro q; rw [if_pos q] at hc; simp at hc
        refine (ih lo ((lo + hi) / 2) (by omega) (by omega) (by omega) h1 (fun j hj hji => ?_) h' (F.ok hk) (s.fr0 F)).mono (fun r h'' q => ⟨q.1, F.trans0 q.2⟩)
        by_cases e : j = (lo + hi) / 2
        · subst e; exact hc
        · exact fun q => hc (hm ((lo + hi) / 2) j (by omega) hj q)
    · exact ih lo hi (by omega) hle hhi h1 h2 h hk s
theorem c87 (l : List Se) (hn : l.length ≤ 1048576) (x : Int) (hm : ∀ i j (hi : i < j) (hj : j < l.length), l[j].i < x → l[i].i < x) (z id off : Nat) (h : H) (hk : Hok h) (s : Sl l h z id off) :
    Wp (R 87 [.sl z id off l.length, .int .i64 x, .fn 88 []] h) fun r h' => r = .tup [.int .i64 (kSe l x), .bool (hasSe l x)] ∧ Fr [] h h' := by
  refine R87 rfl ?_
  rw [S87_eq]
  exact Wp.b (lenL_sl _ _ _ _) (l87 l hn x hm z id off l.length 0 l.length (by omega) (by omega) (Nat.le_refl _) (fun j hj h0 => absurd h0 (by omega)) (fun j hj h0 => absurd hj (by omega)) h hk s)
/-- The place is found where the smaller ones are a beginning. -/
theorem l80 (l : List Pr) (hn : l.length ≤ 1048576) (x : ByteArray) (hm : ∀ i j (hi : i < j) (hj : j < l.length), sLt l[j].k x = true → sLt l[i].k x = true) (z id off : Nat) : ∀ (n lo hi : Nat), hi - lo ≤ n → lo ≤ hi → hi ≤ l.length → (∀ j (hj : j < l.length), j < lo → sLt l[j].k x = true) → (∀ j (hj : j < l.length), hi ≤ j → ¬ sLt l[j].k x = true) → ∀ (h : H), Hok h → Sl l h z id off →
    Wp (S80_l3 R (.sl z id off l.length) (.str x) (.fn 81 []) (.int .i64 l.length) (.int .i64 lo) (.int .i64 hi) h) fun r h' => r = .tup [.int .i64 (kPr l x), .bool (hasPr l x)] ∧ Fr [] h h' := by
  intro n
  induction n with
  | zero =>
    intro lo hi hd hle hhi h1 h2 h hk s
    have : hi = lo := by omega
    subst this
    rw [S80_l3_eq]
    have ek : kPr l x = hi := tw_at _ _ _ (fun j hj hji => by simpa using h1 j hj hji) hhi (fun hi' => by simpa using h2 hi hi' (Nat.le_refl _))
    refine Wp.b (bin_lss _ _ _ _ _) (Wp.onF (by simp) (Wp.b (bin_lss _ _ _ _ _) (Wp.sp (fun hc => ?_) (fun hc => ?_))))
    · have hlt : hi < l.length := by simp at hc; omega
      have eg : ldn 2 h (.ptr id (off + hi * 2)) = some (.agg l[hi].en) := by
        have : bload (h.blk id) (off + hi * 2) 2 = some l[hi].en := s.get hlt
        rw [ldn_ptr, this]; rfl
      refine Wp.b (iA_sl hlt) (Wp.b eg ?_)
      rw [dyn0]
      refine Wp.bind (c81 l[hi] x h hk) ?_
      rintro r h' ⟨rfl, F⟩
      refine Wp.b (bin_eql _ _ _ _ _) (Wp.r2 rfl rfl rfl rfl ⟨?_, F⟩)
      have nl := h2 hi hlt (Nat.le_refl _)
      have e2 : hasPr l x = decide (l[hi].k = x) := by unfold hasPr; rw [ek, List.getElem?_eq_getElem hlt]
      rw [ek, e2, if_neg nl]
      by_cases e : l[hi].k = x <;> simp [e]
    · have hge : ¬ hi < l.length := by simp at hc; omega
      have e2 : hasPr l x = false := by unfold hasPr; rw [ek, List.getElem?_eq_none (by omega)]
      exact Wp.r2 rfl rfl rfl rfl ⟨by rw [ek, e2], Fr.refl _ _⟩
  | succ n ih =>
    intro lo hi hd hle hhi h1 h2 h hk s
    by_cases hlt : lo < hi
    · rw [S80_l3_eq]
      have hmid : (lo + hi) / 2 < l.length := by omega
      have eg : ldn 2 h (.ptr id (off + (lo + hi) / 2 * 2)) = some (.agg l[(lo + hi) / 2].en) := by
        have : bload (h.blk id) (off + (lo + hi) / 2 * 2) 2 = some l[(lo + hi) / 2].en := s.get hmid
        rw [ldn_ptr, this]; rfl
      have e1 : binV Try.prog .add 3 (.int .i64 lo) (.int .i64 hi) = some (.int .i64 ((lo + hi : Nat) : Int)) := by
        rw [bin_add, wrap64 (by omega) (by omega)]; rfl
      have e2 : cvI .u64 (.int .i64 ((lo + hi : Nat) : Int)) = some (.int .u64 ((lo + hi : Nat) : Int)) := by
        show some (V.int .u64 (IntKind.u64.wrap _)) = _
        rw [wrapu _ (by omega)]
      have e3 : cvI .i64 (.int .u64 (((lo + hi) / 2 : Nat) : Int)) = some (.int .i64 (((lo + hi) / 2 : Nat) : Int)) := by
        show some (V.int .i64 (IntKind.i64.wrap _)) = _
        rw [wrap64 (by omega) (by omega)]
      refine Wp.b (bin_lss _ _ _ _ _) (Wp.onT (by simp; omega) (Wp.b e1 (Wp.b e2 (Wp.b (shr1 _ _ _) (Wp.b e3 (Wp.b (iA_sl hmid) (Wp.b eg ?_)))))))
      rw [dyn0]
      refine Wp.bind (c81 l[(lo + hi) / 2] x h hk) ?_
      rintro r h' ⟨rfl, F⟩
      refine Wp.b (bin_lss _ _ _ _ _) (Wp.on (fun hc => ?_) (fun hc => ?_))
      · have hc : sLt l[(lo + hi) / 2].k x = true := by
          by_cases q : sLt l[(lo + hi) / 2].k x = true
          · exact q
          · rw [if_neg q] at hc; split at hc <;> simp at hc
        refine Wp.b (bin_add _ _ _ _ _) ?_
        rw [inc64 (by omega)]
        refine (ih ((lo + hi) / 2 + 1) hi (by omega) (by omega) hhi (fun j hj hji => ?_) h2 h' (F.ok hk) (s.fr0 F)).mono (fun r h'' q => ⟨q.1, F.trans0 q.2⟩)
        by_cases e : j = (lo + hi) / 2
        · subst e; exact hc
        · exact hm j ((lo + hi) / 2) (by omega) hmid hc
      · have hc : ¬ sLt l[(lo + hi) / 2].k x = true := by
          intro q; rw [if_pos q] at hc; simp at hc
        refine (ih lo ((lo + hi) / 2) (by omega) (by omega) (by omega) h1 (fun j hj hji => ?_) h' (F.ok hk) (s.fr0 F)).mono (fun r h'' q => ⟨q.1, F.trans0 q.2⟩)
        by_cases e : j = (lo + hi) / 2
        · subst e; exact hc
        · exact fun q => hc (hm ((lo + hi) / 2) j (by omega) hj q)
    · exact ih lo hi (by omega) hle hhi h1 h2 h hk s
theorem c80 (l : List Pr) (hn : l.length ≤ 1048576) (x : ByteArray) (hm : ∀ i j (hi : i < j) (hj : j < l.length), sLt l[j].k x = true → sLt l[i].k x = true) (z id off : Nat) (h : H) (hk : Hok h) (s : Sl l h z id off) :
    Wp (R 80 [.sl z id off l.length, .str x, .fn 81 []] h) fun r h' => r = .tup [.int .i64 (kPr l x), .bool (hasPr l x)] ∧ Fr [] h h' := by
  refine R80 rfl ?_
  rw [S80_eq]
  exact Wp.b (lenL_sl _ _ _ _) (l80 l hn x hm z id off l.length 0 l.length (by omega) (by omega) (Nat.le_refl _) (fun j hj h0 => absurd h0 (by omega)) (fun j hj h0 => absurd hj (by omega)) h hk s)
end Go.Proofs.Ythoabddfionmoaa.AH
namespace Go.Proofs.Ythoabddfionmoaa.AH
open Go Go.RowKit
theorem bl_trans : ∀ (a b c : List UInt8), Op.bytesLess a b = true → Op.bytesLess b c = true → Op.bytesLess a c = true
  | _, [], _, h1, h2 => by cases ‹List UInt8› <;> simp [Op.bytesLess] at h1
  | _, _ :: _, [], h1, h2 => by simp [Op.bytesLess] at h2
  | [], _ :: _, _ :: _, h1, h2 => by simp [Op.bytesLess]
  | a :: xs, b :: bs, c :: cs, h1, h2 => by
    simp only [Op.bytesLess, Bool.or_eq_true, Bool.and_eq_true, decide_eq_true_eq, beq_iff_eq] at h1 h2 ⊢
    rcases h1 with h1 | ⟨rfl, h1⟩ <;> rcases h2 with h2 | ⟨rfl, h2⟩
    · exact .inl (UInt8.lt_trans h1 h2)
    · exact .inl h1
    · exact .inl h2
    · exact .inr ⟨rfl, bl_trans xs bs cs h1 h2⟩
theorem bl_tri : ∀ (a b : List UInt8), Op.bytesLess a b = true ∨ a = b ∨ Op.bytesLess b a = true
  | [], [] => .inr (.inl rfl)
  | [], _ :: _ => .inl (by simp [Op.bytesLess])
  | _ :: _, [] => .inr (.inr (by simp [Op.bytesLess]))
  | a :: xs, b :: bs => by
    simp only [Op.bytesLess, Bool.or_eq_true, Bool.and_eq_true, decide_eq_true_eq, beq_iff_eq, List.cons.injEq]
    rcases Nat.lt_trichotomy a.toNat b.toNat with h | h | h
    · exact .inl (.inl (UInt8.lt_iff_toNat_lt.2 h))
    · have e : a = b := UInt8.toNat_inj.1 h
      subst e
      rcases bl_tri xs bs with t | t | t
      · exact .inl (.inr ⟨rfl, t⟩)
      · exact .inr (.inl ⟨rfl, t⟩)
      · exact .inr (.inr (.inr ⟨rfl, t⟩))
    · exact .inr (.inr (.inl (UInt8.lt_iff_toNat_lt.2 h)))
theorem sLt_trans {a b c : ByteArray} (h1 : sLt a b = true) (h2 : sLt b c = true) : sLt a c = true := bl_trans _ _ _ h1 h2
theorem sLt_tri (a b : ByteArray) : sLt a b = true ∨ a = b ∨ sLt b a = true := by
  rcases bl_tri a.toList b.toList with h | h | h
  · exact .inl h
  · refine .inr (.inl ?_)
    have := bytes_eqb a b
    rw [h] at this
    simpa using this.symm
  · exact .inr (.inr h)
theorem take_tw {α : Type} (p : α → Bool) : ∀ (l : List α), l.take (l.takeWhile p).length = l.takeWhile p
  | [] => rfl
  | a :: l => by
    rw [List.takeWhile_cons]
    split
    · rw [List.length_cons, List.take_succ_cons, take_tw p l]
    · rfl
theorem drop_tw {α : Type} (p : α → Bool) : ∀ (l : List α), l.drop (l.takeWhile p).length = l.dropWhile p
  | [] => rfl
  | a :: l => by
    rw [List.takeWhile_cons, List.dropWhile_cons]
    split
    · rw [List.length_cons, List.drop_succ_cons, drop_tw p l]
    · rfl
theorem mem_tw {α : Type} (p : α → Bool) : ∀ (l : List α) (a : α), a ∈ l.takeWhile p → p a = true
  | [], a, h => by simp at h
  | b :: l, a, h => by
    rw [List.takeWhile_cons] at h
    split at h
    · rename_i hb
      rcases List.mem_cons.1 h with rfl | h
      · exact hb
      · exact mem_tw p l a h
    · simp at h
theorem tw_not {α : Type} (p : α → Bool) : ∀ (l : List α) (h : (l.takeWhile p).length < l.length), p l[(l.takeWhile p).length] = false
  | [], h => by simp at h
  | b :: l, h => by
    by_cases hb : p b = true
    · have e : (List.takeWhile p (b :: l)).length = (l.takeWhile p).length + 1 := by rw [List.takeWhile_cons, if_pos hb]; rfl
      have h' : (l.takeWhile p).length < l.length := by rw [e] at h; simpa using h
      have := tw_not p l h'
      simpa only [e, List.getElem_cons_succ] using this
    · have e : (List.takeWhile p (b :: l)).length = 0 := by rw [List.takeWhile_cons, if_neg hb]; rfl
      simp only [e, List.getElem_cons_zero]
      simpa using hb
theorem pw_put {α : Type} {r : α → α → Prop} (tr : ∀ a b c, r a b → r b c → r a c) {l : List α} (hl : l.Pairwise r) (x : α) (k k' : Nat) (h1 : ∀ a ∈ l.take k, r a x) (h2 : ∀ b ∈ l.drop k', r x b) : (l.take k ++ [x] ++ l.drop k').Pairwise r := by
  rw [List.append_assoc, List.pairwise_append]
  refine ⟨hl.sublist (List.take_sublist _ _), ?_, ?_⟩
  · rw [List.singleton_append, List.pairwise_cons]
    exact ⟨h2, hl.sublist (List.drop_sublist _ _)⟩
  · intro a ha b hb
    rcases List.mem_cons.1 hb with rfl | hb
    · exact h1 a ha
    · exact tr a x b (h1 a ha) (h2 b hb)
theorem pw_del {α : Type} {r : α → α → Prop} {l : List α} (hl : l.Pairwise r) (k : Nat) : (l.take k ++ l.drop (k + 1)).Pairwise r := by
  have e := List.eraseIdx_eq_take_drop_succ l k
  rw [← e]
  exact hl.sublist (List.eraseIdx_sublist _ _)
theorem pw_drop {α : Type} {r : α → α → Prop} {l : List α} (hl : l.Pairwise r) (k : Nat) (hk : k < l.length) : ∀ b ∈ l.drop (k + 1), r l[k] b := by
  have e : l.drop k = l[k] :: l.drop (k + 1) := List.drop_eq_getElem_cons hk
  have := hl.sublist (List.drop_sublist k l)
  rw [e, List.pairwise_cons] at this
  exact this.1
def rPr (a b : Pr) : Prop := sLt a.k b.k = true
def rSe (a b : Se) : Prop := a.i < b.i
def Kv.srt (s : Kv) : Prop := s.cells.Pairwise rPr ∧ s.sess.Pairwise rSe
theorem rPr_tr (a b c : Pr) (h1 : rPr a b) (h2 : rPr b c) : rPr a c := sLt_trans h1 h2
theorem rSe_tr (a b c : Se) (h1 : rSe a b) (h2 : rSe b c) : rSe a c := Int.lt_trans h1 h2
theorem putPr_srt {l : List Pr} (hl : l.Pairwise rPr) (x : Pr) : (putPr l x).Pairwise rPr := by
  unfold putPr
  refine pw_put rPr_tr hl x _ _ (fun a ha => ?_) (fun b hb => ?_)
  · unfold kPr at ha
    rw [take_tw] at ha
    exact mem_tw (fun y => sLt y.k x.k) l a ha
  · cases e : hasPr l x.k
    · rw [e] at hb
      simp only [Bool.false_eq_true, if_false] at hb
      by_cases hk : kPr l x.k < l.length
      · have n1 : sLt l[kPr l x.k].k x.k = false := tw_not _ l hk
        have n2 : ¬ l[kPr l x.k].k = x.k := by
          unfold hasPr at e; rw [List.getElem?_eq_getElem hk] at e; simpa using e
        have n3 : rPr x l[kPr l x.k] := by
          rcases sLt_tri x.k l[kPr l x.k].k with t | t | t
          · exact t
          · exact absurd t.symm n2
          · rw [n1] at t; cases t
        rw [List.drop_eq_getElem_cons hk] at hb
        rcases List.mem_cons.1 hb with rfl | hb
        · exact n3
        · exact rPr_tr _ _ _ n3 (pw_drop hl _ hk b hb)
      · rw [List.drop_of_length_le (by omega)] at hb; simp at hb
    · rw [e] at hb
      simp only [if_true] at hb
      have hk := hasPr_lt e
      have n2 : l[kPr l x.k].k = x.k := by
        unfold hasPr at e; rw [List.getElem?_eq_getElem hk] at e; simpa using e
      have := pw_drop hl _ hk b hb
      unfold rPr at this ⊢
      rw [n2] at this
      exact this
theorem doPr_srt {l : List Pr} (hl : l.Pairwise rPr) (c : Cmd) : (doPr l c).1.Pairwise rPr := by
  unfold doPr
  split
  · split
    · exact hl
    · exact putPr_srt hl _
  · split
    · exact hl
    · split
      · exact hl
      · split
        · exact pw_del hl _
        · split
          · exact hl
          · exact putPr_srt hl _
theorem putSe_srt {s : Kv} (hl : s.sess.Pairwise rSe) (x : Cmd) (e' : Se) (he : e'.i = x.s) : (s.sess.take (kSe s.sess x.s) ++ [e'] ++ s.sess.drop (if hasSe s.sess x.s then kSe s.sess x.s + 1 else kSe s.sess x.s)).Pairwise rSe := by
  refine pw_put rSe_tr hl e' _ _ (fun a ha => ?_) (fun b hb => ?_)
  · unfold kSe at ha
    rw [take_tw] at ha
    have := mem_tw _ _ _ ha
    simp only [decide_eq_true_eq] at this
    unfold rSe; omega
  · cases e : hasSe s.sess x.s
    · rw [e] at hb
      simp only [Bool.false_eq_true, if_false] at hb
      by_cases hk : kSe s.sess x.s < s.sess.length
      · have n1 := tw_not _ s.sess hk
        simp only [decide_eq_false_iff_not] at n1
        have n2 : ¬ s.sess[kSe s.sess x.s].i = x.s := by
          unfold hasSe at e; rw [List.getElem?_eq_getElem hk] at e; simpa using e
        have n3 : rSe e' s.sess[kSe s.sess x.s] := by
          unfold rSe
          have : ¬ s.sess[kSe s.sess x.s].i < x.s := n1
          omega
        rw [List.drop_eq_getElem_cons hk] at hb
        rcases List.mem_cons.1 hb with rfl | hb
        · exact n3
        · exact rSe_tr _ _ _ n3 (pw_drop hl _ hk b hb)
      · rw [List.drop_of_length_le (by omega)] at hb; simp at hb
    · rw [e] at hb
      simp only [if_true] at hb
      have hk := hasSe_lt e
      have n2 : s.sess[kSe s.sess x.s].i = x.s := by
        unfold hasSe at e; rw [List.getElem?_eq_getElem hk] at e; simpa using e
      have := pw_drop hl _ hk b hb
      unfold rSe at this ⊢
      omega
theorem applySt_srt {s : Kv} (k : s.srt) (c : Cmd) : (applySt s c).1.srt := by
  unfold applySt
  split
  · exact k
  · split
    · exact k
    · split
      · exact k
      · exact ⟨doPr_srt k.1 c, putSe_srt k.2 c _ rfl⟩
theorem mono_of {α : Type} {r : α → α → Prop} {l : List α} (hl : l.Pairwise r) (p : α → Prop) (hp : ∀ a b, r a b → p b → p a) : ∀ i j (hi : i < j) (hj : j < l.length), p l[j] → p l[i] := by
  intro i j hi hj h
  exact hp _ _ (List.pairwise_iff_getElem.1 hl i j (by omega) hj hi) h
/-! The places. -/
theorem c73 (s : Kv) (hs : s.ok) (hr : s.srt) (x : Int) (p : Nat) (cs : List V) (h : H) (hk : Hok h) {z1 i1 o1 z2 i2 o2 : Nat} (B : Bx h p [.sl z1 i1 o1 s.cells.length, .sl z2 i2 o2 s.sess.length]) (s2 : Sl s.sess h z2 i2 o2) :
    Wp (R 73 [.ptr p 0, .int .i64 x] h) fun r h' => r = .tup [.int .i64 (kSe s.sess x), .bool (hasSe s.sess x)] ∧ Fr [] h h' := by
  refine R73 rfl ?_
  rw [S73_eq]
  have e1 : ld1 h (.ptr p (0 + 1)) = some (.sl z2 i2 o2 s.sess.length) := B.ld1 (o := 1) (by simp)
  refine Wp.b (nilC_ptr B.ne) (Wp.b (fA_ptr B.ne) (Wp.b e1 ?_))
  have := hs.2
  refine Wp.bind (c87 s.sess (by omega) x (mono_of hr.2 (fun a => a.i < x) (fun a b hab hb => Int.lt_trans hab hb)) z2 i2 o2 h hk s2) ?_
  rintro r h' ⟨rfl, F⟩
  exact Wp.b rfl (Wp.b rfl (Wp.r2 rfl rfl rfl rfl ⟨rfl, F⟩))
theorem c62 (s : Kv) (hs : s.ok) (hr : s.srt) (x : ByteArray) (p : Nat) (cs : List V) (h : H) (hk : Hok h) {z1 i1 o1 z2 i2 o2 : Nat} (B : Bx h p [.sl z1 i1 o1 s.cells.length, .sl z2 i2 o2 s.sess.length]) (s1 : Sl s.cells h z1 i1 o1) :
    Wp (R 62 [.ptr p 0, .str x] h) fun r h' => r = .tup [.int .i64 (kPr s.cells x), .bool (hasPr s.cells x)] ∧ Fr [] h h' := by
  refine R62 rfl ?_
  rw [S62_eq]
  have e1 : ld1 h (.ptr p (0 + 0)) = some (.sl z1 i1 o1 s.cells.length) := B.ld1 (o := 0) (by simp)
  refine Wp.b (nilC_ptr B.ne) (Wp.b (fA_ptr B.ne) (Wp.b e1 ?_))
  have := hs.1
  refine Wp.bind (c80 s.cells (by omega) x (mono_of hr.1 (fun a => sLt a.k x = true) (fun a b hab hb => sLt_trans hab hb)) z1 i1 o1 h hk s1) ?_
  rintro r h' ⟨rfl, F⟩
  exact Wp.b rfl (Wp.b rfl (Wp.r2 rfl rfl rfl rfl ⟨rfl, F⟩))
end Go.Proofs.Ythoabddfionmoaa.AH
namespace Go.Proofs.Ythoabddfionmoaa.AH
open Go Go.RowKit
theorem putPr_has {l : List Pr} {k v : ByteArray} (e : hasPr l k = true) : putPr l ⟨k, v⟩ = l.set (kPr l k) ⟨k, v⟩ := by
  rw [List.set_eq_take_append_cons_drop, if_pos (hasPr_lt e)]
  simp [putPr, e]
theorem putPr_not {l : List Pr} {x : Pr} (e : hasPr l x.k = false) : putPr l x = l.take (kPr l x.k) ++ [x] ++ l.drop (kPr l x.k) := by
  simp [putPr, e]
theorem hasPr_key {l : List Pr} {k : ByteArray} (e : hasPr l k = true) : (l[kPr l k]'(hasPr_lt e)).k = k := by
  have hk := hasPr_lt e
  unfold hasPr at e; rw [List.getElem?_eq_getElem hk] at e; simpa using e
/-- A reply is put into its box and read from there. -/
theorem wp_fin {g : H} {q : Nat} {cs : List V} (B : Bx g q cs) (hl : cs.length = 2) (rp : Rp) {Q : V → H → Prop} (c : ∀ g', Fr [q] g g' → Q (.agg rp.en) g') :
    Wp (stN 2 g (.ptr q 0) (.agg rp.en) fun h' => (ress [(ldn 2 h' (.ptr q 0))]).map fun vs => (tupOf vs, h')) Q := by
  refine B.st (n := 2) (vs := rp.en) (ds := rp.en) rfl rfl (by omega) ?_ ?_
  · rw [List.drop_of_length_le (by omega)]; simp
  · intro g' gn B' F'
    exact Wp.r1 (B'.ldn (n := 2) rfl) rfl (c g' F')
/-- What a command leaves: the state's box, its cells. -/
abbrev Post75 (h : H) (p i1 z2 i2 o2 n2 : Nat) (d : List Pr × Rp) : V → H → Prop := fun r h' => r = .agg d.2.en ∧ Fr [p, i1] h h' ∧ ∃ z1' i1' o1', Bx h' p [.sl z1' i1' o1' d.1.length, .sl z2 i2 o2 n2] ∧ Sl d.1 h' z1' i1' o1' ∧ (i1' = i1 ∨ h.next ≤ i1')
theorem Fr.mem {S : List Nat} {a b c : H} {i : Nat} (x : Fr S a b) (y : Fr [i] b c) (k : i ∈ S ∨ a.next ≤ i) : Fr S a c := x.tr y (fun j hj => by rw [List.mem_singleton] at hj; subst hj; exact .inr k)
theorem c75 (s : Kv) (hs : s.ok) (hr : s.srt) (x : Cmd) (p : Nat) (h : H) (hk : Hok h) {z1 i1 o1 z2 i2 o2 n2 : Nat} (B : Bx h p [.sl z1 i1 o1 s.cells.length, .sl z2 i2 o2 n2]) (hn2 : n2 = s.sess.length)
    (s1 : Sl s.cells h z1 i1 o1) (own : i1 = 0 ∨ h.lo ≤ i1) (n1 : i1 ≠ p) :
    Wp (R 75 [.ptr p 0, .agg x.en] h) (Post75 h p i1 z2 i2 o2 n2 (doPr s.cells x)) := by
  subst hn2
  refine R75 rfl ?_
  rw [S75_eq]
  refine Wp.bxB hk (Fr.refl [] h) rfl ?_
  intro b g1 hb gn1 Bb1 k1 F1 F1'
  refine Wp.alB k1 F1 ?_
  intro q g2 hq gn2 Bq2 k2 F2 F2'
  have Bb2 := Bb1.fr0 F2'
  have B2 := B.fr0 F2
  have e3 : ld1 g2 (.ptr b (0 + 3)) = some (.str x.k) := Bb2.ld1 (o := 3) (by simp [Cmd.en])
  refine Wp.b (fA_ptr Bb2.ne) (Wp.b e3 ?_)
  refine Wp.bind (c62 s hs hr x.k p [] g2 k2 B2 (s1.fr0 F2)) ?_
  rintro r g ⟨rfl, F3'⟩
  have F3 := F2.trans0 F3'
  have k3 := F3'.ok k2
  have Bb := Bb2.fr0 F3'
  have Bq := Bq2.fr0 F3'
  have Bp := B2.fr0 F3'
  have t1 := s1.fr0 F3
  have lt1 := s1.lt hk
  have ltp := B.lt
  have hqn : h.next ≤ q := by omega
  have e2 : ld1 g (.ptr b (0 + 2)) = some (.int .i64 x.o) := Bb.ld1 (o := 2) (by simp [Cmd.en])
  have e3 : ld1 g (.ptr b (0 + 3)) = some (.str x.k) := Bb.ld1 (o := 3) (by simp [Cmd.en])
  have e4 : ld1 g (.ptr b (0 + 4)) = some (.str x.v) := Bb.ld1 (o := 4) (by simp [Cmd.en])
  have e5 : ld1 g (.ptr b (0 + 5)) = some (.str x.d) := Bb.ld1 (o := 5) (by simp [Cmd.en])
  have ep : ld1 g (.ptr p (0 + 0)) = some (.sl z1 i1 o1 s.cells.length) := Bp.ld1 (o := 0) (by simp)
  have np := nilC_ptr (off := 0) Bp.ne
  have fp := fA_ptr (o := 0) (off := 0) Bp.ne
  have f2 := fA_ptr (o := 2) (off := 0) Bb.ne
  have f3 := fA_ptr (o := 3) (off := 0) Bb.ne
  have f4 := fA_ptr (o := 4) (off := 0) Bb.ne
  have f5 := fA_ptr (o := 5) (off := 0) Bb.ne
  have hs1 := hs.1
  have kl := kPr_le s.cells x.k
  have F4 : Fr [p, i1] h g := F3.mono (by simp)
  have same : ∀ rp : Rp, doPr s.cells x = (s.cells, rp) → Wp (stN 2 g (.ptr q 0) (.agg rp.en) fun h' => (ress [(ldn 2 h' (.ptr q 0))]).map fun vs => (tupOf vs, h')) (Post75 h p i1 z2 i2 o2 s.sess.length (doPr s.cells x)) := by
    intro rp he
    refine wp_fin Bq rfl rp ?_
    intro g' F'
    rw [he]
    exact ⟨rfl, F4.mem F' (.inr hqn), z1, i1, o1, Bp.fr1 F' (nel (by omega)), t1.fr1 F' (nel (by omega)), .inl rfl⟩
  have set : hasPr s.cells x.k = true → doPr s.cells x = (putPr s.cells ⟨x.k, x.v⟩, ⟨0, emp⟩) → Wp (stN 1 g (.ptr i1 (o1 + kPr s.cells x.k * 2 + 1)) (.str x.v) fun h20 => (bldV [(V.int .i64 0), (V.str ⟨#[]⟩)] []).bind fun v21 => stN 2 h20 (.ptr q 0) v21 fun h' => (ress [(ldn 2 h' (.ptr q 0))]).map fun vs => (tupOf vs, h')) (Post75 h p i1 z2 i2 o2 s.sess.length (doPr s.cells x)) := by
    intro hh he
    have hlt := hasPr_lt hh
    refine Wp.stf k3 t1 (by rw [F3.1]; exact own) hlt ⟨x.k, x.v⟩ 1 (v := .str x.v) rfl rfl (Nat.le_refl 2) rfl ?_ ?_
    · show [V.str x.k, V.str x.v] = [V.str s.cells[kPr s.cells x.k].k] ++ [V.str x.v] ++ []
      rw [hasPr_key hh]; rfl
    · intro g5 gn5 k5 t5 F5'
      refine Wp.b rp3 (wp_fin (Bq.fr1 F5' (ner (by omega))) rfl _ ?_)
      intro g6 F6'
      rw [he, putPr_has hh]
      refine ⟨rfl, (F4.mem F5' (.inl (by simp))).mem F6' (.inr hqn), z1, i1, o1, ?_, t5.fr1 F6' (nel (by omega)), .inl rfl⟩
      rw [List.length_set]
      exact (Bp.fr1 F5' (Ne.symm n1)).fr1 F6' (nel (by omega))
  refine Wp.b rfl (Wp.b rfl (Wp.b f2 (Wp.b e2 (Wp.b (bin_eql _ _ _ _ _) ?_))))
  by_cases ho2 : x.o = 2
  · refine Wp.spT (by simpa using ho2) ?_
    refine Wp.on (fun hh => ?_) (fun hh => ?_)
    · have hlt := hasPr_lt hh
      have ip := (t1.pos hlt).1
      exact Wp.b np (Wp.b fp (Wp.b ep (Wp.b f4 (Wp.b e4 (Wp.b (iA_sl hlt) (Wp.b (fA_ptr ip) (set hh (by simp [doPr, ho2, hh]))))))))
    · refine Wp.b f2 (Wp.b e2 (Wp.b (bin_eql _ _ _ _ _) (Wp.spT (by simpa using ho2) (Wp.b np (Wp.b fp (Wp.b ep (Wp.b (lenL_sl _ _ _ _) (Wp.b (bin_eql _ _ _ _ _) (Wp.on (fun h40 => ?_) (fun h40 => ?_))))))))))
      · have h40 : s.cells.length = 40 := by simp at h40; omega
        exact Wp.b (rp1 4) (same ⟨4, emp⟩ (by simp [doPr, ho2, hh, h40]))
      · have h40 : ¬ s.cells.length = 40 := by simp at h40; omega
        have hd : doPr s.cells x = (putPr s.cells ⟨x.k, x.v⟩, ⟨0, emp⟩) := by simp [doPr, ho2, hh, h40]
        refine Wp.b f2 (Wp.b e2 (Wp.b (bin_eql _ _ _ _ _) (Wp.onT (by simpa using ho2) ?_)))
        refine Wp.b np (Wp.b fp (Wp.b ep (Wp.b f3 (Wp.b e3 (Wp.b f4 (Wp.b e4 (Wp.b (a := .agg (Pr.en ⟨x.k, x.v⟩)) rfl ?_)))))))
        refine Wp.bs k3 F3 [(⟨x.k, x.v⟩ : Pr)] rfl rfl rfl ?_
        intro b5 g5 hb5 gn5 s5 k5 b50 blo5 F5 F5'
        have hg : b < g.next := Bb.lt
        rw [pdV_fr F5' Bb.ne Bb.lt (by simp), pdV_fr F5' Bb.ne Bb.lt (by simp), pdV_fr F5' Bp.ne Bp.lt (by simp)]
        have t5 := t1.fr0 F5'
        obtain ⟨g6, e6, F6', t6, gn6⟩ := insP_sl (bytes := 32) (i := kPr s.cells x.k) k5 t5 (by rw [F5'.1, F3.1]; exact own) s5 (by simp) (by have := t1.lt k3; omega) blo5 (by decide) kl (by simp; omega) (by simp; omega)
        have w6 : R 92 [.sl z1 i1 o1 s.cells.length, .int .i64 (kPr s.cells x.k), .sl (Enc.sz Pr) b5 0 [(⟨x.k, x.v⟩ : Pr)].length] g5 = some (.sl (Enc.sz Pr) g5.next 0 (s.cells.take (kPr s.cells x.k) ++ [(⟨x.k, x.v⟩ : Pr)] ++ s.cells.drop (kPr s.cells x.k)).length, g6) := run_prim (p := insP 2 32) rfl e6
        refine Wp.b w6 ?_
        have F56 : Fr [i1] g g6 := (F5'.mono (by simp)).mem F6' (.inl (by simp))
        have bi : b ≠ i1 := ner (by omega)
        rw [pdV_fr F56 Bb.ne Bb.lt (nil1 bi), pdV_fr F56 Bb.ne Bb.lt (nil1 bi)]
        refine Wp.b np (Wp.b fp ?_)
        have Bp6 := Bp.fr1 F56 (Ne.symm n1)
        refine Bp6.st (n := 1) (vs := [.sl (Enc.sz Pr) g5.next 0 (s.cells.take (kPr s.cells x.k) ++ [(⟨x.k, x.v⟩ : Pr)] ++ s.cells.drop (kPr s.cells x.k)).length]) (ds := [.sl (Enc.sz Pr) g5.next 0 (s.cells.take (kPr s.cells x.k) ++ [(⟨x.k, x.v⟩ : Pr)] ++ s.cells.drop (kPr s.cells x.k)).length, .sl z2 i2 o2 s.sess.length]) rfl rfl (by simp) rfl ?_
        intro g7 gn7 B7 F7'
        have hg5 : q < g5.next := by have := Bq.lt; omega
        have pg5 : p < g5.next := by omega
        have Bq7 := (Bq.fr1 F56 (ner (by omega))).fr1 F7' (ner (by omega))
        refine Wp.b rp3 (wp_fin Bq7 rfl _ ?_)
        intro g8 F8'
        rw [hd, putPr_not (x := ⟨x.k, x.v⟩) (by simpa using hh)]
        refine ⟨rfl, ((F4.mem F56 (.inl (by simp))).mem F7' (.inl (by simp))).mem F8' (.inr hqn), _, g5.next, _, B7.fr1 F8' (nel (by omega)), (t6.fr1 F7' (ner pg5)).fr1 F8' (ner hg5), .inr (by omega)⟩
  refine Wp.spF (by simpa using ho2) (Wp.b f2 (Wp.b e2 (Wp.b (bin_eql _ _ _ _ _) (Wp.spF (by simpa using ho2) (Wp.b f2 (Wp.b e2 (Wp.b (bin_eql _ _ _ _ _) (Wp.onF (by simpa using ho2) (Wp.b rfl ?_)))))))))
  refine Wp.on (fun hh => ?_) (fun hh => ?_)
  · have hh : hasPr s.cells x.k = false := by simpa using hh
    exact Wp.b (rp1 1) (same ⟨1, emp⟩ (by simp [doPr, ho2, hh]))
  have hh : hasPr s.cells x.k = true := by simpa using hh
  have hlt := hasPr_lt hh
  have ip := (t1.pos hlt).1
  have ev : ld1 g (.ptr i1 (o1 + kPr s.cells x.k * 2 + 1)) = some (.str (valPr s.cells x.k)) := by
    have eb : bload (g.blk i1) (o1 + kPr s.cells x.k * 2 + 1) 1 = some [V.str s.cells[kPr s.cells x.k].v] := bload_sub (t1.get hlt) 1 1 (by decide)
    rw [valPr_at hh, ld1_ptr, eb]; rfl
  rw [S75_j12_eq]
  refine Wp.b np (Wp.b fp (Wp.b ep (Wp.b (iA_sl hlt) (Wp.b (fA_ptr ip) (Wp.b ev (Wp.b f2 (Wp.b e2 (Wp.b (bin_eql _ _ _ _ _) (Wp.on (fun ho1 => ?_) (fun ho1 => ?_))))))))))
  · have ho1 : x.o = 1 := by simpa using ho1
    exact Wp.b (rp0 0 _) (same ⟨0, valPr s.cells x.k⟩ (by simp [doPr, ho1, hh]))
  have ho1 : ¬ x.o = 1 := by simpa using ho1
  refine Wp.b f2 (Wp.b e2 (Wp.b (bin_eql _ _ _ _ _) (Wp.on (fun ho3 => ?_) (fun ho3 => ?_))))
  · have ho3 : x.o = 3 := by simpa using ho3
    have hd : doPr s.cells x = (s.cells.take (kPr s.cells x.k) ++ s.cells.drop (kPr s.cells x.k + 1), ⟨0, valPr s.cells x.k⟩) := by simp [doPr, ho3, hh]
    refine Wp.b np (Wp.b fp (Wp.b ep (Wp.b (bin_add _ _ _ _ _) ?_)))
    rw [inc64 (by omega)]
    obtain ⟨g6, e6, F6', t6, gn6⟩ := delP_sl (i := kPr s.cells x.k) (j := kPr s.cells x.k + 1) k3 t1 (by rw [F3.1]; exact own) (by omega) (by omega)
    have w6 : R 93 [.sl z1 i1 o1 s.cells.length, .int .i64 (kPr s.cells x.k), .int .i64 ((kPr s.cells x.k + 1 : Nat) : Int)] g = some (.sl (Enc.sz Pr) g.next 0 (s.cells.take (kPr s.cells x.k) ++ s.cells.drop (kPr s.cells x.k + 1)).length, g6) := run_prim (p := delP 2) rfl e6
    refine Wp.b w6 (Wp.b np (Wp.b fp ?_))
    have Bp6 := Bp.fr1 F6' (Ne.symm n1)
    refine Bp6.st (n := 1) (vs := [.sl (Enc.sz Pr) g.next 0 (s.cells.take (kPr s.cells x.k) ++ s.cells.drop (kPr s.cells x.k + 1)).length]) (ds := [.sl (Enc.sz Pr) g.next 0 (s.cells.take (kPr s.cells x.k) ++ s.cells.drop (kPr s.cells x.k + 1)).length, .sl z2 i2 o2 s.sess.length]) rfl rfl (by simp) rfl ?_
    intro g7 gn7 B7 F7'
    have hg5 : q < g.next := Bq.lt
    have pg5 : p < g.next := Bp.lt
    have Bq7 := (Bq.fr1 F6' (ner (by omega))).fr1 F7' (ner (by omega))
    refine Wp.b (rp0 0 _) (wp_fin Bq7 rfl _ ?_)
    intro g8 F8'
    rw [hd]
    exact ⟨rfl, ((F4.mem F6' (.inl (by simp))).mem F7' (.inl (by simp))).mem F8' (.inr hqn), _, g.next, _, B7.fr1 F8' (nel (by omega)), (t6.fr1 F7' (ner pg5)).fr1 F8' (ner hg5), .inr (by omega)⟩
  have ho3 : ¬ x.o = 3 := by simpa using ho3
  refine Wp.b f5 (Wp.b e5 (Wp.b (str_neq _ _ _ _) (Wp.on (fun hv => ?_) (fun hv => ?_))))
  · have hv : ¬ valPr s.cells x.k = x.d := by simpa using hv
    exact Wp.b (rp0 3 _) (same ⟨3, valPr s.cells x.k⟩ (by simp [doPr, ho1, ho2, ho3, hh, hv]))
  · have hv : valPr s.cells x.k = x.d := by simpa using hv
    exact Wp.b np (Wp.b fp (Wp.b ep (Wp.b f4 (Wp.b e4 (Wp.b (iA_sl hlt) (Wp.b (fA_ptr ip) (set hh (by simp [doPr, ho1, ho2, ho3, hh, hv]))))))))
end Go.Proofs.Ythoabddfionmoaa.AH
namespace Go.Proofs.Ythoabddfionmoaa.AH
open Go Go.RowKit
/-- What a command leaves: the state's box, its cells, its sessions, all of its own. -/
abbrev Own49 (h h' : H) (p i1 i2 : Nat) (s' : Kv) : Prop := ∃ z1' i1' o1' z2' i2' o2', Bx h' p [.sl z1' i1' o1' s'.cells.length, .sl z2' i2' o2' s'.sess.length] ∧ Sl s'.cells h' z1' i1' o1' ∧ Sl s'.sess h' z2' i2' o2' ∧ (i1' = i1 ∨ h.next ≤ i1') ∧ (i2' = i2 ∨ h.next ≤ i2') ∧ (i1' ≠ i2' ∨ i1' = 0)
theorem j12_49 {h g : H} (x : Cmd) (cells : List Pr) (L : List Se) (hs : Kv.ok ⟨cells, L⟩) (hr : Kv.srt ⟨cells, L⟩) (k : Nat) (hkl : k < L.length) (hx : L[k].i = x.s) (p d q : Nat) (hk0 : Hok h) (hk : Hok g) {z1 i1 o1 z2 i2 o2 j1 j2 : Nat}
    (F : Fr [p, j1, j2] h g) (Bp : Bx g p [.sl z1 i1 o1 cells.length, .sl z2 i2 o2 L.length]) (Bd : Bx g d x.en) (Bq : Bx g q [(V.int .i64 0), (V.str ⟨#[]⟩)]) (hdp : h.next ≤ d) (hqp : d < q) (hpn : p < h.next)
    (s1 : Sl cells g z1 i1 o1) (s2 : Sl L g z2 i2 o2) (own1 : i1 = 0 ∨ g.lo ≤ i1) (own2 : g.lo ≤ i2) (n1 : i1 ≠ p) (n2 : i2 ≠ p) (n12 : i2 ≠ i1) (f1 : i1 = j1 ∨ h.next ≤ i1) (f2 : i2 = j2 ∨ h.next ≤ i2) (nd1 : i1 ≠ d ∧ i1 ≠ q) (nd2 : i2 ≠ d ∧ i2 ≠ q) :
    Wp (S49_j12 R (.ptr p 0) (.ptr d 0) (.ptr q 0) (.int .i64 k) g) fun r h' => r = .agg (doPr cells x).2.en ∧ Fr [p, j1, j2] h h' ∧ Own49 h h' p j1 j2 ⟨(doPr cells x).1, L.set k ⟨x.s, x.n, (doPr cells x).2⟩⟩ := by
  rw [S49_j12_eq]
  have hgn := F.2.1
  refine Wp.b (Bd.ldn (n := 6) rfl) ?_
  refine Wp.bind (c75 ⟨cells, L⟩ hs hr x p g hk Bp rfl s1 own1 n1) ?_
  rintro r g1 ⟨rfl, F1, z1', i1', o1', Bp1, t1, fr1⟩
  have k1 := F1.ok hk
  have h1n := F1.2.1
  have Bd1 := Bd.fr F1 (by simp; exact ⟨ner (by omega), Ne.symm nd1.1⟩)
  have Bq1 := Bq.fr F1 (by simp; exact ⟨ner (by omega), Ne.symm nd1.2⟩)
  have lt2 := s2.lt hk
  have t2 := s2.fr F1 (by simp; exact ⟨n2, n12⟩)
  have ln1 := t1.lt k1
  have ni : i1' ≠ i2 ∧ i1' ≠ d ∧ i1' ≠ q ∧ i1' ≠ p := by
    have := Bd.lt; have := Bq.lt; have := Bp.lt
    rcases fr1 with r | r
    · rw [r]; exact ⟨Ne.symm n12, nd1.1, nd1.2, n1⟩
    · exact ⟨ner (by omega), ner (by omega), ner (by omega), ner (by omega)⟩
  have FA : Fr [p, j1, j2] h g1 := F.tr F1 (by
    intro j hj
    rcases List.mem_cons.1 hj with rfl | hj
    · exact .inr (.inl (by simp))
    · rw [List.mem_singleton] at hj
      subst hj
      rcases f1 with r | r
      · exact .inr (.inl (by rw [r]; simp))
      · exact .inr (.inr r))
  have fr1' : i1' = j1 ∨ h.next ≤ i1' := by
    rcases fr1 with r | r
    · rw [r]; exact f1
    · exact .inr (by omega)
  refine Wp.alB k1 FA ?_
  intro e g2 he gn2 Be2 k2 F2 F2'
  refine Be2.st (n := 2) (vs := (doPr cells x).2.en) (ds := (doPr cells x).2.en) rfl rfl (by simp) rfl ?_
  intro g3 gn3 Be3 F3'
  have hen : h.next ≤ e := by omega
  have F3 := F2.mem F3' (.inr hen)
  have k3 := F3'.ok k2
  have hdl := Bd1.lt
  have hql := Bq1.lt
  have hpl := Bp1.lt
  have l2' := t2.lt k1
  have Bp3 := (Bp1.fr0 F2').fr1 F3' (nel (by omega))
  have Bd3 := (Bd1.fr0 F2').fr1 F3' (nel (by omega))
  have Bq3 := (Bq1.fr0 F2').fr1 F3' (nel (by omega))
  have t3 := (t2.fr0 F2').fr1 F3' (nel (by omega))
  have u3 := (t1.fr0 F2').fr1 F3' (nel (by omega))
  have ip := (t3.pos hkl).1
  have np := nilC_ptr (off := 0) Bp3.ne
  have fp := fA_ptr (o := 1) (off := 0) Bp3.ne
  have e1 : ld1 g3 (.ptr p (0 + 1)) = some (.sl z2 i2 o2 L.length) := Bp3.ld1 (o := 1) (by simp)
  have e2 : ld1 g3 (.ptr d (0 + 1)) = some (.int .i64 x.n) := Bd3.ld1 (o := 1) (by simp [Cmd.en])
  have e3 := Be3.ldn (n := 2) rfl
  have lo3 : g3.lo ≤ i2 := by rw [F3'.1, F2'.1, F1.1]; exact own2
  refine Wp.b np (Wp.b fp (Wp.b e1 (Wp.b np (Wp.b fp (Wp.b e1 (Wp.b (fA_ptr Bd3.ne) (Wp.b e2 (Wp.b e3 (Wp.b (iA_sl hkl) (Wp.b (fA_ptr ip) ?_))))))))))
  refine Wp.stf k3 t3 (.inr lo3) hkl ⟨x.s, x.n, L[k].r⟩ 1 (v := .int .i64 x.n) rfl rfl (Nat.le_of_ble_eq_true rfl) rfl ?_ ?_
  · show [V.int .i64 x.s, V.int .i64 x.n, V.int .i64 L[k].r.c, V.str L[k].r.v] = [V.int .i64 L[k].i] ++ [V.int .i64 x.n] ++ [V.int .i64 L[k].r.c, V.str L[k].r.v]
    rw [hx]; rfl
  intro g4 gn4 k4 t4 F4'
  rw [pdV_fr F4' Be3.ne Be3.lt (nil1 (ner (by omega)))]
  have Be4 := Be3.fr1 F4' (ner (by omega))
  have hk4 : k < (L.set k ⟨x.s, x.n, L[k].r⟩).length := by rw [List.length_set]; exact hkl
  refine Wp.b (iA_sl hkl) (Wp.b (fA_ptr ip) ?_)
  refine Wp.stf k4 t4 (.inr (by rw [F4'.1]; exact lo3)) hk4 ⟨x.s, x.n, (doPr cells x).2⟩ 2 (v := .agg (doPr cells x).2.en) (vs := (doPr cells x).2.en) rfl rfl (Nat.le_of_ble_eq_true rfl) rfl ?_ ?_
  · rw [List.getElem_set_self]; rfl
  intro g5 gn5 k5 t5 F5'
  rw [List.set_set] at t5
  have Be5 := Be4.fr1 F5' (ner (by omega))
  refine Wp.b (Be5.ldn (n := 2) rfl) ?_
  have Bq5 := (Bq3.fr1 F4' (Ne.symm nd2.2)).fr1 F5' (Ne.symm nd2.2)
  have Bp5 := (Bp3.fr1 F4' (Ne.symm n2)).fr1 F5' (Ne.symm n2)
  have u5 := (u3.fr1 F4' ni.1).fr1 F5' ni.1
  have m2 : i2 ∈ [p, j1, j2] ∨ h.next ≤ i2 := by
    rcases f2 with r | r
    · exact .inl (by rw [r]; simp)
    · exact .inr r
  refine wp_fin Bq5 rfl _ ?_
  intro g6 F6'
  refine ⟨rfl, ((F3.mem F4' m2).mem F5' m2).mem F6' (.inr (by omega)), z1', i1', o1', z2, i2, o2, ?_, u5.fr1 F6' ni.2.2.1, t5.fr1 F6' nd2.2, fr1', f2, .inl ni.1⟩
  rw [List.length_set]
  exact Bp5.fr1 F6' (nel (by omega))
theorem c49 (s : Kv) (hs : s.ok) (hr : s.srt) (x : Cmd) (p : Nat) (h : H) (hk : Hok h) {z1 i1 o1 z2 i2 o2 : Nat} (B : Bx h p [.sl z1 i1 o1 s.cells.length, .sl z2 i2 o2 s.sess.length])
    (s1 : Sl s.cells h z1 i1 o1) (s2 : Sl s.sess h z2 i2 o2) (own1 : i1 = 0 ∨ h.lo ≤ i1) (own2 : i2 = 0 ∨ h.lo ≤ i2) (n1 : i1 ≠ p) (n2 : i2 ≠ p) (n12 : i1 ≠ i2 ∨ i1 = 0) :
    Wp (R 49 [.ptr p 0, .agg x.en] h) fun r h' => r = .agg (applySt s x).2.en ∧ Fr [p, i1, i2] h h' ∧ Own49 h h' p i1 i2 (applySt s x).1 := by
  refine R49 rfl ?_
  rw [S49_eq]
  refine Wp.bxB hk (Fr.refl [] h) rfl ?_
  intro d g1 hd gn1 Bd1 k1 F1 F1'
  refine Wp.alB k1 F1 ?_
  intro q g2 hq gn2 Bq2 k2 F2 F2'
  have Bd2 := Bd1.fr0 F2'
  refine Wp.b (Bd2.ldn (n := 6) rfl) ?_
  obtain ⟨g3, e3, F3'⟩ := c39 x g2 k2
  have k3 := F3'.ok k2
  have F3 := F2.trans0 F3'
  refine Wp.b e3 (Wp.b rfl ?_)
  have lt1 := s1.lt hk
  have lt2 := s2.lt hk
  have ltp := B.lt
  have hs1 := hs.1
  have hs2 := hs.2
  have kl := kSe_le s.sess x.s
  have same : ∀ (g : H) (rp : Rp), Fr [] g3 g → applySt s x = (s, rp) → Wp (stN 2 g (.ptr q 0) (.agg rp.en) fun h' => (ress [(ldn 2 h' (.ptr q 0))]).map fun vs => (tupOf vs, h')) (fun r h' => r = .agg (applySt s x).2.en ∧ Fr [p, i1, i2] h h' ∧ Own49 h h' p i1 i2 (applySt s x).1) := by
    intro g rp Fg he
    refine wp_fin ((Bq2.fr0 F3').fr0 Fg) rfl rp ?_
    intro g' F'
    have FF := (F3.trans0 Fg).tr1 F' (by omega)
    rw [he]
    exact ⟨rfl, FF.mono (by simp), z1, i1, o1, z2, i2, o2, B.fr0 FF, s1.fr0 FF, s2.fr0 FF, .inl rfl, .inl rfl, n12⟩
  refine Wp.on (fun ok => ?_) (fun ok => ?_)
  · have ok : okC x = false := by simpa using ok
    exact Wp.b (rp1 4) (same g3 ⟨4, emp⟩ (Fr.refl _ _) (by simp [applySt, ok]))
  have ok : okC x = true := by simpa using ok
  have Bd3 := Bd2.fr0 F3'
  have e0 : ld1 g3 (.ptr d (0 + 0)) = some (.int .i64 x.s) := Bd3.ld1 (o := 0) (by simp [Cmd.en])
  refine Wp.b (fA_ptr Bd3.ne) (Wp.b e0 ?_)
  refine Wp.bind (c73 s hs hr x.s p [] g3 k3 (B.fr0 F3) (s2.fr0 F3)) ?_
  rintro r g ⟨rfl, F4'⟩
  have F4 := F3.trans0 F4'
  have k4 := F4'.ok k3
  have Bp := B.fr0 F4
  have Bd := Bd3.fr0 F4'
  have Bq := (Bq2.fr0 F3').fr0 F4'
  have t1 := s1.fr0 F4
  have t2 := s2.fr0 F4
  have np := nilC_ptr (off := 0) Bp.ne
  have fp := fA_ptr (o := 1) (off := 0) Bp.ne
  have fd := fA_ptr (o := 1) (off := 0) Bd.ne
  have fd0 := fA_ptr (o := 0) (off := 0) Bd.ne
  have ep : ld1 g (.ptr p (0 + 1)) = some (.sl z2 i2 o2 s.sess.length) := Bp.ld1 (o := 1) (by simp)
  have ed : ld1 g (.ptr d (0 + 1)) = some (.int .i64 x.n) := Bd.ld1 (o := 1) (by simp [Cmd.en])
  have ed0 : ld1 g (.ptr d (0 + 0)) = some (.int .i64 x.s) := Bd.ld1 (o := 0) (by simp [Cmd.en])
  have hgn := F4.2.1
  refine Wp.b rfl (Wp.b rfl (Wp.b rfl ?_))
  by_cases hh : hasSe s.sess x.s = false
  · refine Wp.spT (by simpa using hh) (Wp.b np (Wp.b fp (Wp.b ep (Wp.b (lenL_sl _ _ _ _) (Wp.b (bin_eql _ _ _ _ _) (Wp.on (fun h12 => ?_) (fun h12 => ?_)))))))
    · have h12 : s.sess.length = 12 := by simp at h12; omega
      exact Wp.b (rp1 4) (same g ⟨4, emp⟩ F4' (by simp [applySt, hh, h12]))
    have h12 : ¬ s.sess.length = 12 := by simp at h12; omega
    refine Wp.spF hh (Wp.spF hh (Wp.b rfl (Wp.onT (by simpa using hh) ?_)))
    have he : applySt s x = (⟨(doPr s.cells x).1, s.sess.take (kSe s.sess x.s) ++ [⟨x.s, x.n, (doPr s.cells x).2⟩] ++ s.sess.drop (kSe s.sess x.s)⟩, (doPr s.cells x).2) := by simp [applySt, ok, hh, h12]
    refine Wp.b np (Wp.b fp (Wp.b ep (Wp.b fd0 (Wp.b ed0 (Wp.b (a := .agg (Se.en ⟨x.s, 0, ⟨0, emp⟩⟩)) rfl ?_)))))
    refine Wp.bs k4 F4 [(⟨x.s, 0, ⟨0, emp⟩⟩ : Se)] rfl rfl rfl ?_
    intro b5 g5 hb5 gn5 s5 k5 b50 blo5 F5 F5'
    rw [pdV_fr F5' Bd.ne Bd.lt (by simp), pdV_fr F5' Bp.ne Bp.lt (by simp)]
    obtain ⟨g6, e6, F6', t6, gn6⟩ := insP_sl (bytes := 40) (i := kSe s.sess x.s) k5 (t2.fr0 F5') (by rw [F5.1]; exact own2) s5 (by simp) (by have := t2.lt k4; omega) blo5 (by decide) kl (by simp; omega) (by simp; omega)
    have w6 : R 74 [.sl z2 i2 o2 s.sess.length, .int .i64 (kSe s.sess x.s), .sl (Enc.sz Se) b5 0 [(⟨x.s, 0, ⟨0, emp⟩⟩ : Se)].length] g5 = some (.sl (Enc.sz Se) g5.next 0 (s.sess.take (kSe s.sess x.s) ++ [(⟨x.s, 0, ⟨0, emp⟩⟩ : Se)] ++ s.sess.drop (kSe s.sess x.s)).length, g6) := run_prim (p := insP 4 40) rfl e6
    refine Wp.b w6 ?_
    have F56 : Fr [i2] g g6 := (F5'.mono (by simp)).mem F6' (.inl (by simp))
    rw [pdV_fr F56 Bd.ne Bd.lt (nil1 (ner (by omega)))]
    refine Wp.b np (Wp.b fp ?_)
    have Bp6 := Bp.fr1 F56 (Ne.symm n2)
    refine Bp6.st (n := 1) (vs := [.sl (Enc.sz Se) g5.next 0 (s.sess.take (kSe s.sess x.s) ++ [(⟨x.s, 0, ⟨0, emp⟩⟩ : Se)] ++ s.sess.drop (kSe s.sess x.s)).length]) (ds := [.sl z1 i1 o1 s.cells.length, .sl (Enc.sz Se) g5.next 0 (s.sess.take (kSe s.sess x.s) ++ [(⟨x.s, 0, ⟨0, emp⟩⟩ : Se)] ++ s.sess.drop (kSe s.sess x.s)).length]) rfl rfl (by simp) rfl ?_
    intro g7 gn7 B7 F7'
    have hpl := Bp.lt
    have hdl := Bd.lt
    have hql := Bq.lt
    have hlen : (s.sess.take (kSe s.sess x.s) ++ [(⟨x.s, 0, ⟨0, emp⟩⟩ : Se)] ++ s.sess.drop (kSe s.sess x.s)).length = s.sess.length + 1 := by simp; omega
    have htl : (s.sess.take (kSe s.sess x.s)).length = kSe s.sess x.s := by simp; omega
    have hsr : Kv.srt ⟨s.cells, s.sess.take (kSe s.sess x.s) ++ [(⟨x.s, 0, ⟨0, emp⟩⟩ : Se)] ++ s.sess.drop (kSe s.sess x.s)⟩ := by
      have := putSe_srt (s := s) hr.2 x ⟨x.s, 0, ⟨0, emp⟩⟩ rfl
      rw [hh] at this
      exact ⟨hr.1, this⟩
    have t16 : Sl s.cells g6 z1 i1 o1 := by
      rcases n12 with r | r
      · exact (t1.fr0 F5').fr1 F6' r
      · rcases t1 with t1 | t1
        · exact .inl t1
        · exact absurd r t1.1
    have hget : ∀ (hq : kSe s.sess x.s < (s.sess.take (kSe s.sess x.s) ++ [(⟨x.s, 0, ⟨0, emp⟩⟩ : Se)] ++ s.sess.drop (kSe s.sess x.s)).length), (s.sess.take (kSe s.sess x.s) ++ [(⟨x.s, 0, ⟨0, emp⟩⟩ : Se)] ++ s.sess.drop (kSe s.sess x.s))[kSe s.sess x.s].i = x.s := by
      intro hq
      have : (s.sess.take (kSe s.sess x.s) ++ [(⟨x.s, 0, ⟨0, emp⟩⟩ : Se)] ++ s.sess.drop (kSe s.sess x.s))[kSe s.sess x.s]? = some ⟨x.s, 0, ⟨0, emp⟩⟩ := by
        rw [List.append_assoc, List.getElem?_append_right (by omega), htl]; simp
      rw [List.getElem?_eq_getElem hq] at this
      rw [Option.some.inj this]
    have F57 : Fr [p, i1, i2] h g7 := ((F4.mono (by simp)).tr F56 (by simp)).mem F7' (.inl (by simp))
    have lo6 : g7.lo = h.lo := by rw [F7'.1, F56.1, F4.1]
    refine (j12_49 (h := h) (g := g7) x s.cells (s.sess.take (kSe s.sess x.s) ++ [(⟨x.s, 0, ⟨0, emp⟩⟩ : Se)] ++ s.sess.drop (kSe s.sess x.s)) ⟨hs1, by show _ ≤ 12; rw [hlen]; omega⟩ hsr (kSe s.sess x.s) (by rw [hlen]; omega) (hget _) p d q hk (F57.ok hk) F57 B7
      ((Bd.fr1 F56 (ner (by omega))).fr1 F7' (ner (by omega))) ((Bq.fr1 F56 (ner (by omega))).fr1 F7' (ner (by omega))) (by omega) (by omega) ltp (t16.fr1 F7' n1) (t6.fr1 F7' (ner (by omega)))
      (by rw [lo6]; exact own1) (by rw [lo6]; have := hk.2; omega) n1 (ner (by omega)) (ner (by omega)) (.inl rfl) (.inr (by omega)) ⟨nel (by omega), nel (by omega)⟩ ⟨ner (by omega), ner (by omega)⟩).mono ?_
    rintro r h' ⟨rfl, FF, OO⟩
    rw [he]
    refine ⟨rfl, FF, ?_⟩
    have hset : (s.sess.take (kSe s.sess x.s) ++ [(⟨x.s, 0, ⟨0, emp⟩⟩ : Se)] ++ s.sess.drop (kSe s.sess x.s)).set (kSe s.sess x.s) ⟨x.s, x.n, (doPr s.cells x).2⟩ = s.sess.take (kSe s.sess x.s) ++ [⟨x.s, x.n, (doPr s.cells x).2⟩] ++ s.sess.drop (kSe s.sess x.s) := by
      rw [List.append_assoc, List.set_append_right _ _ (by omega), htl, Nat.sub_self]; simp
    rw [hset] at OO
    exact OO
  have hh : hasSe s.sess x.s = true := by simpa using hh
  have hlt := hasSe_lt hh
  have ip := (t2.pos hlt).1
  have hi : iA 4 (.sl z2 i2 o2 s.sess.length) (.int .i64 (kSe s.sess x.s)) = some (.ptr i2 (o2 + kSe s.sess x.s * 4)) := iA_sl hlt
  have q1 : ld1 g (.ptr i2 (o2 + kSe s.sess x.s * 4 + 1)) = some (.int .i64 (seAt s.sess x.s).l) := by
    have eb : bload (g.blk i2) (o2 + kSe s.sess x.s * 4 + 1) 1 = some [V.int .i64 s.sess[kSe s.sess x.s].l] := bload_sub (t2.get hlt) 1 1 (by decide)
    rw [ld1_ptr, eb, seAt_at hh]; rfl
  have q2 : ldn 2 g (.ptr i2 (o2 + kSe s.sess x.s * 4 + 2)) = some (.agg (seAt s.sess x.s).r.en) := by
    have eb : bload (g.blk i2) (o2 + kSe s.sess x.s * 4 + 2) 2 = some s.sess[kSe s.sess x.s].r.en := bload_sub (t2.get hlt) 2 2 (by decide)
    rw [ldn_ptr, eb, seAt_at hh]; rfl
  refine Wp.spF (by simpa using hh) (Wp.spT hh (Wp.b fd (Wp.b ed (Wp.b np (Wp.b fp (Wp.b ep (Wp.b hi (Wp.b (fA_ptr ip) (Wp.b q1 (Wp.b (bin_eql _ _ _ _ _) (Wp.on (fun hl => ?_) (fun hl => ?_))))))))))))
  · have hl : x.n = (seAt s.sess x.s).l := by simpa using hl
    exact Wp.b np (Wp.b fp (Wp.b ep (Wp.b hi (Wp.b (fA_ptr ip) (Wp.b q2 (same g _ F4' (by simp [applySt, ok, hh, hl])))))))
  have hl : ¬ x.n = (seAt s.sess x.s).l := by simpa using hl
  have hl2 : ¬ (seAt s.sess x.s).l = x.n := fun e => hl e.symm
  refine Wp.spT hh (Wp.b fd (Wp.b ed (Wp.b np (Wp.b fp (Wp.b ep (Wp.b hi (Wp.b (fA_ptr ip) (Wp.b q1 (Wp.b (bin_lss _ _ _ _ _) (Wp.on (fun hg => ?_) (fun hg => ?_)))))))))))
  · have hg : x.n < (seAt s.sess x.s).l := by simpa using hg
    exact Wp.b (rp1 2) (same g ⟨2, emp⟩ F4' (by simp [applySt, ok, hh, hl2, hg]))
  have hg : ¬ x.n < (seAt s.sess x.s).l := by simpa using hg
  refine Wp.b rfl (Wp.onF (by simpa using hh) ?_)
  have he : applySt s x = (⟨(doPr s.cells x).1, s.sess.set (kSe s.sess x.s) ⟨x.s, x.n, (doPr s.cells x).2⟩⟩, (doPr s.cells x).2) := by
    rw [List.set_eq_take_append_cons_drop, if_pos hlt]
    simp [applySt, ok, hh, hl2, hg]
  have hx : s.sess[kSe s.sess x.s].i = x.s := by
    have e := hh
    unfold hasSe at e; rw [List.getElem?_eq_getElem hlt] at e; simpa using e
  have n12' : i2 ≠ i1 := by
    rcases n12 with r | r
    · exact Ne.symm r
    · rw [r]; exact ip
  have hdl := Bd.lt
  have hql := Bq.lt
  rw [he]
  exact (j12_49 (h := h) (g := g) x s.cells s.sess hs hr (kSe s.sess x.s) hlt hx p d q hk k4 (F4.mono (by simp)) Bp Bd Bq (by omega) (by omega) ltp t1 t2 (by rw [F4.1]; exact own1) (by rw [F4.1]; exact own2.resolve_left ip) n1 n2 n12' (.inl rfl) (.inl rfl) ⟨nel (by omega), nel (by omega)⟩ ⟨nel (by omega), nel (by omega)⟩)
end Go.Proofs.Ythoabddfionmoaa.AH
namespace Go.Proofs.Ythoabddfionmoaa.AH
open Go Go.RowKit
theorem at62 (st : Kv) (hs : st.ok) (hr : st.srt) (x : ByteArray) {h0 g : H} {L : List (Nat × List V)} (s : Mm h0 g L) (ix : Nat) {p : Nat} {v1 v2 : V} (hx : L[ix]? = some (p, [v1, v2])) (p0 : p ≠ 0) (r1 : RV g v1 st.cells) :
    Wp (R 62 [.ptr p 0, .str x] g) fun r g' => r = .tup [.int .i64 (kPr st.cells x), .bool (hasPr st.cells x)] ∧ Fr [] g g' := by
  refine R62 rfl ?_
  rw [S62_eq]
  have e1 := s.ld1 ix hx p0 0 rfl
  repeat (first
   | ((with_reducible refine Wp.gb ?_); refine Wp.b (by first | (with_reducible first | exact fA_p (by assumption) | exact fA_o (by assumption) | exact nilC_ptr (by assumption) | exact bin_lss .. | exact bin_leq .. | exact bin_gtr .. | exact bin_geq .. | exact bin_eql .. | exact bin_neq .. | exact bin_add .. | exact bin_sub .. | exact bin_mul .. | exact str_eql .. | exact str_neq .. | exact str_lss .. | exact str_gtr .. | exact str_geq .. | exact str_leq .. | exact not_bool .. | exact lenS_str .. | assumption) | exact (show extV (.tup _) _ = some _ from rfl) | exact s.ld1 0 rfl (by assumption) _ rfl | exact s.ld1 1 rfl (by assumption) _ rfl | exact s.ld1 2 rfl (by assumption) _ rfl | exact s.ld1 3 rfl (by assumption) _ rfl | exact s.ld1 4 rfl (by assumption) _ rfl | exact s.ld1 5 rfl (by assumption) _ rfl | exact s.ld1 6 rfl (by assumption) _ rfl | exact s.ld1 7 rfl (by assumption) _ rfl | exact s.ld1 8 rfl (by assumption) _ rfl | exact s.ld1 9 rfl (by assumption) _ rfl | exact s.ld1 10 rfl (by assumption) _ rfl | exact s.ld1 11 rfl (by assumption) _ rfl | exact bload_ld1 (by assumption) _ rfl | exact bload_ldn (by assumption) _ _ (Nat.le_refl _) | exact (show bldV _ _ = some _ from rfl) | ((first | apply s.ldn 0 rfl | apply s.ldn 1 rfl | apply s.ldn 2 rfl | apply s.ldn 3 rfl | apply s.ldn 4 rfl | apply s.ldn 5 rfl | apply s.ldn 6 rfl | apply s.ldn 7 rfl | apply s.ldn 8 rfl | apply s.ldn 9 rfl | apply s.ldn 10 rfl | apply s.ldn 11 rfl); (· assumption); (· first | exact Nat.le_refl _ | decide | (simp; done)); (· rfl))) ?_)
   | (with_reducible first | refine Wp.onT (by assumption) ?_ | refine Wp.onF (by assumption) ?_ | refine Wp.spT (by assumption) ?_ | refine Wp.spF (by assumption) ?_)
   | ((with_reducible refine Wp.gbx ?_); refine Wp.box s rfl fun _p _g _p0 _F s => ?_)
   | ((with_reducible refine Wp.gal ?_); refine Wp.alo s fun _p _g _p0 _F s => ?_))
  have := hs.1
  obtain ⟨z, id, off, rfl, sl⟩ := r1
  refine Wp.bind (c80 st.cells (by omega) x (mono_of hr.1 (fun a => sLt a.k x = true) (fun a b hab hb => sLt_trans hab hb)) z id off g s.k sl) ?_
  rintro r h' ⟨rfl, F⟩
  exact Wp.b rfl (Wp.b rfl (Wp.r2 rfl rfl rfl rfl ⟨rfl, F⟩))
theorem at73 (st : Kv) (hs : st.ok) (hr : st.srt) (x : Int) {h0 g : H} {L : List (Nat × List V)} (s : Mm h0 g L) (ix : Nat) {p : Nat} {v1 v2 : V} (hx : L[ix]? = some (p, [v1, v2])) (p0 : p ≠ 0) (r2 : RV g v2 st.sess) :
    Wp (R 73 [.ptr p 0, .int .i64 x] g) fun r g' => r = .tup [.int .i64 (kSe st.sess x), .bool (hasSe st.sess x)] ∧ Fr [] g g' := by
  refine R73 rfl ?_
  rw [S73_eq]
  have e1 := s.ld1 ix hx p0 1 rfl
  repeat (first
   | ((with_reducible refine Wp.gb ?_); refine Wp.b (by first | (with_reducible first | exact fA_p (by assumption) | exact fA_o (by assumption) | exact nilC_ptr (by assumption) | exact bin_lss .. | exact bin_leq .. | exact bin_gtr .. | exact bin_geq .. | exact bin_eql .. | exact bin_neq .. | exact bin_add .. | exact bin_sub .. | exact bin_mul .. | exact str_eql .. | exact str_neq .. | exact str_lss .. | exact str_gtr .. | exact str_geq .. | exact str_leq .. | exact not_bool .. | exact lenS_str .. | assumption) | exact (show extV (.tup _) _ = some _ from rfl) | exact s.ld1 0 rfl (by assumption) _ rfl | exact s.ld1 1 rfl (by assumption) _ rfl | exact s.ld1 2 rfl (by assumption) _ rfl | exact s.ld1 3 rfl (by assumption) _ rfl | exact s.ld1 4 rfl (by assumption) _ rfl | exact s.ld1 5 rfl (by assumption) _ rfl | exact s.ld1 6 rfl (by assumption) _ rfl | exact s.ld1 7 rfl (by assumption) _ rfl | exact s.ld1 8 rfl (by assumption) _ rfl | exact s.ld1 9 rfl (by assumption) _ rfl | exact s.ld1 10 rfl (by assumption) _ rfl | exact s.ld1 11 rfl (by assumption) _ rfl | exact bload_ld1 (by assumption) _ rfl | exact bload_ldn (by assumption) _ _ (Nat.le_refl _) | exact (show bldV _ _ = some _ from rfl) | ((first | apply s.ldn 0 rfl | apply s.ldn 1 rfl | apply s.ldn 2 rfl | apply s.ldn 3 rfl | apply s.ldn 4 rfl | apply s.ldn 5 rfl | apply s.ldn 6 rfl | apply s.ldn 7 rfl | apply s.ldn 8 rfl | apply s.ldn 9 rfl | apply s.ldn 10 rfl | apply s.ldn 11 rfl); (· assumption); (· first | exact Nat.le_refl _ | decide | (simp; done)); (· rfl))) ?_)
   | (with_reducible first | refine Wp.onT (by assumption) ?_ | refine Wp.onF (by assumption) ?_ | refine Wp.spT (by assumption) ?_ | refine Wp.spF (by assumption) ?_)
   | ((with_reducible refine Wp.gbx ?_); refine Wp.box s rfl fun _p _g _p0 _F s => ?_)
   | ((with_reducible refine Wp.gal ?_); refine Wp.alo s fun _p _g _p0 _F s => ?_))
  have := hs.2
  obtain ⟨z, id, off, rfl, sl⟩ := r2
  refine Wp.bind (c87 st.sess (by omega) x (mono_of hr.2 (fun a => a.i < x) (fun a b hab hb => Int.lt_trans hab hb)) z id off g s.k sl) ?_
  rintro r h' ⟨rfl, F⟩
  exact Wp.b rfl (Wp.b rfl (Wp.r2 rfl rfl rfl rfl ⟨rfl, F⟩))
def DoPost (st : Kv) (x : Cmd) (h0 : H) (M : List (Nat × List V)) (p i2 : Nat) (v2 : V) : V → H → Prop := fun r g' => r = .agg (doPr st.cells x).2.en ∧
  ∃ v1 i1, Mm h0 g' ((p, [v1, v2]) :: (i1, flat (doPr st.cells x).1) :: (i2, flat st.sess) :: M) ∧ OV v1 (doPr st.cells x).1 i1
set_option maxHeartbeats 4000000 in
theorem do75 (st : Kv) (hs : st.ok) (hr : st.srt) (x : Cmd) {h0 g : H} {M : List (Nat × List V)} {p i1 i2 : Nat} {v1 v2 : V} (s : Mm h0 g ((p, [v1, v2]) :: (i1, flat st.cells) :: (i2, flat st.sess) :: M)) (p0 : p ≠ 0) (o1 : OV v1 st.cells i1) (o2 : OV v2 st.sess i2) :
    Wp (R 75 [.ptr p 0, .agg x.en] g) (DoPost st x h0 M p i2 v2) := by
  refine R75 rfl ?_
  rw [S75_eq]
  have _c := o1.cells
  have _n := o1.nt
  have _c := o2.cells
  have _n := o2.nt
  have n40 := hs.1
  have kl := kPr_le st.cells x.k
  repeat (first
   | ((with_reducible refine Wp.gb ?_); refine Wp.b (by first | (with_reducible first | exact fA_p (by assumption) | exact fA_o (by assumption) | exact nilC_ptr (by assumption) | exact bin_lss .. | exact bin_leq .. | exact bin_gtr .. | exact bin_geq .. | exact bin_eql .. | exact bin_neq .. | exact bin_add .. | exact bin_sub .. | exact bin_mul .. | exact str_eql .. | exact str_neq .. | exact str_lss .. | exact str_gtr .. | exact str_geq .. | exact str_leq .. | exact not_bool .. | exact lenS_str .. | assumption) | exact (show extV (.tup _) _ = some _ from rfl) | exact s.ld1 0 rfl (by assumption) _ rfl | exact s.ld1 1 rfl (by assumption) _ rfl | exact s.ld1 2 rfl (by assumption) _ rfl | exact s.ld1 3 rfl (by assumption) _ rfl | exact s.ld1 4 rfl (by assumption) _ rfl | exact s.ld1 5 rfl (by assumption) _ rfl | exact s.ld1 6 rfl (by assumption) _ rfl | exact s.ld1 7 rfl (by assumption) _ rfl | exact s.ld1 8 rfl (by assumption) _ rfl | exact s.ld1 9 rfl (by assumption) _ rfl | exact s.ld1 10 rfl (by assumption) _ rfl | exact s.ld1 11 rfl (by assumption) _ rfl | exact bload_ld1 (by assumption) _ rfl | exact bload_ldn (by assumption) _ _ (Nat.le_refl _) | exact (show bldV _ _ = some _ from rfl) | ((first | apply s.ldn 0 rfl | apply s.ldn 1 rfl | apply s.ldn 2 rfl | apply s.ldn 3 rfl | apply s.ldn 4 rfl | apply s.ldn 5 rfl | apply s.ldn 6 rfl | apply s.ldn 7 rfl | apply s.ldn 8 rfl | apply s.ldn 9 rfl | apply s.ldn 10 rfl | apply s.ldn 11 rfl); (· assumption); (· first | exact Nat.le_refl _ | decide | (simp; done)); (· rfl))) ?_)
   | (with_reducible first | refine Wp.onT (by assumption) ?_ | refine Wp.onF (by assumption) ?_ | refine Wp.spT (by assumption) ?_ | refine Wp.spF (by assumption) ?_)
   | ((with_reducible refine Wp.gbx ?_); refine Wp.box s rfl fun _p _g _p0 _F s => ?_)
   | ((with_reducible refine Wp.gal ?_); refine Wp.alo s fun _p _g _p0 _F s => ?_))
  refine Wp.bind (at62 st hs hr x.k s 2 rfl p0 (s.rv 3 o1 rfl)) ?_
  rintro _ _g ⟨rfl, _F⟩
  replace s := s.fr0 _F
  try dsimp only
  by_cases hh : hasPr st.cells x.k = true
  · have hlt := hasPr_lt hh
    have hh' : (!hasPr st.cells x.k) = false := by simp [hh]
    by_cases h2 : decide (x.o = 2) = true
    · repeat (first
       | ((with_reducible refine Wp.gb ?_); refine Wp.b (by first | (with_reducible first | exact fA_p (by assumption) | exact fA_o (by assumption) | exact nilC_ptr (by assumption) | exact bin_lss .. | exact bin_leq .. | exact bin_gtr .. | exact bin_geq .. | exact bin_eql .. | exact bin_neq .. | exact bin_add .. | exact bin_sub .. | exact bin_mul .. | exact str_eql .. | exact str_neq .. | exact str_lss .. | exact str_gtr .. | exact str_geq .. | exact str_leq .. | exact not_bool .. | exact lenS_str .. | assumption) | exact (show extV (.tup _) _ = some _ from rfl) | exact s.ld1 0 rfl (by assumption) _ rfl | exact s.ld1 1 rfl (by assumption) _ rfl | exact s.ld1 2 rfl (by assumption) _ rfl | exact s.ld1 3 rfl (by assumption) _ rfl | exact s.ld1 4 rfl (by assumption) _ rfl | exact s.ld1 5 rfl (by assumption) _ rfl | exact s.ld1 6 rfl (by assumption) _ rfl | exact s.ld1 7 rfl (by assumption) _ rfl | exact s.ld1 8 rfl (by assumption) _ rfl | exact s.ld1 9 rfl (by assumption) _ rfl | exact s.ld1 10 rfl (by assumption) _ rfl | exact s.ld1 11 rfl (by assumption) _ rfl | exact bload_ld1 (by assumption) _ rfl | exact bload_ldn (by assumption) _ _ (Nat.le_refl _) | exact (show bldV _ _ = some _ from rfl) | ((first | apply s.ldn 0 rfl | apply s.ldn 1 rfl | apply s.ldn 2 rfl | apply s.ldn 3 rfl | apply s.ldn 4 rfl | apply s.ldn 5 rfl | apply s.ldn 6 rfl | apply s.ldn 7 rfl | apply s.ldn 8 rfl | apply s.ldn 9 rfl | apply s.ldn 10 rfl | apply s.ldn 11 rfl); (· assumption); (· first | exact Nat.le_refl _ | decide | (simp; done)); (· rfl))) ?_)
       | (with_reducible first | refine Wp.onT (by assumption) ?_ | refine Wp.onF (by assumption) ?_ | refine Wp.spT (by assumption) ?_ | refine Wp.spF (by assumption) ?_)
       | ((with_reducible refine Wp.gbx ?_); refine Wp.box s rfl fun _p _g _p0 _F s => ?_)
       | ((with_reducible refine Wp.gal ?_); refine Wp.alo s fun _p _g _p0 _F s => ?_))
      refine Wp.oa o1 rfl hlt fun i0 => ?_
      repeat (first
       | ((with_reducible refine Wp.gb ?_); refine Wp.b (by first | (with_reducible first | exact fA_p (by assumption) | exact fA_o (by assumption) | exact nilC_ptr (by assumption) | exact bin_lss .. | exact bin_leq .. | exact bin_gtr .. | exact bin_geq .. | exact bin_eql .. | exact bin_neq .. | exact bin_add .. | exact bin_sub .. | exact bin_mul .. | exact str_eql .. | exact str_neq .. | exact str_lss .. | exact str_gtr .. | exact str_geq .. | exact str_leq .. | exact not_bool .. | exact lenS_str .. | assumption) | exact (show extV (.tup _) _ = some _ from rfl) | exact s.ld1 0 rfl (by assumption) _ rfl | exact s.ld1 1 rfl (by assumption) _ rfl | exact s.ld1 2 rfl (by assumption) _ rfl | exact s.ld1 3 rfl (by assumption) _ rfl | exact s.ld1 4 rfl (by assumption) _ rfl | exact s.ld1 5 rfl (by assumption) _ rfl | exact s.ld1 6 rfl (by assumption) _ rfl | exact s.ld1 7 rfl (by assumption) _ rfl | exact s.ld1 8 rfl (by assumption) _ rfl | exact s.ld1 9 rfl (by assumption) _ rfl | exact s.ld1 10 rfl (by assumption) _ rfl | exact s.ld1 11 rfl (by assumption) _ rfl | exact bload_ld1 (by assumption) _ rfl | exact bload_ldn (by assumption) _ _ (Nat.le_refl _) | exact (show bldV _ _ = some _ from rfl) | ((first | apply s.ldn 0 rfl | apply s.ldn 1 rfl | apply s.ldn 2 rfl | apply s.ldn 3 rfl | apply s.ldn 4 rfl | apply s.ldn 5 rfl | apply s.ldn 6 rfl | apply s.ldn 7 rfl | apply s.ldn 8 rfl | apply s.ldn 9 rfl | apply s.ldn 10 rfl | apply s.ldn 11 rfl); (· assumption); (· first | exact Nat.le_refl _ | decide | (simp; done)); (· rfl))) ?_)
       | (with_reducible first | refine Wp.onT (by assumption) ?_ | refine Wp.onF (by assumption) ?_ | refine Wp.spT (by assumption) ?_ | refine Wp.spF (by assumption) ?_)
       | ((with_reducible refine Wp.gbx ?_); refine Wp.box s rfl fun _p _g _p0 _F s => ?_)
       | ((with_reducible refine Wp.gal ?_); refine Wp.alo s fun _p _g _p0 _F s => ?_))
      refine Wp.els (n := 1) s 3 o1 rfl hlt ⟨(st.cells[kPr st.cells x.k]).k, x.v⟩ 1 rfl rfl (Nat.le_refl 2) rfl rfl fun _g _F o1 s => ?_
      simp only [List.set_cons_succ, List.set_cons_zero] at s
      repeat (first
       | ((with_reducible refine Wp.gb ?_); refine Wp.b (by first | (with_reducible first | exact fA_p (by assumption) | exact fA_o (by assumption) | exact nilC_ptr (by assumption) | exact bin_lss .. | exact bin_leq .. | exact bin_gtr .. | exact bin_geq .. | exact bin_eql .. | exact bin_neq .. | exact bin_add .. | exact bin_sub .. | exact bin_mul .. | exact str_eql .. | exact str_neq .. | exact str_lss .. | exact str_gtr .. | exact str_geq .. | exact str_leq .. | exact not_bool .. | exact lenS_str .. | assumption) | exact (show extV (.tup _) _ = some _ from rfl) | exact s.ld1 0 rfl (by assumption) _ rfl | exact s.ld1 1 rfl (by assumption) _ rfl | exact s.ld1 2 rfl (by assumption) _ rfl | exact s.ld1 3 rfl (by assumption) _ rfl | exact s.ld1 4 rfl (by assumption) _ rfl | exact s.ld1 5 rfl (by assumption) _ rfl | exact s.ld1 6 rfl (by assumption) _ rfl | exact s.ld1 7 rfl (by assumption) _ rfl | exact s.ld1 8 rfl (by assumption) _ rfl | exact s.ld1 9 rfl (by assumption) _ rfl | exact s.ld1 10 rfl (by assumption) _ rfl | exact s.ld1 11 rfl (by assumption) _ rfl | exact bload_ld1 (by assumption) _ rfl | exact bload_ldn (by assumption) _ _ (Nat.le_refl _) | exact (show bldV _ _ = some _ from rfl) | ((first | apply s.ldn 0 rfl | apply s.ldn 1 rfl | apply s.ldn 2 rfl | apply s.ldn 3 rfl | apply s.ldn 4 rfl | apply s.ldn 5 rfl | apply s.ldn 6 rfl | apply s.ldn 7 rfl | apply s.ldn 8 rfl | apply s.ldn 9 rfl | apply s.ldn 10 rfl | apply s.ldn 11 rfl); (· assumption); (· first | exact Nat.le_refl _ | decide | (simp; done)); (· rfl))) ?_)
       | (with_reducible first | refine Wp.onT (by assumption) ?_ | refine Wp.onF (by assumption) ?_ | refine Wp.spT (by assumption) ?_ | refine Wp.spF (by assumption) ?_)
       | ((with_reducible refine Wp.gbx ?_); refine Wp.box s rfl fun _p _g _p0 _F s => ?_)
       | ((with_reducible refine Wp.gal ?_); refine Wp.alo s fun _p _g _p0 _F s => ?_)
       | ((with_reducible refine Wp.gst ?_); (first | apply Wp.sto s 0 rfl | apply Wp.sto s 1 rfl | apply Wp.sto s 2 rfl | apply Wp.sto s 3 rfl | apply Wp.sto s 4 rfl | apply Wp.sto s 5 rfl | apply Wp.sto s 6 rfl | apply Wp.sto s 7 rfl | apply Wp.sto s 8 rfl | apply Wp.sto s 9 rfl | apply Wp.sto s 10 rfl | apply Wp.sto s 11 rfl); (· assumption); (· first | rfl | assumption); (· rfl); (· first | exact Nat.le_refl _ | decide | (simp; done)); (· rfl); intro _g _F s; simp only [List.set_cons_succ, List.set_cons_zero, List.take_succ_cons, List.take_zero, List.drop_succ_cons, List.drop_zero, List.drop_nil, List.nil_append, List.cons_append, List.append_nil, Nat.zero_add, Nat.reduceAdd] at s))
      have e : doPr st.cells x = (st.cells.set (kPr st.cells x.k) ⟨(st.cells[kPr st.cells x.k]).k, x.v⟩, ⟨0, emp⟩) := by
        have : x.o = 2 := by simpa using h2
        simp [doPr, this, hh, putPr_has hh, hasPr_key hh]
      refine Wp.r1 (s.ldn 0 rfl (by assumption) 0 2 (Nat.le_refl 2) rfl) rfl ?_
      unfold DoPost
      rw [e]
      exact ⟨rfl, v1, i1, s.tail.tail, o1⟩
    · have h2 : decide (x.o = 2) = false := by simpa using h2
      have ho : ¬ x.o = 2 := by simpa using h2
      repeat (first
       | ((with_reducible refine Wp.gb ?_); refine Wp.b (by first | (with_reducible first | exact fA_p (by assumption) | exact fA_o (by assumption) | exact nilC_ptr (by assumption) | exact bin_lss .. | exact bin_leq .. | exact bin_gtr .. | exact bin_geq .. | exact bin_eql .. | exact bin_neq .. | exact bin_add .. | exact bin_sub .. | exact bin_mul .. | exact str_eql .. | exact str_neq .. | exact str_lss .. | exact str_gtr .. | exact str_geq .. | exact str_leq .. | exact not_bool .. | exact lenS_str .. | assumption) | exact (show extV (.tup _) _ = some _ from rfl) | exact s.ld1 0 rfl (by assumption) _ rfl | exact s.ld1 1 rfl (by assumption) _ rfl | exact s.ld1 2 rfl (by assumption) _ rfl | exact s.ld1 3 rfl (by assumption) _ rfl | exact s.ld1 4 rfl (by assumption) _ rfl | exact s.ld1 5 rfl (by assumption) _ rfl | exact s.ld1 6 rfl (by assumption) _ rfl | exact s.ld1 7 rfl (by assumption) _ rfl | exact s.ld1 8 rfl (by assumption) _ rfl | exact s.ld1 9 rfl (by assumption) _ rfl | exact s.ld1 10 rfl (by assumption) _ rfl | exact s.ld1 11 rfl (by assumption) _ rfl | exact bload_ld1 (by assumption) _ rfl | exact bload_ldn (by assumption) _ _ (Nat.le_refl _) | exact (show bldV _ _ = some _ from rfl) | ((first | apply s.ldn 0 rfl | apply s.ldn 1 rfl | apply s.ldn 2 rfl | apply s.ldn 3 rfl | apply s.ldn 4 rfl | apply s.ldn 5 rfl | apply s.ldn 6 rfl | apply s.ldn 7 rfl | apply s.ldn 8 rfl | apply s.ldn 9 rfl | apply s.ldn 10 rfl | apply s.ldn 11 rfl); (· assumption); (· first | exact Nat.le_refl _ | decide | (simp; done)); (· rfl))) ?_)
       | (with_reducible first | refine Wp.onT (by assumption) ?_ | refine Wp.onF (by assumption) ?_ | refine Wp.spT (by assumption) ?_ | refine Wp.spF (by assumption) ?_)
       | ((with_reducible refine Wp.gbx ?_); refine Wp.box s rfl fun _p _g _p0 _F s => ?_)
       | ((with_reducible refine Wp.gal ?_); refine Wp.alo s fun _p _g _p0 _F s => ?_))
      rw [S75_j12_eq]
      repeat (first
       | ((with_reducible refine Wp.gb ?_); refine Wp.b (by first | (with_reducible first | exact fA_p (by assumption) | exact fA_o (by assumption) | exact nilC_ptr (by assumption) | exact bin_lss .. | exact bin_leq .. | exact bin_gtr .. | exact bin_geq .. | exact bin_eql .. | exact bin_neq .. | exact bin_add .. | exact bin_sub .. | exact bin_mul .. | exact str_eql .. | exact str_neq .. | exact str_lss .. | exact str_gtr .. | exact str_geq .. | exact str_leq .. | exact not_bool .. | exact lenS_str .. | assumption) | exact (show extV (.tup _) _ = some _ from rfl) | exact s.ld1 0 rfl (by assumption) _ rfl | exact s.ld1 1 rfl (by assumption) _ rfl | exact s.ld1 2 rfl (by assumption) _ rfl | exact s.ld1 3 rfl (by assumption) _ rfl | exact s.ld1 4 rfl (by assumption) _ rfl | exact s.ld1 5 rfl (by assumption) _ rfl | exact s.ld1 6 rfl (by assumption) _ rfl | exact s.ld1 7 rfl (by assumption) _ rfl | exact s.ld1 8 rfl (by assumption) _ rfl | exact s.ld1 9 rfl (by assumption) _ rfl | exact s.ld1 10 rfl (by assumption) _ rfl | exact s.ld1 11 rfl (by assumption) _ rfl | exact bload_ld1 (by assumption) _ rfl | exact bload_ldn (by assumption) _ _ (Nat.le_refl _) | exact (show bldV _ _ = some _ from rfl) | ((first | apply s.ldn 0 rfl | apply s.ldn 1 rfl | apply s.ldn 2 rfl | apply s.ldn 3 rfl | apply s.ldn 4 rfl | apply s.ldn 5 rfl | apply s.ldn 6 rfl | apply s.ldn 7 rfl | apply s.ldn 8 rfl | apply s.ldn 9 rfl | apply s.ldn 10 rfl | apply s.ldn 11 rfl); (· assumption); (· first | exact Nat.le_refl _ | decide | (simp; done)); (· rfl))) ?_)
       | (with_reducible first | refine Wp.onT (by assumption) ?_ | refine Wp.onF (by assumption) ?_ | refine Wp.spT (by assumption) ?_ | refine Wp.spF (by assumption) ?_)
       | ((with_reducible refine Wp.gbx ?_); refine Wp.box s rfl fun _p _g _p0 _F s => ?_)
       | ((with_reducible refine Wp.gal ?_); refine Wp.alo s fun _p _g _p0 _F s => ?_))
      refine Wp.rd (s.rv 3 o1 rfl) rfl hlt fun b o b0 bl be => ?_
      repeat (first
       | ((with_reducible refine Wp.gb ?_); refine Wp.b (by first | (with_reducible first | exact fA_p (by assumption) | exact fA_o (by assumption) | exact nilC_ptr (by assumption) | exact bin_lss .. | exact bin_leq .. | exact bin_gtr .. | exact bin_geq .. | exact bin_eql .. | exact bin_neq .. | exact bin_add .. | exact bin_sub .. | exact bin_mul .. | exact str_eql .. | exact str_neq .. | exact str_lss .. | exact str_gtr .. | exact str_geq .. | exact str_leq .. | exact not_bool .. | exact lenS_str .. | assumption) | exact (show extV (.tup _) _ = some _ from rfl) | exact s.ld1 0 rfl (by assumption) _ rfl | exact s.ld1 1 rfl (by assumption) _ rfl | exact s.ld1 2 rfl (by assumption) _ rfl | exact s.ld1 3 rfl (by assumption) _ rfl | exact s.ld1 4 rfl (by assumption) _ rfl | exact s.ld1 5 rfl (by assumption) _ rfl | exact s.ld1 6 rfl (by assumption) _ rfl | exact s.ld1 7 rfl (by assumption) _ rfl | exact s.ld1 8 rfl (by assumption) _ rfl | exact s.ld1 9 rfl (by assumption) _ rfl | exact s.ld1 10 rfl (by assumption) _ rfl | exact s.ld1 11 rfl (by assumption) _ rfl | exact bload_ld1 (by assumption) _ rfl | exact bload_ldn (by assumption) _ _ (Nat.le_refl _) | exact (show bldV _ _ = some _ from rfl) | ((first | apply s.ldn 0 rfl | apply s.ldn 1 rfl | apply s.ldn 2 rfl | apply s.ldn 3 rfl | apply s.ldn 4 rfl | apply s.ldn 5 rfl | apply s.ldn 6 rfl | apply s.ldn 7 rfl | apply s.ldn 8 rfl | apply s.ldn 9 rfl | apply s.ldn 10 rfl | apply s.ldn 11 rfl); (· assumption); (· first | exact Nat.le_refl _ | decide | (simp; done)); (· rfl))) ?_)
       | (with_reducible first | refine Wp.onT (by assumption) ?_ | refine Wp.onF (by assumption) ?_ | refine Wp.spT (by assumption) ?_ | refine Wp.spF (by assumption) ?_)
       | ((with_reducible refine Wp.gbx ?_); refine Wp.box s rfl fun _p _g _p0 _F s => ?_)
       | ((with_reducible refine Wp.gal ?_); refine Wp.alo s fun _p _g _p0 _F s => ?_))
      have ev : (st.cells[kPr st.cells x.k]).v = valPr st.cells x.k := (valPr_at hh).symm
      by_cases h1 : decide (x.o = 1) = true
      · repeat (first
         | ((with_reducible refine Wp.gb ?_); refine Wp.b (by first | (with_reducible first | exact fA_p (by assumption) | exact fA_o (by assumption) | exact nilC_ptr (by assumption) | exact bin_lss .. | exact bin_leq .. | exact bin_gtr .. | exact bin_geq .. | exact bin_eql .. | exact bin_neq .. | exact bin_add .. | exact bin_sub .. | exact bin_mul .. | exact str_eql .. | exact str_neq .. | exact str_lss .. | exact str_gtr .. | exact str_geq .. | exact str_leq .. | exact not_bool .. | exact lenS_str .. | assumption) | exact (show extV (.tup _) _ = some _ from rfl) | exact s.ld1 0 rfl (by assumption) _ rfl | exact s.ld1 1 rfl (by assumption) _ rfl | exact s.ld1 2 rfl (by assumption) _ rfl | exact s.ld1 3 rfl (by assumption) _ rfl | exact s.ld1 4 rfl (by assumption) _ rfl | exact s.ld1 5 rfl (by assumption) _ rfl | exact s.ld1 6 rfl (by assumption) _ rfl | exact s.ld1 7 rfl (by assumption) _ rfl | exact s.ld1 8 rfl (by assumption) _ rfl | exact s.ld1 9 rfl (by assumption) _ rfl | exact s.ld1 10 rfl (by assumption) _ rfl | exact s.ld1 11 rfl (by assumption) _ rfl | exact bload_ld1 (by assumption) _ rfl | exact bload_ldn (by assumption) _ _ (Nat.le_refl _) | exact (show bldV _ _ = some _ from rfl) | ((first | apply s.ldn 0 rfl | apply s.ldn 1 rfl | apply s.ldn 2 rfl | apply s.ldn 3 rfl | apply s.ldn 4 rfl | apply s.ldn 5 rfl | apply s.ldn 6 rfl | apply s.ldn 7 rfl | apply s.ldn 8 rfl | apply s.ldn 9 rfl | apply s.ldn 10 rfl | apply s.ldn 11 rfl); (· assumption); (· first | exact Nat.le_refl _ | decide | (simp; done)); (· rfl))) ?_)
         | (with_reducible first | refine Wp.onT (by assumption) ?_ | refine Wp.onF (by assumption) ?_ | refine Wp.spT (by assumption) ?_ | refine Wp.spF (by assumption) ?_)
         | ((with_reducible refine Wp.gbx ?_); refine Wp.box s rfl fun _p _g _p0 _F s => ?_)
         | ((with_reducible refine Wp.gal ?_); refine Wp.alo s fun _p _g _p0 _F s => ?_)
         | ((with_reducible refine Wp.gst ?_); (first | apply Wp.sto s 0 rfl | apply Wp.sto s 1 rfl | apply Wp.sto s 2 rfl | apply Wp.sto s 3 rfl | apply Wp.sto s 4 rfl | apply Wp.sto s 5 rfl | apply Wp.sto s 6 rfl | apply Wp.sto s 7 rfl | apply Wp.sto s 8 rfl | apply Wp.sto s 9 rfl | apply Wp.sto s 10 rfl | apply Wp.sto s 11 rfl); (· assumption); (· first | rfl | assumption); (· rfl); (· first | exact Nat.le_refl _ | decide | (simp; done)); (· rfl); intro _g _F s; simp only [List.set_cons_succ, List.set_cons_zero, List.take_succ_cons, List.take_zero, List.drop_succ_cons, List.drop_zero, List.drop_nil, List.nil_append, List.cons_append, List.append_nil, Nat.zero_add, Nat.reduceAdd] at s))
        have e : doPr st.cells x = (st.cells, ⟨0, valPr st.cells x.k⟩) := by
          have : x.o = 1 := by simpa using h1
          simp [doPr, this, hh]
        refine Wp.r1 (s.ldn 0 rfl (by assumption) 0 2 (Nat.le_refl 2) rfl) rfl ?_
        unfold DoPost
        rw [e, ← ev]
        exact ⟨rfl, v1, i1, s.tail.tail, o1⟩
      have h1 : decide (x.o = 1) = false := by simpa using h1
      by_cases h3 : decide (x.o = 3) = true
      · repeat (first
         | ((with_reducible refine Wp.gb ?_); refine Wp.b (by first | (with_reducible first | exact fA_p (by assumption) | exact fA_o (by assumption) | exact nilC_ptr (by assumption) | exact bin_lss .. | exact bin_leq .. | exact bin_gtr .. | exact bin_geq .. | exact bin_eql .. | exact bin_neq .. | exact bin_add .. | exact bin_sub .. | exact bin_mul .. | exact str_eql .. | exact str_neq .. | exact str_lss .. | exact str_gtr .. | exact str_geq .. | exact str_leq .. | exact not_bool .. | exact lenS_str .. | assumption) | exact (show extV (.tup _) _ = some _ from rfl) | exact s.ld1 0 rfl (by assumption) _ rfl | exact s.ld1 1 rfl (by assumption) _ rfl | exact s.ld1 2 rfl (by assumption) _ rfl | exact s.ld1 3 rfl (by assumption) _ rfl | exact s.ld1 4 rfl (by assumption) _ rfl | exact s.ld1 5 rfl (by assumption) _ rfl | exact s.ld1 6 rfl (by assumption) _ rfl | exact s.ld1 7 rfl (by assumption) _ rfl | exact s.ld1 8 rfl (by assumption) _ rfl | exact s.ld1 9 rfl (by assumption) _ rfl | exact s.ld1 10 rfl (by assumption) _ rfl | exact s.ld1 11 rfl (by assumption) _ rfl | exact bload_ld1 (by assumption) _ rfl | exact bload_ldn (by assumption) _ _ (Nat.le_refl _) | exact (show bldV _ _ = some _ from rfl) | ((first | apply s.ldn 0 rfl | apply s.ldn 1 rfl | apply s.ldn 2 rfl | apply s.ldn 3 rfl | apply s.ldn 4 rfl | apply s.ldn 5 rfl | apply s.ldn 6 rfl | apply s.ldn 7 rfl | apply s.ldn 8 rfl | apply s.ldn 9 rfl | apply s.ldn 10 rfl | apply s.ldn 11 rfl); (· assumption); (· first | exact Nat.le_refl _ | decide | (simp; done)); (· rfl))) ?_)
         | (with_reducible first | refine Wp.onT (by assumption) ?_ | refine Wp.onF (by assumption) ?_ | refine Wp.spT (by assumption) ?_ | refine Wp.spF (by assumption) ?_)
         | ((with_reducible refine Wp.gbx ?_); refine Wp.box s rfl fun _p _g _p0 _F s => ?_)
         | ((with_reducible refine Wp.gal ?_); refine Wp.alo s fun _p _g _p0 _F s => ?_))
        rw [inc64 (by omega)]
        obtain ⟨v3, i3, g3, e3, o3, F3, s3⟩ := delP_mm s 3 o1 rfl (a := kPr st.cells x.k) (b := kPr st.cells x.k + 1) (by omega) (by omega)
        refine Wp.b (run_prim (p := delP 2) rfl e3) ?_
        replace s := s3
        simp only [List.set_cons_succ, List.set_cons_zero] at s
        dsimp only
        have _c := o3.cells
        have _n := o3.nt
        repeat (first
         | ((with_reducible refine Wp.gb ?_); refine Wp.b (by first | (with_reducible first | exact fA_p (by assumption) | exact fA_o (by assumption) | exact nilC_ptr (by assumption) | exact bin_lss .. | exact bin_leq .. | exact bin_gtr .. | exact bin_geq .. | exact bin_eql .. | exact bin_neq .. | exact bin_add .. | exact bin_sub .. | exact bin_mul .. | exact str_eql .. | exact str_neq .. | exact str_lss .. | exact str_gtr .. | exact str_geq .. | exact str_leq .. | exact not_bool .. | exact lenS_str .. | assumption) | exact (show extV (.tup _) _ = some _ from rfl) | exact s.ld1 0 rfl (by assumption) _ rfl | exact s.ld1 1 rfl (by assumption) _ rfl | exact s.ld1 2 rfl (by assumption) _ rfl | exact s.ld1 3 rfl (by assumption) _ rfl | exact s.ld1 4 rfl (by assumption) _ rfl | exact s.ld1 5 rfl (by assumption) _ rfl | exact s.ld1 6 rfl (by assumption) _ rfl | exact s.ld1 7 rfl (by assumption) _ rfl | exact s.ld1 8 rfl (by assumption) _ rfl | exact s.ld1 9 rfl (by assumption) _ rfl | exact s.ld1 10 rfl (by assumption) _ rfl | exact s.ld1 11 rfl (by assumption) _ rfl | exact bload_ld1 (by assumption) _ rfl | exact bload_ldn (by assumption) _ _ (Nat.le_refl _) | exact (show bldV _ _ = some _ from rfl) | ((first | apply s.ldn 0 rfl | apply s.ldn 1 rfl | apply s.ldn 2 rfl | apply s.ldn 3 rfl | apply s.ldn 4 rfl | apply s.ldn 5 rfl | apply s.ldn 6 rfl | apply s.ldn 7 rfl | apply s.ldn 8 rfl | apply s.ldn 9 rfl | apply s.ldn 10 rfl | apply s.ldn 11 rfl); (· assumption); (· first | exact Nat.le_refl _ | decide | (simp; done)); (· rfl))) ?_)
         | (with_reducible first | refine Wp.onT (by assumption) ?_ | refine Wp.onF (by assumption) ?_ | refine Wp.spT (by assumption) ?_ | refine Wp.spF (by assumption) ?_)
         | ((with_reducible refine Wp.gbx ?_); refine Wp.box s rfl fun _p _g _p0 _F s => ?_)
         | ((with_reducible refine Wp.gal ?_); refine Wp.alo s fun _p _g _p0 _F s => ?_)
         | ((with_reducible refine Wp.gst ?_); (first | apply Wp.sto s 0 rfl | apply Wp.sto s 1 rfl | apply Wp.sto s 2 rfl | apply Wp.sto s 3 rfl | apply Wp.sto s 4 rfl | apply Wp.sto s 5 rfl | apply Wp.sto s 6 rfl | apply Wp.sto s 7 rfl | apply Wp.sto s 8 rfl | apply Wp.sto s 9 rfl | apply Wp.sto s 10 rfl | apply Wp.sto s 11 rfl); (· assumption); (· first | rfl | assumption); (· rfl); (· first | exact Nat.le_refl _ | decide | (simp; done)); (· rfl); intro _g _F s; simp only [List.set_cons_succ, List.set_cons_zero, List.take_succ_cons, List.take_zero, List.drop_succ_cons, List.drop_zero, List.drop_nil, List.nil_append, List.cons_append, List.append_nil, Nat.zero_add, Nat.reduceAdd] at s))
        have e : doPr st.cells x = (st.cells.take (kPr st.cells x.k) ++ st.cells.drop (kPr st.cells x.k + 1), ⟨0, valPr st.cells x.k⟩) := by
          have : x.o = 3 := by simpa using h3
          simp [doPr, this, hh]
        refine Wp.r1 (s.ldn 0 rfl (by assumption) 0 2 (Nat.le_refl 2) rfl) rfl ?_
        unfold DoPost
        rw [e, ← ev]
        exact ⟨rfl, v3, i3, s.tail.tail, o3⟩
      have h3 : decide (x.o = 3) = false := by simpa using h3
      repeat (first
       | ((with_reducible refine Wp.gb ?_); refine Wp.b (by first | (with_reducible first | exact fA_p (by assumption) | exact fA_o (by assumption) | exact nilC_ptr (by assumption) | exact bin_lss .. | exact bin_leq .. | exact bin_gtr .. | exact bin_geq .. | exact bin_eql .. | exact bin_neq .. | exact bin_add .. | exact bin_sub .. | exact bin_mul .. | exact str_eql .. | exact str_neq .. | exact str_lss .. | exact str_gtr .. | exact str_geq .. | exact str_leq .. | exact not_bool .. | exact lenS_str .. | assumption) | exact (show extV (.tup _) _ = some _ from rfl) | exact s.ld1 0 rfl (by assumption) _ rfl | exact s.ld1 1 rfl (by assumption) _ rfl | exact s.ld1 2 rfl (by assumption) _ rfl | exact s.ld1 3 rfl (by assumption) _ rfl | exact s.ld1 4 rfl (by assumption) _ rfl | exact s.ld1 5 rfl (by assumption) _ rfl | exact s.ld1 6 rfl (by assumption) _ rfl | exact s.ld1 7 rfl (by assumption) _ rfl | exact s.ld1 8 rfl (by assumption) _ rfl | exact s.ld1 9 rfl (by assumption) _ rfl | exact s.ld1 10 rfl (by assumption) _ rfl | exact s.ld1 11 rfl (by assumption) _ rfl | exact bload_ld1 (by assumption) _ rfl | exact bload_ldn (by assumption) _ _ (Nat.le_refl _) | exact (show bldV _ _ = some _ from rfl) | ((first | apply s.ldn 0 rfl | apply s.ldn 1 rfl | apply s.ldn 2 rfl | apply s.ldn 3 rfl | apply s.ldn 4 rfl | apply s.ldn 5 rfl | apply s.ldn 6 rfl | apply s.ldn 7 rfl | apply s.ldn 8 rfl | apply s.ldn 9 rfl | apply s.ldn 10 rfl | apply s.ldn 11 rfl); (· assumption); (· first | exact Nat.le_refl _ | decide | (simp; done)); (· rfl))) ?_)
       | (with_reducible first | refine Wp.onT (by assumption) ?_ | refine Wp.onF (by assumption) ?_ | refine Wp.spT (by assumption) ?_ | refine Wp.spF (by assumption) ?_)
       | ((with_reducible refine Wp.gbx ?_); refine Wp.box s rfl fun _p _g _p0 _F s => ?_)
       | ((with_reducible refine Wp.gal ?_); refine Wp.alo s fun _p _g _p0 _F s => ?_))
      refine Wp.on (fun hd => ?_) (fun hd => ?_)
      · repeat (first
         | ((with_reducible refine Wp.gb ?_); refine Wp.b (by first | (with_reducible first | exact fA_p (by assumption) | exact fA_o (by assumption) | exact nilC_ptr (by assumption) | exact bin_lss .. | exact bin_leq .. | exact bin_gtr .. | exact bin_geq .. | exact bin_eql .. | exact bin_neq .. | exact bin_add .. | exact bin_sub .. | exact bin_mul .. | exact str_eql .. | exact str_neq .. | exact str_lss .. | exact str_gtr .. | exact str_geq .. | exact str_leq .. | exact not_bool .. | exact lenS_str .. | assumption) | exact (show extV (.tup _) _ = some _ from rfl) | exact s.ld1 0 rfl (by assumption) _ rfl | exact s.ld1 1 rfl (by assumption) _ rfl | exact s.ld1 2 rfl (by assumption) _ rfl | exact s.ld1 3 rfl (by assumption) _ rfl | exact s.ld1 4 rfl (by assumption) _ rfl | exact s.ld1 5 rfl (by assumption) _ rfl | exact s.ld1 6 rfl (by assumption) _ rfl | exact s.ld1 7 rfl (by assumption) _ rfl | exact s.ld1 8 rfl (by assumption) _ rfl | exact s.ld1 9 rfl (by assumption) _ rfl | exact s.ld1 10 rfl (by assumption) _ rfl | exact s.ld1 11 rfl (by assumption) _ rfl | exact bload_ld1 (by assumption) _ rfl | exact bload_ldn (by assumption) _ _ (Nat.le_refl _) | exact (show bldV _ _ = some _ from rfl) | ((first | apply s.ldn 0 rfl | apply s.ldn 1 rfl | apply s.ldn 2 rfl | apply s.ldn 3 rfl | apply s.ldn 4 rfl | apply s.ldn 5 rfl | apply s.ldn 6 rfl | apply s.ldn 7 rfl | apply s.ldn 8 rfl | apply s.ldn 9 rfl | apply s.ldn 10 rfl | apply s.ldn 11 rfl); (· assumption); (· first | exact Nat.le_refl _ | decide | (simp; done)); (· rfl))) ?_)
         | (with_reducible first | refine Wp.onT (by assumption) ?_ | refine Wp.onF (by assumption) ?_ | refine Wp.spT (by assumption) ?_ | refine Wp.spF (by assumption) ?_)
         | ((with_reducible refine Wp.gbx ?_); refine Wp.box s rfl fun _p _g _p0 _F s => ?_)
         | ((with_reducible refine Wp.gal ?_); refine Wp.alo s fun _p _g _p0 _F s => ?_)
         | ((with_reducible refine Wp.gst ?_); (first | apply Wp.sto s 0 rfl | apply Wp.sto s 1 rfl | apply Wp.sto s 2 rfl | apply Wp.sto s 3 rfl | apply Wp.sto s 4 rfl | apply Wp.sto s 5 rfl | apply Wp.sto s 6 rfl | apply Wp.sto s 7 rfl | apply Wp.sto s 8 rfl | apply Wp.sto s 9 rfl | apply Wp.sto s 10 rfl | apply Wp.sto s 11 rfl); (· assumption); (· first | rfl | assumption); (· rfl); (· first | exact Nat.le_refl _ | decide | (simp; done)); (· rfl); intro _g _F s; simp only [List.set_cons_succ, List.set_cons_zero, List.take_succ_cons, List.take_zero, List.drop_succ_cons, List.drop_zero, List.drop_nil, List.nil_append, List.cons_append, List.append_nil, Nat.zero_add, Nat.reduceAdd] at s))
        have e : doPr st.cells x = (st.cells, ⟨3, valPr st.cells x.k⟩) := by
          have h1 : ¬ x.o = 1 := by simpa using h1
          have h3 : ¬ x.o = 3 := by simpa using h3
          rw [ev] at hd
          have hd : ¬ valPr st.cells x.k = x.d := by simpa using hd
          simp [doPr, ho, h1, h3, hh, hd]
        refine Wp.r1 (s.ldn 0 rfl (by assumption) 0 2 (Nat.le_refl 2) rfl) rfl ?_
        unfold DoPost
        rw [e, ← ev]
        exact ⟨rfl, v1, i1, s.tail.tail, o1⟩
      · repeat (first
         | ((with_reducible refine Wp.gb ?_); refine Wp.b (by first | (with_reducible first | exact fA_p (by assumption) | exact fA_o (by assumption) | exact nilC_ptr (by assumption) | exact bin_lss .. | exact bin_leq .. | exact bin_gtr .. | exact bin_geq .. | exact bin_eql .. | exact bin_neq .. | exact bin_add .. | exact bin_sub .. | exact bin_mul .. | exact str_eql .. | exact str_neq .. | exact str_lss .. | exact str_gtr .. | exact str_geq .. | exact str_leq .. | exact not_bool .. | exact lenS_str .. | assumption) | exact (show extV (.tup _) _ = some _ from rfl) | exact s.ld1 0 rfl (by assumption) _ rfl | exact s.ld1 1 rfl (by assumption) _ rfl | exact s.ld1 2 rfl (by assumption) _ rfl | exact s.ld1 3 rfl (by assumption) _ rfl | exact s.ld1 4 rfl (by assumption) _ rfl | exact s.ld1 5 rfl (by assumption) _ rfl | exact s.ld1 6 rfl (by assumption) _ rfl | exact s.ld1 7 rfl (by assumption) _ rfl | exact s.ld1 8 rfl (by assumption) _ rfl | exact s.ld1 9 rfl (by assumption) _ rfl | exact s.ld1 10 rfl (by assumption) _ rfl | exact s.ld1 11 rfl (by assumption) _ rfl | exact bload_ld1 (by assumption) _ rfl | exact bload_ldn (by assumption) _ _ (Nat.le_refl _) | exact (show bldV _ _ = some _ from rfl) | ((first | apply s.ldn 0 rfl | apply s.ldn 1 rfl | apply s.ldn 2 rfl | apply s.ldn 3 rfl | apply s.ldn 4 rfl | apply s.ldn 5 rfl | apply s.ldn 6 rfl | apply s.ldn 7 rfl | apply s.ldn 8 rfl | apply s.ldn 9 rfl | apply s.ldn 10 rfl | apply s.ldn 11 rfl); (· assumption); (· first | exact Nat.le_refl _ | decide | (simp; done)); (· rfl))) ?_)
         | (with_reducible first | refine Wp.onT (by assumption) ?_ | refine Wp.onF (by assumption) ?_ | refine Wp.spT (by assumption) ?_ | refine Wp.spF (by assumption) ?_)
         | ((with_reducible refine Wp.gbx ?_); refine Wp.box s rfl fun _p _g _p0 _F s => ?_)
         | ((with_reducible refine Wp.gal ?_); refine Wp.alo s fun _p _g _p0 _F s => ?_))
        refine Wp.oa o1 rfl hlt fun i0 => ?_
        repeat (first
         | ((with_reducible refine Wp.gb ?_); refine Wp.b (by first | (with_reducible first | exact fA_p (by assumption) | exact fA_o (by assumption) | exact nilC_ptr (by assumption) | exact bin_lss .. | exact bin_leq .. | exact bin_gtr .. | exact bin_geq .. | exact bin_eql .. | exact bin_neq .. | exact bin_add .. | exact bin_sub .. | exact bin_mul .. | exact str_eql .. | exact str_neq .. | exact str_lss .. | exact str_gtr .. | exact str_geq .. | exact str_leq .. | exact not_bool .. | exact lenS_str .. | assumption) | exact (show extV (.tup _) _ = some _ from rfl) | exact s.ld1 0 rfl (by assumption) _ rfl | exact s.ld1 1 rfl (by assumption) _ rfl | exact s.ld1 2 rfl (by assumption) _ rfl | exact s.ld1 3 rfl (by assumption) _ rfl | exact s.ld1 4 rfl (by assumption) _ rfl | exact s.ld1 5 rfl (by assumption) _ rfl | exact s.ld1 6 rfl (by assumption) _ rfl | exact s.ld1 7 rfl (by assumption) _ rfl | exact s.ld1 8 rfl (by assumption) _ rfl | exact s.ld1 9 rfl (by assumption) _ rfl | exact s.ld1 10 rfl (by assumption) _ rfl | exact s.ld1 11 rfl (by assumption) _ rfl | exact bload_ld1 (by assumption) _ rfl | exact bload_ldn (by assumption) _ _ (Nat.le_refl _) | exact (show bldV _ _ = some _ from rfl) | ((first | apply s.ldn 0 rfl | apply s.ldn 1 rfl | apply s.ldn 2 rfl | apply s.ldn 3 rfl | apply s.ldn 4 rfl | apply s.ldn 5 rfl | apply s.ldn 6 rfl | apply s.ldn 7 rfl | apply s.ldn 8 rfl | apply s.ldn 9 rfl | apply s.ldn 10 rfl | apply s.ldn 11 rfl); (· assumption); (· first | exact Nat.le_refl _ | decide | (simp; done)); (· rfl))) ?_)
         | (with_reducible first | refine Wp.onT (by assumption) ?_ | refine Wp.onF (by assumption) ?_ | refine Wp.spT (by assumption) ?_ | refine Wp.spF (by assumption) ?_)
         | ((with_reducible refine Wp.gbx ?_); refine Wp.box s rfl fun _p _g _p0 _F s => ?_)
         | ((with_reducible refine Wp.gal ?_); refine Wp.alo s fun _p _g _p0 _F s => ?_))
        refine Wp.els (n := 1) s 3 o1 rfl hlt ⟨(st.cells[kPr st.cells x.k]).k, x.v⟩ 1 rfl rfl (Nat.le_refl 2) rfl rfl fun _g _F o1 s => ?_
        simp only [List.set_cons_succ, List.set_cons_zero] at s
        repeat (first
         | ((with_reducible refine Wp.gb ?_); refine Wp.b (by first | (with_reducible first | exact fA_p (by assumption) | exact fA_o (by assumption) | exact nilC_ptr (by assumption) | exact bin_lss .. | exact bin_leq .. | exact bin_gtr .. | exact bin_geq .. | exact bin_eql .. | exact bin_neq .. | exact bin_add .. | exact bin_sub .. | exact bin_mul .. | exact str_eql .. | exact str_neq .. | exact str_lss .. | exact str_gtr .. | exact str_geq .. | exact str_leq .. | exact not_bool .. | exact lenS_str .. | assumption) | exact (show extV (.tup _) _ = some _ from rfl) | exact s.ld1 0 rfl (by assumption) _ rfl | exact s.ld1 1 rfl (by assumption) _ rfl | exact s.ld1 2 rfl (by assumption) _ rfl | exact s.ld1 3 rfl (by assumption) _ rfl | exact s.ld1 4 rfl (by assumption) _ rfl | exact s.ld1 5 rfl (by assumption) _ rfl | exact s.ld1 6 rfl (by assumption) _ rfl | exact s.ld1 7 rfl (by assumption) _ rfl | exact s.ld1 8 rfl (by assumption) _ rfl | exact s.ld1 9 rfl (by assumption) _ rfl | exact s.ld1 10 rfl (by assumption) _ rfl | exact s.ld1 11 rfl (by assumption) _ rfl | exact bload_ld1 (by assumption) _ rfl | exact bload_ldn (by assumption) _ _ (Nat.le_refl _) | exact (show bldV _ _ = some _ from rfl) | ((first | apply s.ldn 0 rfl | apply s.ldn 1 rfl | apply s.ldn 2 rfl | apply s.ldn 3 rfl | apply s.ldn 4 rfl | apply s.ldn 5 rfl | apply s.ldn 6 rfl | apply s.ldn 7 rfl | apply s.ldn 8 rfl | apply s.ldn 9 rfl | apply s.ldn 10 rfl | apply s.ldn 11 rfl); (· assumption); (· first | exact Nat.le_refl _ | decide | (simp; done)); (· rfl))) ?_)
         | (with_reducible first | refine Wp.onT (by assumption) ?_ | refine Wp.onF (by assumption) ?_ | refine Wp.spT (by assumption) ?_ | refine Wp.spF (by assumption) ?_)
         | ((with_reducible refine Wp.gbx ?_); refine Wp.box s rfl fun _p _g _p0 _F s => ?_)
         | ((with_reducible refine Wp.gal ?_); refine Wp.alo s fun _p _g _p0 _F s => ?_)
         | ((with_reducible refine Wp.gst ?_); (first | apply Wp.sto s 0 rfl | apply Wp.sto s 1 rfl | apply Wp.sto s 2 rfl | apply Wp.sto s 3 rfl | apply Wp.sto s 4 rfl | apply Wp.sto s 5 rfl | apply Wp.sto s 6 rfl | apply Wp.sto s 7 rfl | apply Wp.sto s 8 rfl | apply Wp.sto s 9 rfl | apply Wp.sto s 10 rfl | apply Wp.sto s 11 rfl); (· assumption); (· first | rfl | assumption); (· rfl); (· first | exact Nat.le_refl _ | decide | (simp; done)); (· rfl); intro _g _F s; simp only [List.set_cons_succ, List.set_cons_zero, List.take_succ_cons, List.take_zero, List.drop_succ_cons, List.drop_zero, List.drop_nil, List.nil_append, List.cons_append, List.append_nil, Nat.zero_add, Nat.reduceAdd] at s))
        have e : doPr st.cells x = (st.cells.set (kPr st.cells x.k) ⟨(st.cells[kPr st.cells x.k]).k, x.v⟩, ⟨0, emp⟩) := by
          have h1 : ¬ x.o = 1 := by simpa using h1
          have h3 : ¬ x.o = 3 := by simpa using h3
          rw [ev] at hd
          have hd : valPr st.cells x.k = x.d := by simpa using hd
          simp [doPr, ho, h1, h3, hh, hd, putPr_has hh, hasPr_key hh]
        refine Wp.r1 (s.ldn 0 rfl (by assumption) 0 2 (Nat.le_refl 2) rfl) rfl ?_
        unfold DoPost
        rw [e]
        exact ⟨rfl, v1, i1, s.tail.tail, o1⟩
  · have hh : hasPr st.cells x.k = false := by simpa using hh
    have hh' : (!hasPr st.cells x.k) = true := by simp [hh]
    by_cases h2 : decide (x.o = 2) = true
    · have ho : x.o = 2 := by simpa using h2
      have hl1 := o1.len
      by_cases h40 : decide ((st.cells.length : Int) = 40) = true
      · repeat (first
         | ((with_reducible refine Wp.gb ?_); refine Wp.b (by first | (with_reducible first | exact fA_p (by assumption) | exact fA_o (by assumption) | exact nilC_ptr (by assumption) | exact bin_lss .. | exact bin_leq .. | exact bin_gtr .. | exact bin_geq .. | exact bin_eql .. | exact bin_neq .. | exact bin_add .. | exact bin_sub .. | exact bin_mul .. | exact str_eql .. | exact str_neq .. | exact str_lss .. | exact str_gtr .. | exact str_geq .. | exact str_leq .. | exact not_bool .. | exact lenS_str .. | assumption) | exact (show extV (.tup _) _ = some _ from rfl) | exact s.ld1 0 rfl (by assumption) _ rfl | exact s.ld1 1 rfl (by assumption) _ rfl | exact s.ld1 2 rfl (by assumption) _ rfl | exact s.ld1 3 rfl (by assumption) _ rfl | exact s.ld1 4 rfl (by assumption) _ rfl | exact s.ld1 5 rfl (by assumption) _ rfl | exact s.ld1 6 rfl (by assumption) _ rfl | exact s.ld1 7 rfl (by assumption) _ rfl | exact s.ld1 8 rfl (by assumption) _ rfl | exact s.ld1 9 rfl (by assumption) _ rfl | exact s.ld1 10 rfl (by assumption) _ rfl | exact s.ld1 11 rfl (by assumption) _ rfl | exact bload_ld1 (by assumption) _ rfl | exact bload_ldn (by assumption) _ _ (Nat.le_refl _) | exact (show bldV _ _ = some _ from rfl) | ((first | apply s.ldn 0 rfl | apply s.ldn 1 rfl | apply s.ldn 2 rfl | apply s.ldn 3 rfl | apply s.ldn 4 rfl | apply s.ldn 5 rfl | apply s.ldn 6 rfl | apply s.ldn 7 rfl | apply s.ldn 8 rfl | apply s.ldn 9 rfl | apply s.ldn 10 rfl | apply s.ldn 11 rfl); (· assumption); (· first | exact Nat.le_refl _ | decide | (simp; done)); (· rfl))) ?_)
         | (with_reducible first | refine Wp.onT (by assumption) ?_ | refine Wp.onF (by assumption) ?_ | refine Wp.spT (by assumption) ?_ | refine Wp.spF (by assumption) ?_)
         | ((with_reducible refine Wp.gbx ?_); refine Wp.box s rfl fun _p _g _p0 _F s => ?_)
         | ((with_reducible refine Wp.gal ?_); refine Wp.alo s fun _p _g _p0 _F s => ?_)
         | ((with_reducible refine Wp.gst ?_); (first | apply Wp.sto s 0 rfl | apply Wp.sto s 1 rfl | apply Wp.sto s 2 rfl | apply Wp.sto s 3 rfl | apply Wp.sto s 4 rfl | apply Wp.sto s 5 rfl | apply Wp.sto s 6 rfl | apply Wp.sto s 7 rfl | apply Wp.sto s 8 rfl | apply Wp.sto s 9 rfl | apply Wp.sto s 10 rfl | apply Wp.sto s 11 rfl); (· assumption); (· first | rfl | assumption); (· rfl); (· first | exact Nat.le_refl _ | decide | (simp; done)); (· rfl); intro _g _F s; simp only [List.set_cons_succ, List.set_cons_zero, List.take_succ_cons, List.take_zero, List.drop_succ_cons, List.drop_zero, List.drop_nil, List.nil_append, List.cons_append, List.append_nil, Nat.zero_add, Nat.reduceAdd] at s))
        have e : doPr st.cells x = (st.cells, ⟨4, emp⟩) := by
          have : st.cells.length = 40 := by
            have : (st.cells.length : Int) = 40 := by simpa using h40
            omega
          simp [doPr, ho, hh, this]
        refine Wp.r1 (s.ldn 0 rfl (by assumption) 0 2 (Nat.le_refl 2) rfl) rfl ?_
        unfold DoPost
        rw [e]
        exact ⟨rfl, v1, i1, s.tail.tail, o1⟩
      · have h40 : decide ((st.cells.length : Int) = 40) = false := by simpa using h40
        repeat (first
         | ((with_reducible refine Wp.gb ?_); refine Wp.b (by first | (with_reducible first | exact fA_p (by assumption) | exact fA_o (by assumption) | exact nilC_ptr (by assumption) | exact bin_lss .. | exact bin_leq .. | exact bin_gtr .. | exact bin_geq .. | exact bin_eql .. | exact bin_neq .. | exact bin_add .. | exact bin_sub .. | exact bin_mul .. | exact str_eql .. | exact str_neq .. | exact str_lss .. | exact str_gtr .. | exact str_geq .. | exact str_leq .. | exact not_bool .. | exact lenS_str .. | assumption) | exact (show extV (.tup _) _ = some _ from rfl) | exact s.ld1 0 rfl (by assumption) _ rfl | exact s.ld1 1 rfl (by assumption) _ rfl | exact s.ld1 2 rfl (by assumption) _ rfl | exact s.ld1 3 rfl (by assumption) _ rfl | exact s.ld1 4 rfl (by assumption) _ rfl | exact s.ld1 5 rfl (by assumption) _ rfl | exact s.ld1 6 rfl (by assumption) _ rfl | exact s.ld1 7 rfl (by assumption) _ rfl | exact s.ld1 8 rfl (by assumption) _ rfl | exact s.ld1 9 rfl (by assumption) _ rfl | exact s.ld1 10 rfl (by assumption) _ rfl | exact s.ld1 11 rfl (by assumption) _ rfl | exact bload_ld1 (by assumption) _ rfl | exact bload_ldn (by assumption) _ _ (Nat.le_refl _) | exact (show bldV _ _ = some _ from rfl) | ((first | apply s.ldn 0 rfl | apply s.ldn 1 rfl | apply s.ldn 2 rfl | apply s.ldn 3 rfl | apply s.ldn 4 rfl | apply s.ldn 5 rfl | apply s.ldn 6 rfl | apply s.ldn 7 rfl | apply s.ldn 8 rfl | apply s.ldn 9 rfl | apply s.ldn 10 rfl | apply s.ldn 11 rfl); (· assumption); (· first | exact Nat.le_refl _ | decide | (simp; done)); (· rfl))) ?_)
         | (with_reducible first | refine Wp.onT (by assumption) ?_ | refine Wp.onF (by assumption) ?_ | refine Wp.spT (by assumption) ?_ | refine Wp.spF (by assumption) ?_)
         | ((with_reducible refine Wp.gbx ?_); refine Wp.box s rfl fun _p _g _p0 _F s => ?_)
         | ((with_reducible refine Wp.gal ?_); refine Wp.alo s fun _p _g _p0 _F s => ?_))
        have b1 := s.blk (i := 1) rfl (by assumption)
        have bp := s.blk (i := 2) rfl p0
        have n1 := s.ne 1 3 (by decide) rfl rfl (by assumption)
        have n2 := s.ne 2 3 (by decide) rfl rfl p0
        refine Wp.lit s [(⟨x.k, x.v⟩ : Pr)] rfl rfl rfl fun w j g5 ow jn F5 s => ?_
        refine Wp.pd F5 (by assumption) b1.2.1 (Wp.pd F5 (by assumption) b1.2.1 (Wp.pd F5 p0 bp.2.1 ?_))
        obtain ⟨v3, i3, g3, e3, o3, F3, s3⟩ := insP_mm (bytes := 32) s 4 0 (by decide) o1 rfl ow rfl (by simp) kl (by decide) (by simp; omega) (by simp; omega)
        refine Wp.b (run_prim (p := insP 2 32) rfl e3) ?_
        replace s := s3
        simp only [List.set_cons_succ, List.set_cons_zero] at s
        dsimp only
        refine Wp.pd1 F5 F3 (by assumption) b1.2.1 n1 (Wp.pd1 F5 F3 (by assumption) b1.2.1 n1 ?_)
        have _c := o3.cells
        have _n := o3.nt
        repeat (first
         | ((with_reducible refine Wp.gb ?_); refine Wp.b (by first | (with_reducible first | exact fA_p (by assumption) | exact fA_o (by assumption) | exact nilC_ptr (by assumption) | exact bin_lss .. | exact bin_leq .. | exact bin_gtr .. | exact bin_geq .. | exact bin_eql .. | exact bin_neq .. | exact bin_add .. | exact bin_sub .. | exact bin_mul .. | exact str_eql .. | exact str_neq .. | exact str_lss .. | exact str_gtr .. | exact str_geq .. | exact str_leq .. | exact not_bool .. | exact lenS_str .. | assumption) | exact (show extV (.tup _) _ = some _ from rfl) | exact s.ld1 0 rfl (by assumption) _ rfl | exact s.ld1 1 rfl (by assumption) _ rfl | exact s.ld1 2 rfl (by assumption) _ rfl | exact s.ld1 3 rfl (by assumption) _ rfl | exact s.ld1 4 rfl (by assumption) _ rfl | exact s.ld1 5 rfl (by assumption) _ rfl | exact s.ld1 6 rfl (by assumption) _ rfl | exact s.ld1 7 rfl (by assumption) _ rfl | exact s.ld1 8 rfl (by assumption) _ rfl | exact s.ld1 9 rfl (by assumption) _ rfl | exact s.ld1 10 rfl (by assumption) _ rfl | exact s.ld1 11 rfl (by assumption) _ rfl | exact bload_ld1 (by assumption) _ rfl | exact bload_ldn (by assumption) _ _ (Nat.le_refl _) | exact (show bldV _ _ = some _ from rfl) | ((first | apply s.ldn 0 rfl | apply s.ldn 1 rfl | apply s.ldn 2 rfl | apply s.ldn 3 rfl | apply s.ldn 4 rfl | apply s.ldn 5 rfl | apply s.ldn 6 rfl | apply s.ldn 7 rfl | apply s.ldn 8 rfl | apply s.ldn 9 rfl | apply s.ldn 10 rfl | apply s.ldn 11 rfl); (· assumption); (· first | exact Nat.le_refl _ | decide | (simp; done)); (· rfl))) ?_)
         | (with_reducible first | refine Wp.onT (by assumption) ?_ | refine Wp.onF (by assumption) ?_ | refine Wp.spT (by assumption) ?_ | refine Wp.spF (by assumption) ?_)
         | ((with_reducible refine Wp.gbx ?_); refine Wp.box s rfl fun _p _g _p0 _F s => ?_)
         | ((with_reducible refine Wp.gal ?_); refine Wp.alo s fun _p _g _p0 _F s => ?_)
         | ((with_reducible refine Wp.gst ?_); (first | apply Wp.sto s 0 rfl | apply Wp.sto s 1 rfl | apply Wp.sto s 2 rfl | apply Wp.sto s 3 rfl | apply Wp.sto s 4 rfl | apply Wp.sto s 5 rfl | apply Wp.sto s 6 rfl | apply Wp.sto s 7 rfl | apply Wp.sto s 8 rfl | apply Wp.sto s 9 rfl | apply Wp.sto s 10 rfl | apply Wp.sto s 11 rfl); (· assumption); (· first | rfl | assumption); (· rfl); (· first | exact Nat.le_refl _ | decide | (simp; done)); (· rfl); intro _g _F s; simp only [List.set_cons_succ, List.set_cons_zero, List.take_succ_cons, List.take_zero, List.drop_succ_cons, List.drop_zero, List.drop_nil, List.nil_append, List.cons_append, List.append_nil, Nat.zero_add, Nat.reduceAdd] at s))
        have e : doPr st.cells x = (st.cells.take (kPr st.cells x.k) ++ [⟨x.k, x.v⟩] ++ st.cells.drop (kPr st.cells x.k), ⟨0, emp⟩) := by
          have : ¬ st.cells.length = 40 := by
            have : ¬ (st.cells.length : Int) = 40 := by simpa using h40
            omega
          simp [doPr, ho, hh, this, putPr_not (x := ⟨x.k, x.v⟩) hh]
        refine Wp.r1 (s.ldn 1 rfl (by assumption) 0 2 (Nat.le_refl 2) rfl) rfl ?_
        unfold DoPost
        rw [e]
        exact ⟨rfl, v3, i3, s.tail.tail.tail, o3⟩
    · have h2 : decide (x.o = 2) = false := by simpa using h2
      have ho : ¬ x.o = 2 := by simpa using h2
      repeat (first
       | ((with_reducible refine Wp.gb ?_); refine Wp.b (by first | (with_reducible first | exact fA_p (by assumption) | exact fA_o (by assumption) | exact nilC_ptr (by assumption) | exact bin_lss .. | exact bin_leq .. | exact bin_gtr .. | exact bin_geq .. | exact bin_eql .. | exact bin_neq .. | exact bin_add .. | exact bin_sub .. | exact bin_mul .. | exact str_eql .. | exact str_neq .. | exact str_lss .. | exact str_gtr .. | exact str_geq .. | exact str_leq .. | exact not_bool .. | exact lenS_str .. | assumption) | exact (show extV (.tup _) _ = some _ from rfl) | exact s.ld1 0 rfl (by assumption) _ rfl | exact s.ld1 1 rfl (by assumption) _ rfl | exact s.ld1 2 rfl (by assumption) _ rfl | exact s.ld1 3 rfl (by assumption) _ rfl | exact s.ld1 4 rfl (by assumption) _ rfl | exact s.ld1 5 rfl (by assumption) _ rfl | exact s.ld1 6 rfl (by assumption) _ rfl | exact s.ld1 7 rfl (by assumption) _ rfl | exact s.ld1 8 rfl (by assumption) _ rfl | exact s.ld1 9 rfl (by assumption) _ rfl | exact s.ld1 10 rfl (by assumption) _ rfl | exact s.ld1 11 rfl (by assumption) _ rfl | exact bload_ld1 (by assumption) _ rfl | exact bload_ldn (by assumption) _ _ (Nat.le_refl _) | exact (show bldV _ _ = some _ from rfl) | ((first | apply s.ldn 0 rfl | apply s.ldn 1 rfl | apply s.ldn 2 rfl | apply s.ldn 3 rfl | apply s.ldn 4 rfl | apply s.ldn 5 rfl | apply s.ldn 6 rfl | apply s.ldn 7 rfl | apply s.ldn 8 rfl | apply s.ldn 9 rfl | apply s.ldn 10 rfl | apply s.ldn 11 rfl); (· assumption); (· first | exact Nat.le_refl _ | decide | (simp; done)); (· rfl))) ?_)
       | (with_reducible first | refine Wp.onT (by assumption) ?_ | refine Wp.onF (by assumption) ?_ | refine Wp.spT (by assumption) ?_ | refine Wp.spF (by assumption) ?_)
       | ((with_reducible refine Wp.gbx ?_); refine Wp.box s rfl fun _p _g _p0 _F s => ?_)
       | ((with_reducible refine Wp.gal ?_); refine Wp.alo s fun _p _g _p0 _F s => ?_)
       | ((with_reducible refine Wp.gst ?_); (first | apply Wp.sto s 0 rfl | apply Wp.sto s 1 rfl | apply Wp.sto s 2 rfl | apply Wp.sto s 3 rfl | apply Wp.sto s 4 rfl | apply Wp.sto s 5 rfl | apply Wp.sto s 6 rfl | apply Wp.sto s 7 rfl | apply Wp.sto s 8 rfl | apply Wp.sto s 9 rfl | apply Wp.sto s 10 rfl | apply Wp.sto s 11 rfl); (· assumption); (· first | rfl | assumption); (· rfl); (· first | exact Nat.le_refl _ | decide | (simp; done)); (· rfl); intro _g _F s; simp only [List.set_cons_succ, List.set_cons_zero, List.take_succ_cons, List.take_zero, List.drop_succ_cons, List.drop_zero, List.drop_nil, List.nil_append, List.cons_append, List.append_nil, Nat.zero_add, Nat.reduceAdd] at s))
      have e : doPr st.cells x = (st.cells, ⟨1, emp⟩) := by simp [doPr, ho, hh]
      refine Wp.r1 (s.ldn 0 rfl (by assumption) 0 2 (Nat.le_refl 2) rfl) rfl ?_
      unfold DoPost
      rw [e]
      exact ⟨rfl, v1, i1, s.tail.tail, o1⟩
end Go.Proofs.Ythoabddfionmoaa.AH
