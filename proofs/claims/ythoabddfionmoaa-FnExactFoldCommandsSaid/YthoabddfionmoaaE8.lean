/- PRINTED BY exgen.py (this session's own program): contracts of the exact laws' helpers. No condition. -/
import Derived.Test.YthoabddfionmoaaE1
set_option linter.unusedVariables false
set_option linter.unusedSimpArgs false
set_option maxRecDepth 100000
namespace Go.Proofs.Ythoabddfionmoaa.AH
open Go Go.RowKit
/-- The marks of one. -/
def mkCommand (k : Nat) : Cmd := ⟨((k : Nat) : Int), (((k + 1) : Nat) : Int), (((k + 2) : Nat) : Int), mt (k + 3), mt (k + 4), mt (k + 5)⟩
/-- The marks of n of them. -/
def mkLCommand : Nat → Nat → List Cmd
  | _, 0 => []
  | k, n + 1 => mkCommand k :: mkLCommand (k + 6) n
theorem mkLCommand_len : ∀ (k n : Nat), (mkLCommand k n).length = n
  | _, 0 => rfl
  | k, n + 1 => by simp [mkLCommand, mkLCommand_len]
def wCommand (c : Cmd) : Nat := (c.k.size + (c.v.size + (c.d.size + 0)))
theorem zCommand (c : Cmd) (hc : c.k.size ≤ 140737488351232 ∧ c.v.size ≤ 140737488351232 ∧ c.d.size ≤ 140737488351232) (left : Int) (h1 : 0 ≤ left) (h2 : left ≤ 1048576) (h : H) (hk : Hok h) :
    Wp (R 30 [.agg (Enc.enc c), .int .i64 left] h) fun r h' => r = .int .i64 (szr left (wCommand c)) ∧ Fr [] h h' := by
  refine R30 rfl ?_
  rw [S30_eq]
  have s := Mm.base hk
  unfold wCommand
  repeat (first
    | ((with_reducible refine Wp.gb ?_); first | (with_reducible refine Wp.b (fA_p (by assumption)) ?_) | (with_reducible refine Wp.b (fA_o (by assumption)) ?_) | (with_reducible refine Wp.b (nilC_ptr (by assumption)) ?_) | (with_reducible refine Wp.b (bin_lss _ _ _ _ _) ?_) | (with_reducible refine Wp.b (bin_leq _ _ _ _ _) ?_) | (with_reducible refine Wp.b (bin_gtr _ _ _ _ _) ?_) | (with_reducible refine Wp.b (bin_geq _ _ _ _ _) ?_) | (with_reducible refine Wp.b (bin_eql _ _ _ _ _) ?_) | (with_reducible refine Wp.b (bin_neq _ _ _ _ _) ?_) | (with_reducible refine Wp.b (bin_add _ _ _ _ _) ?_) | (with_reducible refine Wp.b (bin_sub _ _ _ _ _) ?_) | (with_reducible refine Wp.b (bin_mul _ _ _ _ _) ?_) | (with_reducible refine Wp.b (str_eql _ _ _ _) ?_) | (with_reducible refine Wp.b (str_neq _ _ _ _) ?_) | (with_reducible refine Wp.b (str_lss _ _ _ _) ?_) | (with_reducible refine Wp.b (str_gtr _ _ _ _) ?_) | (with_reducible refine Wp.b (str_geq _ _ _ _) ?_) | (with_reducible refine Wp.b (str_leq _ _ _ _) ?_) | (with_reducible refine Wp.b (not_bool _) ?_) | (with_reducible refine Wp.b (lenS_str _) ?_) | (with_reducible refine Wp.b (by assumption) ?_) | (refine Wp.b (show extV (.tup _) _ = some _ from rfl) ?_) | (refine Wp.b (s.ld1 0 rfl (by assumption) _ rfl) ?_) | (refine Wp.b (s.ld1 1 rfl (by assumption) _ rfl) ?_) | (refine Wp.b (s.ld1 2 rfl (by assumption) _ rfl) ?_) | (refine Wp.b (s.ld1 3 rfl (by assumption) _ rfl) ?_) | (refine Wp.b (s.ld1 4 rfl (by assumption) _ rfl) ?_) | (refine Wp.b (s.ld1 5 rfl (by assumption) _ rfl) ?_) | (refine Wp.b (s.ld1 6 rfl (by assumption) _ rfl) ?_) | (refine Wp.b (s.ld1 7 rfl (by assumption) _ rfl) ?_) | (refine Wp.b (s.ld1 8 rfl (by assumption) _ rfl) ?_) | (refine Wp.b (s.ld1 9 rfl (by assumption) _ rfl) ?_) | (refine Wp.b (s.ld1 10 rfl (by assumption) _ rfl) ?_) | (refine Wp.b (s.ld1 11 rfl (by assumption) _ rfl) ?_) | (refine Wp.b (s.ldn 0 rfl (by assumption) _ _ (by first | exact Nat.le_refl _ | decide | (simp; done)) rfl) ?_) | (refine Wp.b (s.ldn 1 rfl (by assumption) _ _ (by first | exact Nat.le_refl _ | decide | (simp; done)) rfl) ?_) | (refine Wp.b (s.ldn 2 rfl (by assumption) _ _ (by first | exact Nat.le_refl _ | decide | (simp; done)) rfl) ?_) | (refine Wp.b (s.ldn 3 rfl (by assumption) _ _ (by first | exact Nat.le_refl _ | decide | (simp; done)) rfl) ?_) | (refine Wp.b (s.ldn 4 rfl (by assumption) _ _ (by first | exact Nat.le_refl _ | decide | (simp; done)) rfl) ?_) | (refine Wp.b (s.ldn 5 rfl (by assumption) _ _ (by first | exact Nat.le_refl _ | decide | (simp; done)) rfl) ?_) | (refine Wp.b (s.ldn 6 rfl (by assumption) _ _ (by first | exact Nat.le_refl _ | decide | (simp; done)) rfl) ?_) | (refine Wp.b (s.ldn 7 rfl (by assumption) _ _ (by first | exact Nat.le_refl _ | decide | (simp; done)) rfl) ?_) | (refine Wp.b (s.ldn 8 rfl (by assumption) _ _ (by first | exact Nat.le_refl _ | decide | (simp; done)) rfl) ?_) | (refine Wp.b (s.ldn 9 rfl (by assumption) _ _ (by first | exact Nat.le_refl _ | decide | (simp; done)) rfl) ?_) | (refine Wp.b (s.ldn 10 rfl (by assumption) _ _ (by first | exact Nat.le_refl _ | decide | (simp; done)) rfl) ?_) | (refine Wp.b (s.ldn 11 rfl (by assumption) _ _ (by first | exact Nat.le_refl _ | decide | (simp; done)) rfl) ?_) | (refine Wp.b (bload_ld1 (by assumption) _ rfl) ?_) | (refine Wp.b (bload_ldn (by assumption) _ _ (Nat.le_refl _)) ?_) | (refine Wp.b (show bldV _ _ = some _ from rfl) ?_))
    | (with_reducible refine Wp.onT (by assumption) ?_)
    | (with_reducible refine Wp.onF (by assumption) ?_)
    | (with_reducible refine Wp.spT (by assumption) ?_)
    | (with_reducible refine Wp.spF (by assumption) ?_)
    | ((with_reducible refine Wp.gbx ?_); refine Wp.box s rfl fun _p _g _p0 _F s => ?_)
    | ((with_reducible refine Wp.gal ?_); refine Wp.alo s fun _p _g _p0 _F s => ?_))
  rw [wrap64 (by omega) (by omega)]
  refine Wp.on (fun hc0 => ?_) (fun hc0 => ?_)
  · have hc0 : left - (c.k.size : Int) < 0 := by simpa using hc0
    refine Wp.r1 rfl rfl ⟨?_, s.F⟩
    unfold szr; rw [if_pos (by omega)]
  have hc0 : ¬ left - (c.k.size : Int) < 0 := by simpa using hc0
  repeat (first
    | ((with_reducible refine Wp.gb ?_); first | (with_reducible refine Wp.b (fA_p (by assumption)) ?_) | (with_reducible refine Wp.b (fA_o (by assumption)) ?_) | (with_reducible refine Wp.b (nilC_ptr (by assumption)) ?_) | (with_reducible refine Wp.b (bin_lss _ _ _ _ _) ?_) | (with_reducible refine Wp.b (bin_leq _ _ _ _ _) ?_) | (with_reducible refine Wp.b (bin_gtr _ _ _ _ _) ?_) | (with_reducible refine Wp.b (bin_geq _ _ _ _ _) ?_) | (with_reducible refine Wp.b (bin_eql _ _ _ _ _) ?_) | (with_reducible refine Wp.b (bin_neq _ _ _ _ _) ?_) | (with_reducible refine Wp.b (bin_add _ _ _ _ _) ?_) | (with_reducible refine Wp.b (bin_sub _ _ _ _ _) ?_) | (with_reducible refine Wp.b (bin_mul _ _ _ _ _) ?_) | (with_reducible refine Wp.b (str_eql _ _ _ _) ?_) | (with_reducible refine Wp.b (str_neq _ _ _ _) ?_) | (with_reducible refine Wp.b (str_lss _ _ _ _) ?_) | (with_reducible refine Wp.b (str_gtr _ _ _ _) ?_) | (with_reducible refine Wp.b (str_geq _ _ _ _) ?_) | (with_reducible refine Wp.b (str_leq _ _ _ _) ?_) | (with_reducible refine Wp.b (not_bool _) ?_) | (with_reducible refine Wp.b (lenS_str _) ?_) | (with_reducible refine Wp.b (by assumption) ?_) | (refine Wp.b (show extV (.tup _) _ = some _ from rfl) ?_) | (refine Wp.b (s.ld1 0 rfl (by assumption) _ rfl) ?_) | (refine Wp.b (s.ld1 1 rfl (by assumption) _ rfl) ?_) | (refine Wp.b (s.ld1 2 rfl (by assumption) _ rfl) ?_) | (refine Wp.b (s.ld1 3 rfl (by assumption) _ rfl) ?_) | (refine Wp.b (s.ld1 4 rfl (by assumption) _ rfl) ?_) | (refine Wp.b (s.ld1 5 rfl (by assumption) _ rfl) ?_) | (refine Wp.b (s.ld1 6 rfl (by assumption) _ rfl) ?_) | (refine Wp.b (s.ld1 7 rfl (by assumption) _ rfl) ?_) | (refine Wp.b (s.ld1 8 rfl (by assumption) _ rfl) ?_) | (refine Wp.b (s.ld1 9 rfl (by assumption) _ rfl) ?_) | (refine Wp.b (s.ld1 10 rfl (by assumption) _ rfl) ?_) | (refine Wp.b (s.ld1 11 rfl (by assumption) _ rfl) ?_) | (refine Wp.b (s.ldn 0 rfl (by assumption) _ _ (by first | exact Nat.le_refl _ | decide | (simp; done)) rfl) ?_) | (refine Wp.b (s.ldn 1 rfl (by assumption) _ _ (by first | exact Nat.le_refl _ | decide | (simp; done)) rfl) ?_) | (refine Wp.b (s.ldn 2 rfl (by assumption) _ _ (by first | exact Nat.le_refl _ | decide | (simp; done)) rfl) ?_) | (refine Wp.b (s.ldn 3 rfl (by assumption) _ _ (by first | exact Nat.le_refl _ | decide | (simp; done)) rfl) ?_) | (refine Wp.b (s.ldn 4 rfl (by assumption) _ _ (by first | exact Nat.le_refl _ | decide | (simp; done)) rfl) ?_) | (refine Wp.b (s.ldn 5 rfl (by assumption) _ _ (by first | exact Nat.le_refl _ | decide | (simp; done)) rfl) ?_) | (refine Wp.b (s.ldn 6 rfl (by assumption) _ _ (by first | exact Nat.le_refl _ | decide | (simp; done)) rfl) ?_) | (refine Wp.b (s.ldn 7 rfl (by assumption) _ _ (by first | exact Nat.le_refl _ | decide | (simp; done)) rfl) ?_) | (refine Wp.b (s.ldn 8 rfl (by assumption) _ _ (by first | exact Nat.le_refl _ | decide | (simp; done)) rfl) ?_) | (refine Wp.b (s.ldn 9 rfl (by assumption) _ _ (by first | exact Nat.le_refl _ | decide | (simp; done)) rfl) ?_) | (refine Wp.b (s.ldn 10 rfl (by assumption) _ _ (by first | exact Nat.le_refl _ | decide | (simp; done)) rfl) ?_) | (refine Wp.b (s.ldn 11 rfl (by assumption) _ _ (by first | exact Nat.le_refl _ | decide | (simp; done)) rfl) ?_) | (refine Wp.b (bload_ld1 (by assumption) _ rfl) ?_) | (refine Wp.b (bload_ldn (by assumption) _ _ (Nat.le_refl _)) ?_) | (refine Wp.b (show bldV _ _ = some _ from rfl) ?_))
    | (with_reducible refine Wp.onT (by assumption) ?_)
    | (with_reducible refine Wp.onF (by assumption) ?_)
    | (with_reducible refine Wp.spT (by assumption) ?_)
    | (with_reducible refine Wp.spF (by assumption) ?_)
    | ((with_reducible refine Wp.gbx ?_); refine Wp.box s rfl fun _p _g _p0 _F s => ?_)
    | ((with_reducible refine Wp.gal ?_); refine Wp.alo s fun _p _g _p0 _F s => ?_))
  rw [wrap64 (by omega) (by omega)]
  refine Wp.on (fun hc1 => ?_) (fun hc1 => ?_)
  · have hc1 : left - (c.k.size : Int) - (c.v.size : Int) < 0 := by simpa using hc1
    refine Wp.r1 rfl rfl ⟨?_, s.F⟩
    unfold szr; rw [if_pos (by omega)]
  have hc1 : ¬ left - (c.k.size : Int) - (c.v.size : Int) < 0 := by simpa using hc1
  repeat (first
    | ((with_reducible refine Wp.gb ?_); first | (with_reducible refine Wp.b (fA_p (by assumption)) ?_) | (with_reducible refine Wp.b (fA_o (by assumption)) ?_) | (with_reducible refine Wp.b (nilC_ptr (by assumption)) ?_) | (with_reducible refine Wp.b (bin_lss _ _ _ _ _) ?_) | (with_reducible refine Wp.b (bin_leq _ _ _ _ _) ?_) | (with_reducible refine Wp.b (bin_gtr _ _ _ _ _) ?_) | (with_reducible refine Wp.b (bin_geq _ _ _ _ _) ?_) | (with_reducible refine Wp.b (bin_eql _ _ _ _ _) ?_) | (with_reducible refine Wp.b (bin_neq _ _ _ _ _) ?_) | (with_reducible refine Wp.b (bin_add _ _ _ _ _) ?_) | (with_reducible refine Wp.b (bin_sub _ _ _ _ _) ?_) | (with_reducible refine Wp.b (bin_mul _ _ _ _ _) ?_) | (with_reducible refine Wp.b (str_eql _ _ _ _) ?_) | (with_reducible refine Wp.b (str_neq _ _ _ _) ?_) | (with_reducible refine Wp.b (str_lss _ _ _ _) ?_) | (with_reducible refine Wp.b (str_gtr _ _ _ _) ?_) | (with_reducible refine Wp.b (str_geq _ _ _ _) ?_) | (with_reducible refine Wp.b (str_leq _ _ _ _) ?_) | (with_reducible refine Wp.b (not_bool _) ?_) | (with_reducible refine Wp.b (lenS_str _) ?_) | (with_reducible refine Wp.b (by assumption) ?_) | (refine Wp.b (show extV (.tup _) _ = some _ from rfl) ?_) | (refine Wp.b (s.ld1 0 rfl (by assumption) _ rfl) ?_) | (refine Wp.b (s.ld1 1 rfl (by assumption) _ rfl) ?_) | (refine Wp.b (s.ld1 2 rfl (by assumption) _ rfl) ?_) | (refine Wp.b (s.ld1 3 rfl (by assumption) _ rfl) ?_) | (refine Wp.b (s.ld1 4 rfl (by assumption) _ rfl) ?_) | (refine Wp.b (s.ld1 5 rfl (by assumption) _ rfl) ?_) | (refine Wp.b (s.ld1 6 rfl (by assumption) _ rfl) ?_) | (refine Wp.b (s.ld1 7 rfl (by assumption) _ rfl) ?_) | (refine Wp.b (s.ld1 8 rfl (by assumption) _ rfl) ?_) | (refine Wp.b (s.ld1 9 rfl (by assumption) _ rfl) ?_) | (refine Wp.b (s.ld1 10 rfl (by assumption) _ rfl) ?_) | (refine Wp.b (s.ld1 11 rfl (by assumption) _ rfl) ?_) | (refine Wp.b (s.ldn 0 rfl (by assumption) _ _ (by first | exact Nat.le_refl _ | decide | (simp; done)) rfl) ?_) | (refine Wp.b (s.ldn 1 rfl (by assumption) _ _ (by first | exact Nat.le_refl _ | decide | (simp; done)) rfl) ?_) | (refine Wp.b (s.ldn 2 rfl (by assumption) _ _ (by first | exact Nat.le_refl _ | decide | (simp; done)) rfl) ?_) | (refine Wp.b (s.ldn 3 rfl (by assumption) _ _ (by first | exact Nat.le_refl _ | decide | (simp; done)) rfl) ?_) | (refine Wp.b (s.ldn 4 rfl (by assumption) _ _ (by first | exact Nat.le_refl _ | decide | (simp; done)) rfl) ?_) | (refine Wp.b (s.ldn 5 rfl (by assumption) _ _ (by first | exact Nat.le_refl _ | decide | (simp; done)) rfl) ?_) | (refine Wp.b (s.ldn 6 rfl (by assumption) _ _ (by first | exact Nat.le_refl _ | decide | (simp; done)) rfl) ?_) | (refine Wp.b (s.ldn 7 rfl (by assumption) _ _ (by first | exact Nat.le_refl _ | decide | (simp; done)) rfl) ?_) | (refine Wp.b (s.ldn 8 rfl (by assumption) _ _ (by first | exact Nat.le_refl _ | decide | (simp; done)) rfl) ?_) | (refine Wp.b (s.ldn 9 rfl (by assumption) _ _ (by first | exact Nat.le_refl _ | decide | (simp; done)) rfl) ?_) | (refine Wp.b (s.ldn 10 rfl (by assumption) _ _ (by first | exact Nat.le_refl _ | decide | (simp; done)) rfl) ?_) | (refine Wp.b (s.ldn 11 rfl (by assumption) _ _ (by first | exact Nat.le_refl _ | decide | (simp; done)) rfl) ?_) | (refine Wp.b (bload_ld1 (by assumption) _ rfl) ?_) | (refine Wp.b (bload_ldn (by assumption) _ _ (Nat.le_refl _)) ?_) | (refine Wp.b (show bldV _ _ = some _ from rfl) ?_))
    | (with_reducible refine Wp.onT (by assumption) ?_)
    | (with_reducible refine Wp.onF (by assumption) ?_)
    | (with_reducible refine Wp.spT (by assumption) ?_)
    | (with_reducible refine Wp.spF (by assumption) ?_)
    | ((with_reducible refine Wp.gbx ?_); refine Wp.box s rfl fun _p _g _p0 _F s => ?_)
    | ((with_reducible refine Wp.gal ?_); refine Wp.alo s fun _p _g _p0 _F s => ?_))
  rw [wrap64 (by omega) (by omega)]
  refine Wp.on (fun hc2 => ?_) (fun hc2 => ?_)
  · have hc2 : left - (c.k.size : Int) - (c.v.size : Int) - (c.d.size : Int) < 0 := by simpa using hc2
    refine Wp.r1 rfl rfl ⟨?_, s.F⟩
    unfold szr; rw [if_pos (by omega)]
  have hc2 : ¬ left - (c.k.size : Int) - (c.v.size : Int) - (c.d.size : Int) < 0 := by simpa using hc2
  refine Wp.r1 rfl rfl ⟨?_, s.F⟩
  unfold szr; rw [if_neg (by omega)]
  congr 1; omega
def wCommandS : List Cmd → Nat
  | [] => 0
  | c :: l => wCommand c + wCommandS l
theorem zCommandS_l (v : V) : ∀ (B A : List Cmd), A.length + B.length ≤ 1048576 → (∀ c ∈ B, c.k.size ≤ 140737488351232 ∧ c.v.size ≤ 140737488351232 ∧ c.d.size ≤ 140737488351232) → ∀ (left : Int), 0 ≤ left → left ≤ 1048576 → ∀ h, Hok h → RV h v (A ++ B) →
    Wp (S6_l5 R v (.int .i64 left) (.int .i64 A.length) h) fun r h' => r = .int .i64 (szr left (wCommandS B)) ∧ Fr [] h h'
  | [], A, hn, hs, left, h1, h2, h, hk, r => by
    rw [S6_l5_eq]
    refine Wp.b r.len (Wp.b (bin_lss _ _ _ _ _) (Wp.onF (by simp) (Wp.r1 rfl rfl ⟨?_, Fr.refl _ _⟩)))
    unfold wCommandS szr; rw [if_neg (by omega)]; simp
  | x :: B, A, hn, hs, left, h1, h2, h, hk, r => by
    rw [S6_l5_eq]
    simp only [List.length_cons] at hn
    obtain ⟨b, o, b0, bl, e1, e2⟩ := r.mid
    refine Wp.b r.len (Wp.b (bin_lss _ _ _ _ _) (Wp.onT (by simp; omega) ?_))
    refine Wp.b e1 (Wp.b (bload_ldn e2 0 6 (Nat.le_refl _)) ?_)
    refine Wp.bind (zCommand x (hs x (by simp)) left h1 h2 h hk) ?_
    rintro _ h3 ⟨rfl, F⟩
    refine Wp.b (bin_lss _ _ _ _ _) (Wp.on (fun hc => ?_) (fun hc => ?_))
    · have hc : szr left (wCommand x) < 0 := by simpa using hc
      have : left < (wCommand x : Int) := by unfold szr at hc; split at hc <;> omega
      refine Wp.r1 rfl rfl ⟨?_, F⟩
      unfold wCommandS; rw [szr_neg _ this]
    · have hc : ¬ szr left (wCommand x) < 0 := by simpa using hc
      have hx := szr_ok hc h1
      have e3 : szr left (wCommand x) = left - wCommand x := by unfold szr; rw [if_neg (by omega)]
      refine Wp.b (bin_add _ _ _ _ _) ?_
      rw [inc64 (by omega)]
      dsimp only
      rw [e3]
      have i1 := zCommandS_l v B (A ++ [x]) (by simp; omega) (fun c hc => hs c (List.mem_cons_of_mem _ hc)) (left - wCommand x) (by omega) (by omega) h3 (F.ok hk) (by simpa using r.fr F)
      rw [List.length_append, List.length_singleton] at i1
      exact i1.mono fun r h'' ⟨q, F'⟩ => ⟨by rw [q, szr_add _ _ _ (by omega)]; rfl, F.trans0 F'⟩
theorem zCommandS (l : List Cmd) (hn : l.length ≤ 140737488351232) (hs : ∀ c ∈ l, c.k.size ≤ 140737488351232 ∧ c.v.size ≤ 140737488351232 ∧ c.d.size ≤ 140737488351232) (left : Int) (h1 : 0 ≤ left) (h2 : left ≤ 1048576) (v : V) (h : H) (hk : Hok h) (r : RV h v l) :
    Wp (R 6 [v, .int .i64 left] h) fun r h' => r = .int .i64 (szr left (l.length + wCommandS l)) ∧ Fr [] h h' := by
  refine R6 rfl ?_
  rw [S6_eq]
  refine Wp.b r.len (Wp.b (bin_sub _ _ _ _ _) ?_)
  rw [wrap64 (by omega) (by omega)]
  refine Wp.b (bin_lss _ _ _ _ _) (Wp.on (fun hc => ?_) (fun hc => ?_))
  · have hc : left - (l.length : Int) < 0 := by simpa using hc
    refine Wp.r1 rfl rfl ⟨?_, Fr.refl _ _⟩
    rw [szr_neg _ (by omega)]
  · have hc : ¬ left - (l.length : Int) < 0 := by simpa using hc
    have i1 := zCommandS_l v l [] (by simp; omega) hs (left - l.length) (by omega) (by omega) h hk r
    exact i1.mono fun r h'' ⟨q, F'⟩ => ⟨by rw [q, szr_add _ _ _ (by omega)], F'⟩
theorem tCommand (c : Cmd) (h : H) (hk : Hok h) : Wp (R 33 [.agg (Enc.enc c)] h) fun r h' => r = .agg (Enc.enc c) ∧ Fr [] h h' := by
  refine R33 rfl ?_
  rw [S33_eq]
  have s := Mm.base hk
  repeat (first
    | ((with_reducible refine Wp.gb ?_); first | (with_reducible refine Wp.b (fA_p (by assumption)) ?_) | (with_reducible refine Wp.b (fA_o (by assumption)) ?_) | (with_reducible refine Wp.b (nilC_ptr (by assumption)) ?_) | (with_reducible refine Wp.b (bin_lss _ _ _ _ _) ?_) | (with_reducible refine Wp.b (bin_leq _ _ _ _ _) ?_) | (with_reducible refine Wp.b (bin_gtr _ _ _ _ _) ?_) | (with_reducible refine Wp.b (bin_geq _ _ _ _ _) ?_) | (with_reducible refine Wp.b (bin_eql _ _ _ _ _) ?_) | (with_reducible refine Wp.b (bin_neq _ _ _ _ _) ?_) | (with_reducible refine Wp.b (bin_add _ _ _ _ _) ?_) | (with_reducible refine Wp.b (bin_sub _ _ _ _ _) ?_) | (with_reducible refine Wp.b (bin_mul _ _ _ _ _) ?_) | (with_reducible refine Wp.b (str_eql _ _ _ _) ?_) | (with_reducible refine Wp.b (str_neq _ _ _ _) ?_) | (with_reducible refine Wp.b (str_lss _ _ _ _) ?_) | (with_reducible refine Wp.b (str_gtr _ _ _ _) ?_) | (with_reducible refine Wp.b (str_geq _ _ _ _) ?_) | (with_reducible refine Wp.b (str_leq _ _ _ _) ?_) | (with_reducible refine Wp.b (not_bool _) ?_) | (with_reducible refine Wp.b (lenS_str _) ?_) | (with_reducible refine Wp.b (by assumption) ?_) | (refine Wp.b (show extV (.tup _) _ = some _ from rfl) ?_) | (refine Wp.b (s.ld1 0 rfl (by assumption) _ rfl) ?_) | (refine Wp.b (s.ld1 1 rfl (by assumption) _ rfl) ?_) | (refine Wp.b (s.ld1 2 rfl (by assumption) _ rfl) ?_) | (refine Wp.b (s.ld1 3 rfl (by assumption) _ rfl) ?_) | (refine Wp.b (s.ld1 4 rfl (by assumption) _ rfl) ?_) | (refine Wp.b (s.ld1 5 rfl (by assumption) _ rfl) ?_) | (refine Wp.b (s.ld1 6 rfl (by assumption) _ rfl) ?_) | (refine Wp.b (s.ld1 7 rfl (by assumption) _ rfl) ?_) | (refine Wp.b (s.ld1 8 rfl (by assumption) _ rfl) ?_) | (refine Wp.b (s.ld1 9 rfl (by assumption) _ rfl) ?_) | (refine Wp.b (s.ld1 10 rfl (by assumption) _ rfl) ?_) | (refine Wp.b (s.ld1 11 rfl (by assumption) _ rfl) ?_) | (refine Wp.b (s.ldn 0 rfl (by assumption) _ _ (by first | exact Nat.le_refl _ | decide | (simp; done)) rfl) ?_) | (refine Wp.b (s.ldn 1 rfl (by assumption) _ _ (by first | exact Nat.le_refl _ | decide | (simp; done)) rfl) ?_) | (refine Wp.b (s.ldn 2 rfl (by assumption) _ _ (by first | exact Nat.le_refl _ | decide | (simp; done)) rfl) ?_) | (refine Wp.b (s.ldn 3 rfl (by assumption) _ _ (by first | exact Nat.le_refl _ | decide | (simp; done)) rfl) ?_) | (refine Wp.b (s.ldn 4 rfl (by assumption) _ _ (by first | exact Nat.le_refl _ | decide | (simp; done)) rfl) ?_) | (refine Wp.b (s.ldn 5 rfl (by assumption) _ _ (by first | exact Nat.le_refl _ | decide | (simp; done)) rfl) ?_) | (refine Wp.b (s.ldn 6 rfl (by assumption) _ _ (by first | exact Nat.le_refl _ | decide | (simp; done)) rfl) ?_) | (refine Wp.b (s.ldn 7 rfl (by assumption) _ _ (by first | exact Nat.le_refl _ | decide | (simp; done)) rfl) ?_) | (refine Wp.b (s.ldn 8 rfl (by assumption) _ _ (by first | exact Nat.le_refl _ | decide | (simp; done)) rfl) ?_) | (refine Wp.b (s.ldn 9 rfl (by assumption) _ _ (by first | exact Nat.le_refl _ | decide | (simp; done)) rfl) ?_) | (refine Wp.b (s.ldn 10 rfl (by assumption) _ _ (by first | exact Nat.le_refl _ | decide | (simp; done)) rfl) ?_) | (refine Wp.b (s.ldn 11 rfl (by assumption) _ _ (by first | exact Nat.le_refl _ | decide | (simp; done)) rfl) ?_) | (refine Wp.b (bload_ld1 (by assumption) _ rfl) ?_) | (refine Wp.b (bload_ldn (by assumption) _ _ (Nat.le_refl _)) ?_) | (refine Wp.b (show bldV _ _ = some _ from rfl) ?_))
    | (with_reducible refine Wp.onT (by assumption) ?_)
    | (with_reducible refine Wp.onF (by assumption) ?_)
    | (with_reducible refine Wp.spT (by assumption) ?_)
    | (with_reducible refine Wp.spF (by assumption) ?_)
    | ((with_reducible refine Wp.gbx ?_); refine Wp.box s rfl fun _p _g _p0 _F s => ?_)
    | ((with_reducible refine Wp.gal ?_); refine Wp.alo s fun _p _g _p0 _F s => ?_)
    | ((with_reducible refine Wp.gst ?_); apply Wp.sto s 0 rfl; (· assumption); (· first | rfl | assumption); (· rfl); (· first | exact Nat.le_refl _ | decide | (simp; done)); (· rfl); intro _g _F s; simp only [List.set_cons_succ, List.set_cons_zero, List.take_succ_cons, List.take_zero, List.drop_succ_cons, List.drop_zero, List.drop_nil, List.nil_append, List.cons_append, List.append_nil, Nat.zero_add, Nat.reduceAdd] at s)
    | ((with_reducible refine Wp.gst ?_); apply Wp.sto s 1 rfl; (· assumption); (· first | rfl | assumption); (· rfl); (· first | exact Nat.le_refl _ | decide | (simp; done)); (· rfl); intro _g _F s; simp only [List.set_cons_succ, List.set_cons_zero, List.take_succ_cons, List.take_zero, List.drop_succ_cons, List.drop_zero, List.drop_nil, List.nil_append, List.cons_append, List.append_nil, Nat.zero_add, Nat.reduceAdd] at s)
    | ((with_reducible refine Wp.gst ?_); apply Wp.sto s 2 rfl; (· assumption); (· first | rfl | assumption); (· rfl); (· first | exact Nat.le_refl _ | decide | (simp; done)); (· rfl); intro _g _F s; simp only [List.set_cons_succ, List.set_cons_zero, List.take_succ_cons, List.take_zero, List.drop_succ_cons, List.drop_zero, List.drop_nil, List.nil_append, List.cons_append, List.append_nil, Nat.zero_add, Nat.reduceAdd] at s)
    | ((with_reducible refine Wp.gst ?_); apply Wp.sto s 3 rfl; (· assumption); (· first | rfl | assumption); (· rfl); (· first | exact Nat.le_refl _ | decide | (simp; done)); (· rfl); intro _g _F s; simp only [List.set_cons_succ, List.set_cons_zero, List.take_succ_cons, List.take_zero, List.drop_succ_cons, List.drop_zero, List.drop_nil, List.nil_append, List.cons_append, List.append_nil, Nat.zero_add, Nat.reduceAdd] at s)
    | ((with_reducible refine Wp.gst ?_); apply Wp.sto s 4 rfl; (· assumption); (· first | rfl | assumption); (· rfl); (· first | exact Nat.le_refl _ | decide | (simp; done)); (· rfl); intro _g _F s; simp only [List.set_cons_succ, List.set_cons_zero, List.take_succ_cons, List.take_zero, List.drop_succ_cons, List.drop_zero, List.drop_nil, List.nil_append, List.cons_append, List.append_nil, Nat.zero_add, Nat.reduceAdd] at s)
    | ((with_reducible refine Wp.gst ?_); apply Wp.sto s 5 rfl; (· assumption); (· first | rfl | assumption); (· rfl); (· first | exact Nat.le_refl _ | decide | (simp; done)); (· rfl); intro _g _F s; simp only [List.set_cons_succ, List.set_cons_zero, List.take_succ_cons, List.take_zero, List.drop_succ_cons, List.drop_zero, List.drop_nil, List.nil_append, List.cons_append, List.append_nil, Nat.zero_add, Nat.reduceAdd] at s)
    | ((with_reducible refine Wp.gst ?_); apply Wp.sto s 6 rfl; (· assumption); (· first | rfl | assumption); (· rfl); (· first | exact Nat.le_refl _ | decide | (simp; done)); (· rfl); intro _g _F s; simp only [List.set_cons_succ, List.set_cons_zero, List.take_succ_cons, List.take_zero, List.drop_succ_cons, List.drop_zero, List.drop_nil, List.nil_append, List.cons_append, List.append_nil, Nat.zero_add, Nat.reduceAdd] at s)
    | ((with_reducible refine Wp.gst ?_); apply Wp.sto s 7 rfl; (· assumption); (· first | rfl | assumption); (· rfl); (· first | exact Nat.le_refl _ | decide | (simp; done)); (· rfl); intro _g _F s; simp only [List.set_cons_succ, List.set_cons_zero, List.take_succ_cons, List.take_zero, List.drop_succ_cons, List.drop_zero, List.drop_nil, List.nil_append, List.cons_append, List.append_nil, Nat.zero_add, Nat.reduceAdd] at s)
    | ((with_reducible refine Wp.gst ?_); apply Wp.sto s 8 rfl; (· assumption); (· first | rfl | assumption); (· rfl); (· first | exact Nat.le_refl _ | decide | (simp; done)); (· rfl); intro _g _F s; simp only [List.set_cons_succ, List.set_cons_zero, List.take_succ_cons, List.take_zero, List.drop_succ_cons, List.drop_zero, List.drop_nil, List.nil_append, List.cons_append, List.append_nil, Nat.zero_add, Nat.reduceAdd] at s)
    | ((with_reducible refine Wp.gst ?_); apply Wp.sto s 9 rfl; (· assumption); (· first | rfl | assumption); (· rfl); (· first | exact Nat.le_refl _ | decide | (simp; done)); (· rfl); intro _g _F s; simp only [List.set_cons_succ, List.set_cons_zero, List.take_succ_cons, List.take_zero, List.drop_succ_cons, List.drop_zero, List.drop_nil, List.nil_append, List.cons_append, List.append_nil, Nat.zero_add, Nat.reduceAdd] at s)
    | ((with_reducible refine Wp.gst ?_); apply Wp.sto s 10 rfl; (· assumption); (· first | rfl | assumption); (· rfl); (· first | exact Nat.le_refl _ | decide | (simp; done)); (· rfl); intro _g _F s; simp only [List.set_cons_succ, List.set_cons_zero, List.take_succ_cons, List.take_zero, List.drop_succ_cons, List.drop_zero, List.drop_nil, List.nil_append, List.cons_append, List.append_nil, Nat.zero_add, Nat.reduceAdd] at s)
    | ((with_reducible refine Wp.gst ?_); apply Wp.sto s 11 rfl; (· assumption); (· first | rfl | assumption); (· rfl); (· first | exact Nat.le_refl _ | decide | (simp; done)); (· rfl); intro _g _F s; simp only [List.set_cons_succ, List.set_cons_zero, List.take_succ_cons, List.take_zero, List.drop_succ_cons, List.drop_zero, List.drop_nil, List.nil_append, List.cons_append, List.append_nil, Nat.zero_add, Nat.reduceAdd] at s))
  exact Wp.r1 (s.ldn 1 rfl (by assumption) 0 6 (Nat.le_refl 6) rfl) rfl ⟨rfl, s.F⟩
theorem tCommandS_l {h0 : H} (v w : V) (a0 : Cmd) : ∀ (B A : List Cmd) (g : H) (id : Nat), A.length + B.length ≤ 1073741824 → RV h0 v (A ++ B) → Mm h0 g [(id, flat (A ++ List.replicate B.length a0))] → OV w (A ++ List.replicate B.length a0) id →
    Wp (S8_l3 R v w (.int .i64 A.length) g) fun r g' => r = w ∧ Mm h0 g' [(id, flat (A ++ B))] ∧ OV w (A ++ B) id
  | [], A, g, id, hn, r, s, ov => by
    rw [S8_l3_eq]
    refine Wp.b r.len (Wp.b (bin_lss _ _ _ _ _) (Wp.onF (by simp) (Wp.r1 rfl ov.nt ⟨rfl, by simpa using s, by simpa using ov⟩)))
  | x :: B, A, g, id, hn, r, s, ov => by
    rw [S8_l3_eq]
    simp only [List.length_cons, List.replicate_succ] at hn s ov
    obtain ⟨b, o, b0, bl, e1, e2⟩ := (s.bor r).mid
    refine Wp.b r.len (Wp.b (bin_lss _ _ _ _ _) (Wp.onT (by simp; omega) ?_))
    refine Wp.b e1 (Wp.b (bload_ldn e2 0 6 (Nat.le_refl _)) ?_)
    refine Wp.bind (tCommand x g s.k) ?_
    rintro _ g2 ⟨rfl, F⟩
    replace s := s.fr0 F
    dsimp only
    refine Wp.b ov.mid.2 ?_
    refine Wp.elm (n := 6) s 0 ov rfl x 0 rfl rfl (Nat.le_refl 6) rfl rfl fun g3 F3 ov s => ?_
    simp only [List.set_cons_zero] at s
    refine Wp.b (bin_add _ _ _ _ _) ?_
    rw [inc64 (by omega)]
    have i1 := tCommandS_l v w a0 B (A ++ [x]) g3 id (by simp; omega) (by simpa using r) (by simpa using s) (by simpa using ov)
    rw [List.length_append, List.length_singleton] at i1
    simpa using i1
theorem tCommandS (l : List Cmd) (hn : l.length ≤ 1048576) (v : V) (h : H) (hk : Hok h) (r : RV h v l) :
    Wp (R 8 [v] h) fun r g' => ∃ id, Mm h g' [(id, flat l)] ∧ OV r l id := by
  refine R8 rfl ?_
  rw [S8_eq]
  have s := Mm.base hk
  refine Wp.b r.len ?_
  refine Wp.mks s (⟨0, 0, 0, ⟨#[]⟩, ⟨#[]⟩, ⟨#[]⟩⟩ : Cmd) l.length rfl rfl (by omega) (by omega) fun w id g ov n0 F s => ?_
  refine (tCommandS_l v w _ l [] g id (by simp; omega) r s ov).mono ?_
  rintro _ g' ⟨rfl, s, ov⟩
  exact ⟨id, s, ov⟩
theorem mCommandS_l {h0 : H} (v : V) (ix : Nat) : ∀ (B A : List Cmd) (k : Nat) (g : H) (M : List (Nat × List V)) (id : Nat), 1 ≤ k → k + 6 * B.length ≤ 1073741824 → A.length + B.length ≤ 1073741824 → Mm h0 g M → OV v (A ++ B) id → M[ix]? = some (id, flat (A ++ B)) →
    Wp (S12_l2 R v (.int .i64 k) (.int .i64 A.length) g) fun r g' => r = .int .i64 ((k + 6 * B.length : Nat) : Int) ∧ Mm h0 g' (M.set ix (id, flat (A ++ mkLCommand k B.length))) ∧ OV v (A ++ mkLCommand k B.length) id
  | [], A, k, g, M, id, hk1, hk, hn, s, ov, hx => by
    rw [S12_l2_eq]
    have e : M.set ix (id, flat A) = M := by
      obtain ⟨h1, h2⟩ := List.getElem?_eq_some_iff.1 hx
      rw [List.append_nil] at h2
      rw [← h2]; exact List.set_getElem_self h1
    refine Wp.b ov.len (Wp.b (bin_lss _ _ _ _ _) (Wp.onF (by simp) (Wp.r1 rfl rfl ⟨by simp, ?_, ?_⟩)))
    · simp only [List.length_nil, mkLCommand, List.append_nil, e]; exact s
    · simpa only [List.length_nil, mkLCommand] using ov
  | x :: B, A, k, g, M, id, hk1, hk, hn, s, ov, hx => by
    rw [S12_l2_eq]
    simp only [List.length_cons] at hk hn
    have p := ov.mid
    refine Wp.b ov.len (Wp.b (bin_lss _ _ _ _ _) (Wp.onT (by simp; omega) ?_))
    refine Wp.b p.2 ?_
    refine Wp.b (fA_o p.1) ?_
    refine Wp.elm (n := 1) s ix ov hx ({ x with s := ((k : Nat) : Int) } : Cmd) 0 rfl rfl (by decide) (by first | rfl | omega) rfl ?_
    intro g0 F0 ov s
    have hx := (List.getElem?_set_self (a := (id, flat (A ++ ({ x with s := ((k : Nat) : Int) } : Cmd) :: B))) (List.getElem?_eq_some_iff.1 hx).1)
    refine Wp.b (bin_add _ _ _ _ _) ?_
    rw [inc64 (by omega)]
    refine Wp.b p.2 ?_
    refine Wp.b (fA_o p.1) ?_
    refine Wp.elm (n := 1) s ix ov hx ({ ({ x with s := ((k : Nat) : Int) } : Cmd) with n := (((k + 1) : Nat) : Int) } : Cmd) 1 rfl rfl (by decide) (by first | rfl | omega) rfl ?_
    intro g1 F1 ov s
    have hx := (List.getElem?_set_self (a := (id, flat (A ++ ({ ({ x with s := ((k : Nat) : Int) } : Cmd) with n := (((k + 1) : Nat) : Int) } : Cmd) :: B))) (List.getElem?_eq_some_iff.1 hx).1)
    refine Wp.b (bin_add _ _ _ _ _) ?_
    rw [inc64 (by omega)]
    refine Wp.b p.2 ?_
    refine Wp.b (fA_o p.1) ?_
    refine Wp.elm (n := 1) s ix ov hx ({ ({ ({ x with s := ((k : Nat) : Int) } : Cmd) with n := (((k + 1) : Nat) : Int) } : Cmd) with o := (((k + 2) : Nat) : Int) } : Cmd) 2 rfl rfl (by decide) (by first | rfl | omega) rfl ?_
    intro g2 F2 ov s
    have hx := (List.getElem?_set_self (a := (id, flat (A ++ ({ ({ ({ x with s := ((k : Nat) : Int) } : Cmd) with n := (((k + 1) : Nat) : Int) } : Cmd) with o := (((k + 2) : Nat) : Int) } : Cmd) :: B))) (List.getElem?_eq_some_iff.1 hx).1)
    refine Wp.b (bin_add _ _ _ _ _) ?_
    rw [inc64 (by omega)]
    refine Wp.bind (mText (k + 3) (by omega) (by omega) _ s.k) ?_
    rintro _ g3_ ⟨rfl, F3_⟩
    replace s := s.fr0 F3_
    refine Wp.b p.2 ?_
    refine Wp.b (fA_o p.1) ?_
    refine Wp.elm (n := 1) s ix ov hx ({ ({ ({ ({ x with s := ((k : Nat) : Int) } : Cmd) with n := (((k + 1) : Nat) : Int) } : Cmd) with o := (((k + 2) : Nat) : Int) } : Cmd) with k := mt (k + 3) } : Cmd) 3 rfl rfl (by decide) (by first | rfl | omega) rfl ?_
    intro g3 F3 ov s
    have hx := (List.getElem?_set_self (a := (id, flat (A ++ ({ ({ ({ ({ x with s := ((k : Nat) : Int) } : Cmd) with n := (((k + 1) : Nat) : Int) } : Cmd) with o := (((k + 2) : Nat) : Int) } : Cmd) with k := mt (k + 3) } : Cmd) :: B))) (List.getElem?_eq_some_iff.1 hx).1)
    refine Wp.b (bin_add _ _ _ _ _) ?_
    rw [inc64 (by omega)]
    refine Wp.bind (mText (k + 4) (by omega) (by omega) _ s.k) ?_
    rintro _ g4_ ⟨rfl, F4_⟩
    replace s := s.fr0 F4_
    refine Wp.b p.2 ?_
    refine Wp.b (fA_o p.1) ?_
    refine Wp.elm (n := 1) s ix ov hx ({ ({ ({ ({ ({ x with s := ((k : Nat) : Int) } : Cmd) with n := (((k + 1) : Nat) : Int) } : Cmd) with o := (((k + 2) : Nat) : Int) } : Cmd) with k := mt (k + 3) } : Cmd) with v := mt (k + 4) } : Cmd) 4 rfl rfl (by decide) (by first | rfl | omega) rfl ?_
    intro g4 F4 ov s
    have hx := (List.getElem?_set_self (a := (id, flat (A ++ ({ ({ ({ ({ ({ x with s := ((k : Nat) : Int) } : Cmd) with n := (((k + 1) : Nat) : Int) } : Cmd) with o := (((k + 2) : Nat) : Int) } : Cmd) with k := mt (k + 3) } : Cmd) with v := mt (k + 4) } : Cmd) :: B))) (List.getElem?_eq_some_iff.1 hx).1)
    refine Wp.b (bin_add _ _ _ _ _) ?_
    rw [inc64 (by omega)]
    refine Wp.bind (mText (k + 5) (by omega) (by omega) _ s.k) ?_
    rintro _ g5_ ⟨rfl, F5_⟩
    replace s := s.fr0 F5_
    refine Wp.b p.2 ?_
    refine Wp.b (fA_o p.1) ?_
    refine Wp.elm (n := 1) s ix ov hx ({ ({ ({ ({ ({ ({ x with s := ((k : Nat) : Int) } : Cmd) with n := (((k + 1) : Nat) : Int) } : Cmd) with o := (((k + 2) : Nat) : Int) } : Cmd) with k := mt (k + 3) } : Cmd) with v := mt (k + 4) } : Cmd) with d := mt (k + 5) } : Cmd) 5 rfl rfl (by decide) (by first | rfl | omega) rfl ?_
    intro g5 F5 ov s
    have hx := (List.getElem?_set_self (a := (id, flat (A ++ ({ ({ ({ ({ ({ ({ x with s := ((k : Nat) : Int) } : Cmd) with n := (((k + 1) : Nat) : Int) } : Cmd) with o := (((k + 2) : Nat) : Int) } : Cmd) with k := mt (k + 3) } : Cmd) with v := mt (k + 4) } : Cmd) with d := mt (k + 5) } : Cmd) :: B))) (List.getElem?_eq_some_iff.1 hx).1)
    refine Wp.b (bin_add _ _ _ _ _) ?_
    rw [inc64 (by omega)]
    refine Wp.b (bin_add _ _ _ _ _) ?_
    rw [inc64 (by omega)]
    simp only [List.set_set] at s hx
    have i1 := mCommandS_l v ix B (A ++ [mkCommand k]) (k + 6) _ _ id (by omega) (by omega) (by simp; omega) s (by simpa [mkCommand] using ov) (by simpa [mkCommand] using hx)
    rw [List.length_append, List.length_singleton] at i1
    simp only [List.set_set, List.append_assoc, List.singleton_append] at i1
    have e1 : k + 6 + 6 * B.length = k + 6 * (B.length + 1) := by omega
    rw [e1] at i1
    simp only [List.length_cons, mkLCommand]
    exact i1
theorem mCommandS {h0 g : H} {M : List (Nat × List V)} (s : Mm h0 g M) (ix : Nat) {v : V} {l : List Cmd} {id : Nat} (ov : OV v l id) (hx : M[ix]? = some (id, flat l)) (k : Nat) (hk1 : 1 ≤ k) (hk : k + 6 * l.length ≤ 1073741824) :
    Wp (R 12 [v, .int .i64 k] g) fun r g' => r = .int .i64 ((k + 6 * l.length : Nat) : Int) ∧ Mm h0 g' (M.set ix (id, flat (mkLCommand k l.length))) ∧ OV v (mkLCommand k l.length) id := by
  refine R12 rfl ?_
  rw [S12_eq]
  exact mCommandS_l v ix l [] k g M id hk1 hk (by simp; omega) s ov hx
theorem eCommandS_l (v w : V) : ∀ (B B' A A' : List Cmd), A.length = A'.length → B.length = B'.length → A.length + B.length ≤ 4611686018427387904 → ∀ h, Hok h → RV h v (A ++ B) → RV h w (A' ++ B') →
    Wp (S11_l4 R v w (.int .i64 A.length) h) fun r h' => r = .bool (decide (B = B')) ∧ Fr [] h h'
  | [], [], A, A', ha, hb, hn, h, hk, r, r' => by
    rw [S11_l4_eq]
    refine Wp.b r.len (Wp.b (bin_lss _ _ _ _ _) (Wp.onF (by simp) (Wp.r1 rfl rfl ⟨by simp, Fr.refl _ _⟩)))
  | x :: B, y :: B', A, A', ha, hb, hn, h, hk, r, r' => by
    rw [S11_l4_eq]
    obtain ⟨b, o, b0, bl, e1, e2⟩ := r.mid
    obtain ⟨c, p, c0, cl, f1, f2⟩ := r'.mid
    rw [← ha] at f1
    simp only [List.length_cons] at hn hb
    refine Wp.b r.len (Wp.b (bin_lss _ _ _ _ _) (Wp.onT (by simp; omega) ?_))
    have g1 := bload_ldn e2 0 6 (Nat.le_refl _)
    have g2 := bload_ldn f2 0 6 (Nat.le_refl _)
    refine Wp.b e1 (Wp.b g1 (Wp.b f1 (Wp.b g2 ?_)))
    refine Wp.bind (eCommand x y h hk) ?_
    rintro _ h1 ⟨rfl, F1⟩
    refine Wp.b (not_bool _) (Wp.on (fun hc => ?_) (fun hc => ?_))
    · have : x ≠ y := by simpa using hc
      exact Wp.r1 rfl rfl ⟨by simp [this], F1⟩
    · have : x = y := by simpa using hc
      subst this
      refine Wp.b (bin_add _ _ _ _ _) ?_
      rw [inc64 (by omega)]
      have i1 := eCommandS_l v w B B' (A ++ [x]) (A' ++ [x]) (by simp [ha]) (by omega) (by simp; omega) h1 (F1.ok hk) (by simpa using r.fr F1) (by simpa using r'.fr F1)
      rw [List.length_append, List.length_singleton] at i1
      exact i1.mono fun r h'' ⟨q, F'⟩ => ⟨by rw [q]; simp, F1.trans0 F'⟩
  | [], y :: B', A, A', ha, hb, hn, h, hk, r, r' => by simp at hb
  | x :: B, [], A, A', ha, hb, hn, h, hk, r, r' => by simp at hb
theorem eCommandS (l m : List Cmd) (hn : l.length ≤ 4611686018427387904) (hm : m.length ≤ 4611686018427387904) (v w : V) (h : H) (hk : Hok h) (r : RV h v l) (r' : RV h w m) :
    Wp (R 11 [v, w] h) fun r h' => r = .bool (decide (l = m)) ∧ Fr [] h h' := by
  refine R11 rfl ?_
  rw [S11_eq]
  refine Wp.b r.len (Wp.b r'.len (Wp.b (bin_neq _ _ _ _ _) (Wp.on (fun hc => ?_) (fun hc => ?_))))
  · have : l ≠ m := by rintro rfl; simp at hc
    exact Wp.r1 rfl rfl ⟨by simp [this], Fr.refl _ _⟩
  · have hl : l.length = m.length := by simp at hc; omega
    have := eCommandS_l v w l m [] [] rfl hl (by simpa using hn) h hk (by simpa using r) (by simpa using r')
    simpa using this
end Go.Proofs.Ythoabddfionmoaa.AH
