/- The program applies a command, over blocks of its own. The program folds commands, over blocks of its own. In a row each number of a session changes the map once at the most. Bytes and pure calls: further words for walks over blocks of their own. A number's bytes, by the program and by the reference. A number out of its bytes, a text out of its length and itself. A command out of its bytes: what the program reads of what it wrote is what was written. A command's bytes, by the program and by the reference. No condition. -/
import Derived.Test.YthoabddfionmoaaK35
import Derived.Test.YthoabddfionmoaaK34
import Derived.Test.YthoabddfionmoaaK31
import Derived.Test.YthoabddfionmoaaK32
import Derived.Test.YthoabddfionmoaaK3St
set_option linter.unusedVariables false
set_option linter.unusedSimpArgs false
set_option maxRecDepth 100000
namespace Go.Proofs.Ythoabddfionmoaa.AH
open Go Go.RowKit
def ApPost (st : Kv) (rp : Rp) (h0 : H) (M : List (Nat × List V)) (p : Nat) : V → H → Prop := fun r g' => r = .agg rp.en ∧
  ∃ v1 i1 v2 i2, Mm h0 g' ((p, [v1, v2]) :: (i1, flat st.cells) :: (i2, flat st.sess) :: M) ∧ OV v1 st.cells i1 ∧ OV v2 st.sess i2
set_option maxHeartbeats 4000000 in
theorem j12ap (cells : List Pr) (L : List Se) (hs : Kv.ok ⟨cells, L⟩) (hr : Kv.srt ⟨cells, L⟩) (x : Cmd) (k : Nat) (hk : k < L.length) {h0 g : H} {M : List (Nat × List V)} {p i1 i2 q d : Nat} {v1 v2 : V} (cs : List V) (hcs : cs.length = 2)
    (s : Mm h0 g ((q, cs) :: (d, x.en) :: (p, [v1, v2]) :: (i1, flat cells) :: (i2, flat L) :: M)) (p0 : p ≠ 0) (q0 : q ≠ 0) (d0 : d ≠ 0) (o1 : OV v1 cells i1) (o2 : OV v2 L i2) :
    Wp (S49_j12 R (.ptr p 0) (.ptr d 0) (.ptr q 0) (.int .i64 k) g) (ApPost ⟨(doPr cells x).1, L.set k ⟨L[k].i, x.n, (doPr cells x).2⟩⟩ (doPr cells x).2 h0 M p) := by
  rw [S49_j12_eq]
  have _c := o1.cells
  have _n := o1.nt
  have _c := o2.cells
  have _n := o2.nt
  repeat (first
   | ((with_reducible refine Wp.gb ?_); refine Wp.b (by first | (with_reducible first | exact fA_p (by assumption) | exact fA_o (by assumption) | exact nilC_ptr (by assumption) | exact bin_lss .. | exact bin_leq .. | exact bin_gtr .. | exact bin_geq .. | exact bin_eql .. | exact bin_neq .. | exact bin_add .. | exact bin_sub .. | exact bin_mul .. | exact str_eql .. | exact str_neq .. | exact str_lss .. | exact str_gtr .. | exact str_geq .. | exact str_leq .. | exact not_bool .. | exact lenS_str .. | assumption) | exact (show extV (.tup _) _ = some _ from rfl) | exact s.ld1 0 rfl (by assumption) _ rfl | exact s.ld1 1 rfl (by assumption) _ rfl | exact s.ld1 2 rfl (by assumption) _ rfl | exact s.ld1 3 rfl (by assumption) _ rfl | exact s.ld1 4 rfl (by assumption) _ rfl | exact s.ld1 5 rfl (by assumption) _ rfl | exact s.ld1 6 rfl (by assumption) _ rfl | exact s.ld1 7 rfl (by assumption) _ rfl | exact s.ld1 8 rfl (by assumption) _ rfl | exact s.ld1 9 rfl (by assumption) _ rfl | exact s.ld1 10 rfl (by assumption) _ rfl | exact s.ld1 11 rfl (by assumption) _ rfl | exact bload_ld1 (by assumption) _ rfl | exact bload_ldn (by assumption) _ _ (Nat.le_refl _) | exact (show bldV _ _ = some _ from rfl) | ((first | apply s.ldn 0 rfl | apply s.ldn 1 rfl | apply s.ldn 2 rfl | apply s.ldn 3 rfl | apply s.ldn 4 rfl | apply s.ldn 5 rfl | apply s.ldn 6 rfl | apply s.ldn 7 rfl | apply s.ldn 8 rfl | apply s.ldn 9 rfl | apply s.ldn 10 rfl | apply s.ldn 11 rfl); (· assumption); (· first | exact Nat.le_refl _ | decide | (simp; done)); (· rfl))) ?_)
   | (with_reducible first | refine Wp.onT (by assumption) ?_ | refine Wp.onF (by assumption) ?_ | refine Wp.spT (by assumption) ?_ | refine Wp.spF (by assumption) ?_)
   | ((with_reducible refine Wp.gbx ?_); refine Wp.box s rfl fun _p _g _p0 _F s => ?_)
   | ((with_reducible refine Wp.gal ?_); refine Wp.alo s fun _p _g _p0 _F s => ?_))
  have s1 : Mm h0 g ((p, [v1, v2]) :: (i1, flat cells) :: (i2, flat L) :: (q, cs) :: (d, x.en) :: M) := s.perm (by
    have : ((q, cs) :: (d, x.en) :: (p, [v1, v2]) :: (i1, flat cells) :: (i2, flat L) :: M).Perm (((p, [v1, v2]) :: (i1, flat cells) :: (i2, flat L) :: []) ++ ((q, cs) :: (d, x.en) :: M)) := (List.perm_append_comm (l₁ := [(q, cs), (d, x.en)]) (l₂ := [(p, [v1, v2]), (i1, flat cells), (i2, flat L)])).append_right M
    exact this)
  refine Wp.bind (do75 ⟨cells, L⟩ hs hr x s1 p0 o1 o2) ?_
  rintro _ g2 ⟨rfl, w1, j1, s, ow⟩
  clear s1
  dsimp only at s ow ⊢
  have _c := ow.cells
  have _n := ow.nt
  repeat (first
   | ((with_reducible refine Wp.gb ?_); refine Wp.b (by first | (with_reducible first | exact fA_p (by assumption) | exact fA_o (by assumption) | exact nilC_ptr (by assumption) | exact bin_lss .. | exact bin_leq .. | exact bin_gtr .. | exact bin_geq .. | exact bin_eql .. | exact bin_neq .. | exact bin_add .. | exact bin_sub .. | exact bin_mul .. | exact str_eql .. | exact str_neq .. | exact str_lss .. | exact str_gtr .. | exact str_geq .. | exact str_leq .. | exact not_bool .. | exact lenS_str .. | assumption) | exact (show extV (.tup _) _ = some _ from rfl) | exact s.ld1 0 rfl (by assumption) _ rfl | exact s.ld1 1 rfl (by assumption) _ rfl | exact s.ld1 2 rfl (by assumption) _ rfl | exact s.ld1 3 rfl (by assumption) _ rfl | exact s.ld1 4 rfl (by assumption) _ rfl | exact s.ld1 5 rfl (by assumption) _ rfl | exact s.ld1 6 rfl (by assumption) _ rfl | exact s.ld1 7 rfl (by assumption) _ rfl | exact s.ld1 8 rfl (by assumption) _ rfl | exact s.ld1 9 rfl (by assumption) _ rfl | exact s.ld1 10 rfl (by assumption) _ rfl | exact s.ld1 11 rfl (by assumption) _ rfl | exact bload_ld1 (by assumption) _ rfl | exact bload_ldn (by assumption) _ _ (Nat.le_refl _) | exact (show bldV _ _ = some _ from rfl) | ((first | apply s.ldn 0 rfl | apply s.ldn 1 rfl | apply s.ldn 2 rfl | apply s.ldn 3 rfl | apply s.ldn 4 rfl | apply s.ldn 5 rfl | apply s.ldn 6 rfl | apply s.ldn 7 rfl | apply s.ldn 8 rfl | apply s.ldn 9 rfl | apply s.ldn 10 rfl | apply s.ldn 11 rfl); (· assumption); (· first | exact Nat.le_refl _ | decide | (simp; done)); (· rfl))) ?_)
   | (with_reducible first | refine Wp.onT (by assumption) ?_ | refine Wp.onF (by assumption) ?_ | refine Wp.spT (by assumption) ?_ | refine Wp.spF (by assumption) ?_)
   | ((with_reducible refine Wp.gbx ?_); refine Wp.box s rfl fun _p _g _p0 _F s => ?_)
   | ((with_reducible refine Wp.gal ?_); refine Wp.alo s fun _p _g _p0 _F s => ?_)
   | ((with_reducible refine Wp.gst ?_); (first | apply Wp.sto s 0 rfl | apply Wp.sto s 1 rfl | apply Wp.sto s 2 rfl | apply Wp.sto s 3 rfl | apply Wp.sto s 4 rfl | apply Wp.sto s 5 rfl | apply Wp.sto s 6 rfl | apply Wp.sto s 7 rfl | apply Wp.sto s 8 rfl | apply Wp.sto s 9 rfl | apply Wp.sto s 10 rfl | apply Wp.sto s 11 rfl); (· assumption); (· first | rfl | assumption); (· rfl); (· first | exact Nat.le_refl _ | decide | (simp; done)); (· rfl); intro _g _F s; simp only [List.set_cons_succ, List.set_cons_zero, List.take_succ_cons, List.take_zero, List.drop_succ_cons, List.drop_zero, List.drop_nil, List.nil_append, List.cons_append, List.append_nil, Nat.zero_add, Nat.reduceAdd] at s))
  refine Wp.oa o2 rfl hk fun i0 => ?_
  repeat (first
   | ((with_reducible refine Wp.gb ?_); refine Wp.b (by first | (with_reducible first | exact fA_p (by assumption) | exact fA_o (by assumption) | exact nilC_ptr (by assumption) | exact bin_lss .. | exact bin_leq .. | exact bin_gtr .. | exact bin_geq .. | exact bin_eql .. | exact bin_neq .. | exact bin_add .. | exact bin_sub .. | exact bin_mul .. | exact str_eql .. | exact str_neq .. | exact str_lss .. | exact str_gtr .. | exact str_geq .. | exact str_leq .. | exact not_bool .. | exact lenS_str .. | assumption) | exact (show extV (.tup _) _ = some _ from rfl) | exact s.ld1 0 rfl (by assumption) _ rfl | exact s.ld1 1 rfl (by assumption) _ rfl | exact s.ld1 2 rfl (by assumption) _ rfl | exact s.ld1 3 rfl (by assumption) _ rfl | exact s.ld1 4 rfl (by assumption) _ rfl | exact s.ld1 5 rfl (by assumption) _ rfl | exact s.ld1 6 rfl (by assumption) _ rfl | exact s.ld1 7 rfl (by assumption) _ rfl | exact s.ld1 8 rfl (by assumption) _ rfl | exact s.ld1 9 rfl (by assumption) _ rfl | exact s.ld1 10 rfl (by assumption) _ rfl | exact s.ld1 11 rfl (by assumption) _ rfl | exact bload_ld1 (by assumption) _ rfl | exact bload_ldn (by assumption) _ _ (Nat.le_refl _) | exact (show bldV _ _ = some _ from rfl) | ((first | apply s.ldn 0 rfl | apply s.ldn 1 rfl | apply s.ldn 2 rfl | apply s.ldn 3 rfl | apply s.ldn 4 rfl | apply s.ldn 5 rfl | apply s.ldn 6 rfl | apply s.ldn 7 rfl | apply s.ldn 8 rfl | apply s.ldn 9 rfl | apply s.ldn 10 rfl | apply s.ldn 11 rfl); (· assumption); (· first | exact Nat.le_refl _ | decide | (simp; done)); (· rfl))) ?_)
   | (with_reducible first | refine Wp.onT (by assumption) ?_ | refine Wp.onF (by assumption) ?_ | refine Wp.spT (by assumption) ?_ | refine Wp.spF (by assumption) ?_)
   | ((with_reducible refine Wp.gbx ?_); refine Wp.box s rfl fun _p _g _p0 _F s => ?_)
   | ((with_reducible refine Wp.gal ?_); refine Wp.alo s fun _p _g _p0 _F s => ?_))
  refine Wp.els (n := 1) s 3 o2 rfl hk ⟨L[k].i, x.n, L[k].r⟩ 1 rfl rfl (by decide) rfl rfl fun _g F o2 s' => ?_
  refine Wp.pdi F (by assumption) (s.blk (i := 0) rfl (by assumption)).2.1 (s.ne 0 3 (by decide) rfl rfl (by assumption)) ?_
  replace s := s'
  simp only [List.set_cons_succ, List.set_cons_zero] at s
  refine Wp.oa o2 rfl (by simpa using hk) fun i0 => ?_
  repeat (first
   | ((with_reducible refine Wp.gb ?_); refine Wp.b (by first | (with_reducible first | exact fA_p (by assumption) | exact fA_o (by assumption) | exact nilC_ptr (by assumption) | exact bin_lss .. | exact bin_leq .. | exact bin_gtr .. | exact bin_geq .. | exact bin_eql .. | exact bin_neq .. | exact bin_add .. | exact bin_sub .. | exact bin_mul .. | exact str_eql .. | exact str_neq .. | exact str_lss .. | exact str_gtr .. | exact str_geq .. | exact str_leq .. | exact not_bool .. | exact lenS_str .. | assumption) | exact (show extV (.tup _) _ = some _ from rfl) | exact s.ld1 0 rfl (by assumption) _ rfl | exact s.ld1 1 rfl (by assumption) _ rfl | exact s.ld1 2 rfl (by assumption) _ rfl | exact s.ld1 3 rfl (by assumption) _ rfl | exact s.ld1 4 rfl (by assumption) _ rfl | exact s.ld1 5 rfl (by assumption) _ rfl | exact s.ld1 6 rfl (by assumption) _ rfl | exact s.ld1 7 rfl (by assumption) _ rfl | exact s.ld1 8 rfl (by assumption) _ rfl | exact s.ld1 9 rfl (by assumption) _ rfl | exact s.ld1 10 rfl (by assumption) _ rfl | exact s.ld1 11 rfl (by assumption) _ rfl | exact bload_ld1 (by assumption) _ rfl | exact bload_ldn (by assumption) _ _ (Nat.le_refl _) | exact (show bldV _ _ = some _ from rfl) | ((first | apply s.ldn 0 rfl | apply s.ldn 1 rfl | apply s.ldn 2 rfl | apply s.ldn 3 rfl | apply s.ldn 4 rfl | apply s.ldn 5 rfl | apply s.ldn 6 rfl | apply s.ldn 7 rfl | apply s.ldn 8 rfl | apply s.ldn 9 rfl | apply s.ldn 10 rfl | apply s.ldn 11 rfl); (· assumption); (· first | exact Nat.le_refl _ | decide | (simp; done)); (· rfl))) ?_)
   | (with_reducible first | refine Wp.onT (by assumption) ?_ | refine Wp.onF (by assumption) ?_ | refine Wp.spT (by assumption) ?_ | refine Wp.spF (by assumption) ?_)
   | ((with_reducible refine Wp.gbx ?_); refine Wp.box s rfl fun _p _g _p0 _F s => ?_)
   | ((with_reducible refine Wp.gal ?_); refine Wp.alo s fun _p _g _p0 _F s => ?_))
  refine Wp.els (n := 2) s 3 o2 rfl (k := k) (by simpa using hk) ⟨L[k].i, x.n, (doPr cells x).2⟩ 2 rfl rfl (by decide) rfl (by simp; rfl) fun _g _F o2 s => ?_
  simp only [List.set_cons_succ, List.set_cons_zero, List.set_set] at s o2
  repeat (first
   | ((with_reducible refine Wp.gb ?_); refine Wp.b (by first | (with_reducible first | exact fA_p (by assumption) | exact fA_o (by assumption) | exact nilC_ptr (by assumption) | exact bin_lss .. | exact bin_leq .. | exact bin_gtr .. | exact bin_geq .. | exact bin_eql .. | exact bin_neq .. | exact bin_add .. | exact bin_sub .. | exact bin_mul .. | exact str_eql .. | exact str_neq .. | exact str_lss .. | exact str_gtr .. | exact str_geq .. | exact str_leq .. | exact not_bool .. | exact lenS_str .. | assumption) | exact (show extV (.tup _) _ = some _ from rfl) | exact s.ld1 0 rfl (by assumption) _ rfl | exact s.ld1 1 rfl (by assumption) _ rfl | exact s.ld1 2 rfl (by assumption) _ rfl | exact s.ld1 3 rfl (by assumption) _ rfl | exact s.ld1 4 rfl (by assumption) _ rfl | exact s.ld1 5 rfl (by assumption) _ rfl | exact s.ld1 6 rfl (by assumption) _ rfl | exact s.ld1 7 rfl (by assumption) _ rfl | exact s.ld1 8 rfl (by assumption) _ rfl | exact s.ld1 9 rfl (by assumption) _ rfl | exact s.ld1 10 rfl (by assumption) _ rfl | exact s.ld1 11 rfl (by assumption) _ rfl | exact bload_ld1 (by assumption) _ rfl | exact bload_ldn (by assumption) _ _ (Nat.le_refl _) | exact (show bldV _ _ = some _ from rfl) | ((first | apply s.ldn 0 rfl | apply s.ldn 1 rfl | apply s.ldn 2 rfl | apply s.ldn 3 rfl | apply s.ldn 4 rfl | apply s.ldn 5 rfl | apply s.ldn 6 rfl | apply s.ldn 7 rfl | apply s.ldn 8 rfl | apply s.ldn 9 rfl | apply s.ldn 10 rfl | apply s.ldn 11 rfl); (· assumption); (· first | exact Nat.le_refl _ | decide | (simp; done)); (· rfl))) ?_)
   | (with_reducible first | refine Wp.onT (by assumption) ?_ | refine Wp.onF (by assumption) ?_ | refine Wp.spT (by assumption) ?_ | refine Wp.spF (by assumption) ?_)
   | ((with_reducible refine Wp.gbx ?_); refine Wp.box s rfl fun _p _g _p0 _F s => ?_)
   | ((with_reducible refine Wp.gal ?_); refine Wp.alo s fun _p _g _p0 _F s => ?_))
  refine Wp.sto (n := 2) (o := 0) s 4 rfl q0 rfl rfl (by omega) (ds := (doPr cells x).2.en) (by have : List.drop 2 cs = [] := List.drop_of_length_le (by omega); simp [this, Rp.en]) fun _g _F s => ?_
  simp only [List.set_cons_succ, List.set_cons_zero] at s
  refine Wp.r1 (s.ldn 4 rfl q0 0 2 (Nat.le_refl 2) rfl) rfl ⟨rfl, w1, j1, v2, i2, ?_, ow, o2⟩
  exact s.sub (by repeat (first | exact List.Sublist.refl _ | apply List.Sublist.cons_cons | apply List.Sublist.cons))
theorem hasSe_key {l : List Se} {x : Int} (e : hasSe l x = true) : (l[kSe l x]'(hasSe_lt e)).i = x := by
  have hk := hasSe_lt e
  unfold hasSe at e
  rw [List.getElem?_eq_getElem hk] at e
  simpa using e
set_option maxHeartbeats 4000000 in
theorem ap49 (st : Kv) (hs : st.ok) (hr : st.srt) (x : Cmd) {h0 g : H} {M : List (Nat × List V)} {p i1 i2 : Nat} {v1 v2 : V} (s : Mm h0 g ((p, [v1, v2]) :: (i1, flat st.cells) :: (i2, flat st.sess) :: M)) (p0 : p ≠ 0) (o1 : OV v1 st.cells i1) (o2 : OV v2 st.sess i2) :
    Wp (R 49 [.ptr p 0, .agg x.en] g) (ApPost (applySt st x).1 (applySt st x).2 h0 M p) := by
  refine R49 rfl ?_
  rw [S49_eq]
  have _c := o1.cells
  have _n := o1.nt
  have _c := o2.cells
  have _n := o2.nt
  have kl := kSe_le st.sess x.s
  repeat (first
   | ((with_reducible refine Wp.gb ?_); refine Wp.b (by first | (with_reducible first | exact fA_p (by assumption) | exact fA_o (by assumption) | exact nilC_ptr (by assumption) | exact bin_lss .. | exact bin_leq .. | exact bin_gtr .. | exact bin_geq .. | exact bin_eql .. | exact bin_neq .. | exact bin_add .. | exact bin_sub .. | exact bin_mul .. | exact str_eql .. | exact str_neq .. | exact str_lss .. | exact str_gtr .. | exact str_geq .. | exact str_leq .. | exact not_bool .. | exact lenS_str .. | assumption) | exact (show extV (.tup _) _ = some _ from rfl) | exact s.ld1 0 rfl (by assumption) _ rfl | exact s.ld1 1 rfl (by assumption) _ rfl | exact s.ld1 2 rfl (by assumption) _ rfl | exact s.ld1 3 rfl (by assumption) _ rfl | exact s.ld1 4 rfl (by assumption) _ rfl | exact s.ld1 5 rfl (by assumption) _ rfl | exact s.ld1 6 rfl (by assumption) _ rfl | exact s.ld1 7 rfl (by assumption) _ rfl | exact s.ld1 8 rfl (by assumption) _ rfl | exact s.ld1 9 rfl (by assumption) _ rfl | exact s.ld1 10 rfl (by assumption) _ rfl | exact s.ld1 11 rfl (by assumption) _ rfl | exact bload_ld1 (by assumption) _ rfl | exact bload_ldn (by assumption) _ _ (Nat.le_refl _) | exact (show bldV _ _ = some _ from rfl) | ((first | apply s.ldn 0 rfl | apply s.ldn 1 rfl | apply s.ldn 2 rfl | apply s.ldn 3 rfl | apply s.ldn 4 rfl | apply s.ldn 5 rfl | apply s.ldn 6 rfl | apply s.ldn 7 rfl | apply s.ldn 8 rfl | apply s.ldn 9 rfl | apply s.ldn 10 rfl | apply s.ldn 11 rfl); (· assumption); (· first | exact Nat.le_refl _ | decide | (simp; done)); (· rfl))) ?_)
   | (with_reducible first | refine Wp.onT (by assumption) ?_ | refine Wp.onF (by assumption) ?_ | refine Wp.spT (by assumption) ?_ | refine Wp.spF (by assumption) ?_)
   | ((with_reducible refine Wp.gbx ?_); refine Wp.box s rfl fun _p _g _p0 _F s => ?_)
   | ((with_reducible refine Wp.gal ?_); refine Wp.alo s fun _p _g _p0 _F s => ?_))
  obtain ⟨_g3, e3, F3⟩ := c39 x _ s.k
  refine Wp.b e3 ?_
  replace s := s.fr0 F3
  dsimp only
  repeat (first
   | ((with_reducible refine Wp.gb ?_); refine Wp.b (by first | (with_reducible first | exact fA_p (by assumption) | exact fA_o (by assumption) | exact nilC_ptr (by assumption) | exact bin_lss .. | exact bin_leq .. | exact bin_gtr .. | exact bin_geq .. | exact bin_eql .. | exact bin_neq .. | exact bin_add .. | exact bin_sub .. | exact bin_mul .. | exact str_eql .. | exact str_neq .. | exact str_lss .. | exact str_gtr .. | exact str_geq .. | exact str_leq .. | exact not_bool .. | exact lenS_str .. | assumption) | exact (show extV (.tup _) _ = some _ from rfl) | exact s.ld1 0 rfl (by assumption) _ rfl | exact s.ld1 1 rfl (by assumption) _ rfl | exact s.ld1 2 rfl (by assumption) _ rfl | exact s.ld1 3 rfl (by assumption) _ rfl | exact s.ld1 4 rfl (by assumption) _ rfl | exact s.ld1 5 rfl (by assumption) _ rfl | exact s.ld1 6 rfl (by assumption) _ rfl | exact s.ld1 7 rfl (by assumption) _ rfl | exact s.ld1 8 rfl (by assumption) _ rfl | exact s.ld1 9 rfl (by assumption) _ rfl | exact s.ld1 10 rfl (by assumption) _ rfl | exact s.ld1 11 rfl (by assumption) _ rfl | exact bload_ld1 (by assumption) _ rfl | exact bload_ldn (by assumption) _ _ (Nat.le_refl _) | exact (show bldV _ _ = some _ from rfl) | ((first | apply s.ldn 0 rfl | apply s.ldn 1 rfl | apply s.ldn 2 rfl | apply s.ldn 3 rfl | apply s.ldn 4 rfl | apply s.ldn 5 rfl | apply s.ldn 6 rfl | apply s.ldn 7 rfl | apply s.ldn 8 rfl | apply s.ldn 9 rfl | apply s.ldn 10 rfl | apply s.ldn 11 rfl); (· assumption); (· first | exact Nat.le_refl _ | decide | (simp; done)); (· rfl))) ?_)
   | (with_reducible first | refine Wp.onT (by assumption) ?_ | refine Wp.onF (by assumption) ?_ | refine Wp.spT (by assumption) ?_ | refine Wp.spF (by assumption) ?_)
   | ((with_reducible refine Wp.gbx ?_); refine Wp.box s rfl fun _p _g _p0 _F s => ?_)
   | ((with_reducible refine Wp.gal ?_); refine Wp.alo s fun _p _g _p0 _F s => ?_))
  have fin : ∀ (rp : Rp) (L : List (Nat × List V)) (g : H) (d q : Nat) (cs cs' : List V), q ≠ 0 → cs.length = 2 → Mm h0 g ((q, cs) :: (d, cs') :: (p, [v1, v2]) :: (i1, flat st.cells) :: (i2, flat st.sess) :: M) → applySt st x = (st, rp) →
      Wp (stN 2 g (.ptr q 0) (.agg rp.en) fun h' => (ress [(ldn 2 h' (.ptr q 0))]).map fun vs => (tupOf vs, h')) (ApPost (applySt st x).1 (applySt st x).2 h0 M p) := by
    intro rp L g d q cs cs' q0 hc s e
    refine Wp.sto (n := 2) (o := 0) s 0 rfl q0 rfl rfl (by omega) (ds := rp.en) (by have : List.drop 2 cs = [] := List.drop_of_length_le (by omega); simp [this, Rp.en]) fun _g _F s => ?_
    simp only [List.set_cons_succ, List.set_cons_zero] at s
    refine Wp.r1 (s.ldn 0 rfl q0 0 2 (Nat.le_refl 2) rfl) rfl ?_
    rw [e]
    exact ⟨rfl, v1, i1, v2, i2, s.tail.tail, o1, o2⟩
  by_cases ok : okC x = false
  · refine Wp.onT (by simp [ok]) ?_
    repeat (first
     | ((with_reducible refine Wp.gb ?_); refine Wp.b (by first | (with_reducible first | exact fA_p (by assumption) | exact fA_o (by assumption) | exact nilC_ptr (by assumption) | exact bin_lss .. | exact bin_leq .. | exact bin_gtr .. | exact bin_geq .. | exact bin_eql .. | exact bin_neq .. | exact bin_add .. | exact bin_sub .. | exact bin_mul .. | exact str_eql .. | exact str_neq .. | exact str_lss .. | exact str_gtr .. | exact str_geq .. | exact str_leq .. | exact not_bool .. | exact lenS_str .. | assumption) | exact (show extV (.tup _) _ = some _ from rfl) | exact s.ld1 0 rfl (by assumption) _ rfl | exact s.ld1 1 rfl (by assumption) _ rfl | exact s.ld1 2 rfl (by assumption) _ rfl | exact s.ld1 3 rfl (by assumption) _ rfl | exact s.ld1 4 rfl (by assumption) _ rfl | exact s.ld1 5 rfl (by assumption) _ rfl | exact s.ld1 6 rfl (by assumption) _ rfl | exact s.ld1 7 rfl (by assumption) _ rfl | exact s.ld1 8 rfl (by assumption) _ rfl | exact s.ld1 9 rfl (by assumption) _ rfl | exact s.ld1 10 rfl (by assumption) _ rfl | exact s.ld1 11 rfl (by assumption) _ rfl | exact bload_ld1 (by assumption) _ rfl | exact bload_ldn (by assumption) _ _ (Nat.le_refl _) | exact (show bldV _ _ = some _ from rfl) | ((first | apply s.ldn 0 rfl | apply s.ldn 1 rfl | apply s.ldn 2 rfl | apply s.ldn 3 rfl | apply s.ldn 4 rfl | apply s.ldn 5 rfl | apply s.ldn 6 rfl | apply s.ldn 7 rfl | apply s.ldn 8 rfl | apply s.ldn 9 rfl | apply s.ldn 10 rfl | apply s.ldn 11 rfl); (· assumption); (· first | exact Nat.le_refl _ | decide | (simp; done)); (· rfl))) ?_)
     | (with_reducible first | refine Wp.onT (by assumption) ?_ | refine Wp.onF (by assumption) ?_ | refine Wp.spT (by assumption) ?_ | refine Wp.spF (by assumption) ?_)
     | ((with_reducible refine Wp.gbx ?_); refine Wp.box s rfl fun _p _g _p0 _F s => ?_)
     | ((with_reducible refine Wp.gal ?_); refine Wp.alo s fun _p _g _p0 _F s => ?_))
    exact fin ⟨4, emp⟩ [] _ _ _ _ _ (by assumption) rfl s (by simp [applySt, ok])
  have ok : okC x = true := by simpa using ok
  refine Wp.onF (by simp [ok]) ?_
  repeat (first
   | ((with_reducible refine Wp.gb ?_); refine Wp.b (by first | (with_reducible first | exact fA_p (by assumption) | exact fA_o (by assumption) | exact nilC_ptr (by assumption) | exact bin_lss .. | exact bin_leq .. | exact bin_gtr .. | exact bin_geq .. | exact bin_eql .. | exact bin_neq .. | exact bin_add .. | exact bin_sub .. | exact bin_mul .. | exact str_eql .. | exact str_neq .. | exact str_lss .. | exact str_gtr .. | exact str_geq .. | exact str_leq .. | exact not_bool .. | exact lenS_str .. | assumption) | exact (show extV (.tup _) _ = some _ from rfl) | exact s.ld1 0 rfl (by assumption) _ rfl | exact s.ld1 1 rfl (by assumption) _ rfl | exact s.ld1 2 rfl (by assumption) _ rfl | exact s.ld1 3 rfl (by assumption) _ rfl | exact s.ld1 4 rfl (by assumption) _ rfl | exact s.ld1 5 rfl (by assumption) _ rfl | exact s.ld1 6 rfl (by assumption) _ rfl | exact s.ld1 7 rfl (by assumption) _ rfl | exact s.ld1 8 rfl (by assumption) _ rfl | exact s.ld1 9 rfl (by assumption) _ rfl | exact s.ld1 10 rfl (by assumption) _ rfl | exact s.ld1 11 rfl (by assumption) _ rfl | exact bload_ld1 (by assumption) _ rfl | exact bload_ldn (by assumption) _ _ (Nat.le_refl _) | exact (show bldV _ _ = some _ from rfl) | ((first | apply s.ldn 0 rfl | apply s.ldn 1 rfl | apply s.ldn 2 rfl | apply s.ldn 3 rfl | apply s.ldn 4 rfl | apply s.ldn 5 rfl | apply s.ldn 6 rfl | apply s.ldn 7 rfl | apply s.ldn 8 rfl | apply s.ldn 9 rfl | apply s.ldn 10 rfl | apply s.ldn 11 rfl); (· assumption); (· first | exact Nat.le_refl _ | decide | (simp; done)); (· rfl))) ?_)
   | (with_reducible first | refine Wp.onT (by assumption) ?_ | refine Wp.onF (by assumption) ?_ | refine Wp.spT (by assumption) ?_ | refine Wp.spF (by assumption) ?_)
   | ((with_reducible refine Wp.gbx ?_); refine Wp.box s rfl fun _p _g _p0 _F s => ?_)
   | ((with_reducible refine Wp.gal ?_); refine Wp.alo s fun _p _g _p0 _F s => ?_))
  refine Wp.bind (at73 st hs hr x.s s 2 rfl p0 (s.rv 4 o2 rfl)) ?_
  rintro _ _g ⟨rfl, _F⟩
  replace s := s.fr0 _F
  try dsimp only
  have hl2 := o2.len
  by_cases hh : hasSe st.sess x.s = true
  · have hh' : (!hasSe st.sess x.s) = false := by simp [hh]
    have hlt := hasSe_lt hh
    repeat (first
     | ((with_reducible refine Wp.gb ?_); refine Wp.b (by first | (with_reducible first | exact fA_p (by assumption) | exact fA_o (by assumption) | exact nilC_ptr (by assumption) | exact bin_lss .. | exact bin_leq .. | exact bin_gtr .. | exact bin_geq .. | exact bin_eql .. | exact bin_neq .. | exact bin_add .. | exact bin_sub .. | exact bin_mul .. | exact str_eql .. | exact str_neq .. | exact str_lss .. | exact str_gtr .. | exact str_geq .. | exact str_leq .. | exact not_bool .. | exact lenS_str .. | assumption) | exact (show extV (.tup _) _ = some _ from rfl) | exact s.ld1 0 rfl (by assumption) _ rfl | exact s.ld1 1 rfl (by assumption) _ rfl | exact s.ld1 2 rfl (by assumption) _ rfl | exact s.ld1 3 rfl (by assumption) _ rfl | exact s.ld1 4 rfl (by assumption) _ rfl | exact s.ld1 5 rfl (by assumption) _ rfl | exact s.ld1 6 rfl (by assumption) _ rfl | exact s.ld1 7 rfl (by assumption) _ rfl | exact s.ld1 8 rfl (by assumption) _ rfl | exact s.ld1 9 rfl (by assumption) _ rfl | exact s.ld1 10 rfl (by assumption) _ rfl | exact s.ld1 11 rfl (by assumption) _ rfl | exact bload_ld1 (by assumption) _ rfl | exact bload_ldn (by assumption) _ _ (Nat.le_refl _) | exact (show bldV _ _ = some _ from rfl) | ((first | apply s.ldn 0 rfl | apply s.ldn 1 rfl | apply s.ldn 2 rfl | apply s.ldn 3 rfl | apply s.ldn 4 rfl | apply s.ldn 5 rfl | apply s.ldn 6 rfl | apply s.ldn 7 rfl | apply s.ldn 8 rfl | apply s.ldn 9 rfl | apply s.ldn 10 rfl | apply s.ldn 11 rfl); (· assumption); (· first | exact Nat.le_refl _ | decide | (simp; done)); (· rfl))) ?_)
     | (with_reducible first | refine Wp.onT (by assumption) ?_ | refine Wp.onF (by assumption) ?_ | refine Wp.spT (by assumption) ?_ | refine Wp.spF (by assumption) ?_)
     | ((with_reducible refine Wp.gbx ?_); refine Wp.box s rfl fun _p _g _p0 _F s => ?_)
     | ((with_reducible refine Wp.gal ?_); refine Wp.alo s fun _p _g _p0 _F s => ?_))
    refine Wp.rd (s.rv 4 o2 rfl) rfl hlt fun b o b0 bl be => ?_
    repeat (first
     | ((with_reducible refine Wp.gb ?_); refine Wp.b (by first | (with_reducible first | exact fA_p (by assumption) | exact fA_o (by assumption) | exact nilC_ptr (by assumption) | exact bin_lss .. | exact bin_leq .. | exact bin_gtr .. | exact bin_geq .. | exact bin_eql .. | exact bin_neq .. | exact bin_add .. | exact bin_sub .. | exact bin_mul .. | exact str_eql .. | exact str_neq .. | exact str_lss .. | exact str_gtr .. | exact str_geq .. | exact str_leq .. | exact not_bool .. | exact lenS_str .. | assumption) | exact (show extV (.tup _) _ = some _ from rfl) | exact s.ld1 0 rfl (by assumption) _ rfl | exact s.ld1 1 rfl (by assumption) _ rfl | exact s.ld1 2 rfl (by assumption) _ rfl | exact s.ld1 3 rfl (by assumption) _ rfl | exact s.ld1 4 rfl (by assumption) _ rfl | exact s.ld1 5 rfl (by assumption) _ rfl | exact s.ld1 6 rfl (by assumption) _ rfl | exact s.ld1 7 rfl (by assumption) _ rfl | exact s.ld1 8 rfl (by assumption) _ rfl | exact s.ld1 9 rfl (by assumption) _ rfl | exact s.ld1 10 rfl (by assumption) _ rfl | exact s.ld1 11 rfl (by assumption) _ rfl | exact bload_ld1 (by assumption) _ rfl | exact bload_ldn (by assumption) _ _ (Nat.le_refl _) | exact (show bldV _ _ = some _ from rfl) | ((first | apply s.ldn 0 rfl | apply s.ldn 1 rfl | apply s.ldn 2 rfl | apply s.ldn 3 rfl | apply s.ldn 4 rfl | apply s.ldn 5 rfl | apply s.ldn 6 rfl | apply s.ldn 7 rfl | apply s.ldn 8 rfl | apply s.ldn 9 rfl | apply s.ldn 10 rfl | apply s.ldn 11 rfl); (· assumption); (· first | exact Nat.le_refl _ | decide | (simp; done)); (· rfl))) ?_)
     | (with_reducible first | refine Wp.onT (by assumption) ?_ | refine Wp.onF (by assumption) ?_ | refine Wp.spT (by assumption) ?_ | refine Wp.spF (by assumption) ?_)
     | ((with_reducible refine Wp.gbx ?_); refine Wp.box s rfl fun _p _g _p0 _F s => ?_)
     | ((with_reducible refine Wp.gal ?_); refine Wp.alo s fun _p _g _p0 _F s => ?_))
    refine Wp.on (fun c1 => ?_) (fun c1 => ?_)
    · repeat (first
       | ((with_reducible refine Wp.gb ?_); refine Wp.b (by first | (with_reducible first | exact fA_p (by assumption) | exact fA_o (by assumption) | exact nilC_ptr (by assumption) | exact bin_lss .. | exact bin_leq .. | exact bin_gtr .. | exact bin_geq .. | exact bin_eql .. | exact bin_neq .. | exact bin_add .. | exact bin_sub .. | exact bin_mul .. | exact str_eql .. | exact str_neq .. | exact str_lss .. | exact str_gtr .. | exact str_geq .. | exact str_leq .. | exact not_bool .. | exact lenS_str .. | assumption) | exact (show extV (.tup _) _ = some _ from rfl) | exact s.ld1 0 rfl (by assumption) _ rfl | exact s.ld1 1 rfl (by assumption) _ rfl | exact s.ld1 2 rfl (by assumption) _ rfl | exact s.ld1 3 rfl (by assumption) _ rfl | exact s.ld1 4 rfl (by assumption) _ rfl | exact s.ld1 5 rfl (by assumption) _ rfl | exact s.ld1 6 rfl (by assumption) _ rfl | exact s.ld1 7 rfl (by assumption) _ rfl | exact s.ld1 8 rfl (by assumption) _ rfl | exact s.ld1 9 rfl (by assumption) _ rfl | exact s.ld1 10 rfl (by assumption) _ rfl | exact s.ld1 11 rfl (by assumption) _ rfl | exact bload_ld1 (by assumption) _ rfl | exact bload_ldn (by assumption) _ _ (Nat.le_refl _) | exact (show bldV _ _ = some _ from rfl) | ((first | apply s.ldn 0 rfl | apply s.ldn 1 rfl | apply s.ldn 2 rfl | apply s.ldn 3 rfl | apply s.ldn 4 rfl | apply s.ldn 5 rfl | apply s.ldn 6 rfl | apply s.ldn 7 rfl | apply s.ldn 8 rfl | apply s.ldn 9 rfl | apply s.ldn 10 rfl | apply s.ldn 11 rfl); (· assumption); (· first | exact Nat.le_refl _ | decide | (simp; done)); (· rfl))) ?_)
       | (with_reducible first | refine Wp.onT (by assumption) ?_ | refine Wp.onF (by assumption) ?_ | refine Wp.spT (by assumption) ?_ | refine Wp.spF (by assumption) ?_)
       | ((with_reducible refine Wp.gbx ?_); refine Wp.box s rfl fun _p _g _p0 _F s => ?_)
       | ((with_reducible refine Wp.gal ?_); refine Wp.alo s fun _p _g _p0 _F s => ?_))
      clear be bl b0 b o
      refine Wp.rd (s.rv 4 o2 rfl) rfl hlt fun b o b0 bl be => ?_
      repeat (first
       | ((with_reducible refine Wp.gb ?_); refine Wp.b (by first | (with_reducible first | exact fA_p (by assumption) | exact fA_o (by assumption) | exact nilC_ptr (by assumption) | exact bin_lss .. | exact bin_leq .. | exact bin_gtr .. | exact bin_geq .. | exact bin_eql .. | exact bin_neq .. | exact bin_add .. | exact bin_sub .. | exact bin_mul .. | exact str_eql .. | exact str_neq .. | exact str_lss .. | exact str_gtr .. | exact str_geq .. | exact str_leq .. | exact not_bool .. | exact lenS_str .. | assumption) | exact (show extV (.tup _) _ = some _ from rfl) | exact s.ld1 0 rfl (by assumption) _ rfl | exact s.ld1 1 rfl (by assumption) _ rfl | exact s.ld1 2 rfl (by assumption) _ rfl | exact s.ld1 3 rfl (by assumption) _ rfl | exact s.ld1 4 rfl (by assumption) _ rfl | exact s.ld1 5 rfl (by assumption) _ rfl | exact s.ld1 6 rfl (by assumption) _ rfl | exact s.ld1 7 rfl (by assumption) _ rfl | exact s.ld1 8 rfl (by assumption) _ rfl | exact s.ld1 9 rfl (by assumption) _ rfl | exact s.ld1 10 rfl (by assumption) _ rfl | exact s.ld1 11 rfl (by assumption) _ rfl | exact bload_ld1 (by assumption) _ rfl | exact bload_ldn (by assumption) _ _ (Nat.le_refl _) | exact (show bldV _ _ = some _ from rfl) | ((first | apply s.ldn 0 rfl | apply s.ldn 1 rfl | apply s.ldn 2 rfl | apply s.ldn 3 rfl | apply s.ldn 4 rfl | apply s.ldn 5 rfl | apply s.ldn 6 rfl | apply s.ldn 7 rfl | apply s.ldn 8 rfl | apply s.ldn 9 rfl | apply s.ldn 10 rfl | apply s.ldn 11 rfl); (· assumption); (· first | exact Nat.le_refl _ | decide | (simp; done)); (· rfl))) ?_)
       | (with_reducible first | refine Wp.onT (by assumption) ?_ | refine Wp.onF (by assumption) ?_ | refine Wp.spT (by assumption) ?_ | refine Wp.spF (by assumption) ?_)
       | ((with_reducible refine Wp.gbx ?_); refine Wp.box s rfl fun _p _g _p0 _F s => ?_)
       | ((with_reducible refine Wp.gal ?_); refine Wp.alo s fun _p _g _p0 _F s => ?_))
      refine fin (st.sess[kSe st.sess x.s]).r [] _ _ _ _ _ (by assumption) rfl s ?_
      have e1 : (st.sess[kSe st.sess x.s]).l = x.n := by
        have : x.n = (st.sess[kSe st.sess x.s]).l := by simpa using c1
        exact this.symm
      simp [applySt, ok, hh, seAt_at hh, e1]
    · repeat (first
       | ((with_reducible refine Wp.gb ?_); refine Wp.b (by first | (with_reducible first | exact fA_p (by assumption) | exact fA_o (by assumption) | exact nilC_ptr (by assumption) | exact bin_lss .. | exact bin_leq .. | exact bin_gtr .. | exact bin_geq .. | exact bin_eql .. | exact bin_neq .. | exact bin_add .. | exact bin_sub .. | exact bin_mul .. | exact str_eql .. | exact str_neq .. | exact str_lss .. | exact str_gtr .. | exact str_geq .. | exact str_leq .. | exact not_bool .. | exact lenS_str .. | assumption) | exact (show extV (.tup _) _ = some _ from rfl) | exact s.ld1 0 rfl (by assumption) _ rfl | exact s.ld1 1 rfl (by assumption) _ rfl | exact s.ld1 2 rfl (by assumption) _ rfl | exact s.ld1 3 rfl (by assumption) _ rfl | exact s.ld1 4 rfl (by assumption) _ rfl | exact s.ld1 5 rfl (by assumption) _ rfl | exact s.ld1 6 rfl (by assumption) _ rfl | exact s.ld1 7 rfl (by assumption) _ rfl | exact s.ld1 8 rfl (by assumption) _ rfl | exact s.ld1 9 rfl (by assumption) _ rfl | exact s.ld1 10 rfl (by assumption) _ rfl | exact s.ld1 11 rfl (by assumption) _ rfl | exact bload_ld1 (by assumption) _ rfl | exact bload_ldn (by assumption) _ _ (Nat.le_refl _) | exact (show bldV _ _ = some _ from rfl) | ((first | apply s.ldn 0 rfl | apply s.ldn 1 rfl | apply s.ldn 2 rfl | apply s.ldn 3 rfl | apply s.ldn 4 rfl | apply s.ldn 5 rfl | apply s.ldn 6 rfl | apply s.ldn 7 rfl | apply s.ldn 8 rfl | apply s.ldn 9 rfl | apply s.ldn 10 rfl | apply s.ldn 11 rfl); (· assumption); (· first | exact Nat.le_refl _ | decide | (simp; done)); (· rfl))) ?_)
       | (with_reducible first | refine Wp.onT (by assumption) ?_ | refine Wp.onF (by assumption) ?_ | refine Wp.spT (by assumption) ?_ | refine Wp.spF (by assumption) ?_)
       | ((with_reducible refine Wp.gbx ?_); refine Wp.box s rfl fun _p _g _p0 _F s => ?_)
       | ((with_reducible refine Wp.gal ?_); refine Wp.alo s fun _p _g _p0 _F s => ?_))
      clear be bl b0 b o
      refine Wp.rd (s.rv 4 o2 rfl) rfl hlt fun b o b0 bl be => ?_
      repeat (first
       | ((with_reducible refine Wp.gb ?_); refine Wp.b (by first | (with_reducible first | exact fA_p (by assumption) | exact fA_o (by assumption) | exact nilC_ptr (by assumption) | exact bin_lss .. | exact bin_leq .. | exact bin_gtr .. | exact bin_geq .. | exact bin_eql .. | exact bin_neq .. | exact bin_add .. | exact bin_sub .. | exact bin_mul .. | exact str_eql .. | exact str_neq .. | exact str_lss .. | exact str_gtr .. | exact str_geq .. | exact str_leq .. | exact not_bool .. | exact lenS_str .. | assumption) | exact (show extV (.tup _) _ = some _ from rfl) | exact s.ld1 0 rfl (by assumption) _ rfl | exact s.ld1 1 rfl (by assumption) _ rfl | exact s.ld1 2 rfl (by assumption) _ rfl | exact s.ld1 3 rfl (by assumption) _ rfl | exact s.ld1 4 rfl (by assumption) _ rfl | exact s.ld1 5 rfl (by assumption) _ rfl | exact s.ld1 6 rfl (by assumption) _ rfl | exact s.ld1 7 rfl (by assumption) _ rfl | exact s.ld1 8 rfl (by assumption) _ rfl | exact s.ld1 9 rfl (by assumption) _ rfl | exact s.ld1 10 rfl (by assumption) _ rfl | exact s.ld1 11 rfl (by assumption) _ rfl | exact bload_ld1 (by assumption) _ rfl | exact bload_ldn (by assumption) _ _ (Nat.le_refl _) | exact (show bldV _ _ = some _ from rfl) | ((first | apply s.ldn 0 rfl | apply s.ldn 1 rfl | apply s.ldn 2 rfl | apply s.ldn 3 rfl | apply s.ldn 4 rfl | apply s.ldn 5 rfl | apply s.ldn 6 rfl | apply s.ldn 7 rfl | apply s.ldn 8 rfl | apply s.ldn 9 rfl | apply s.ldn 10 rfl | apply s.ldn 11 rfl); (· assumption); (· first | exact Nat.le_refl _ | decide | (simp; done)); (· rfl))) ?_)
       | (with_reducible first | refine Wp.onT (by assumption) ?_ | refine Wp.onF (by assumption) ?_ | refine Wp.spT (by assumption) ?_ | refine Wp.spF (by assumption) ?_)
       | ((with_reducible refine Wp.gbx ?_); refine Wp.box s rfl fun _p _g _p0 _F s => ?_)
       | ((with_reducible refine Wp.gal ?_); refine Wp.alo s fun _p _g _p0 _F s => ?_))
      have e1 : ¬ (seAt st.sess x.s).l = x.n := by rw [seAt_at hh]; have : ¬ x.n = (st.sess[kSe st.sess x.s]).l := by simpa using c1
                                                   exact fun q => this q.symm
      refine Wp.on (fun c2 => ?_) (fun c2 => ?_)
      · repeat (first
         | ((with_reducible refine Wp.gb ?_); refine Wp.b (by first | (with_reducible first | exact fA_p (by assumption) | exact fA_o (by assumption) | exact nilC_ptr (by assumption) | exact bin_lss .. | exact bin_leq .. | exact bin_gtr .. | exact bin_geq .. | exact bin_eql .. | exact bin_neq .. | exact bin_add .. | exact bin_sub .. | exact bin_mul .. | exact str_eql .. | exact str_neq .. | exact str_lss .. | exact str_gtr .. | exact str_geq .. | exact str_leq .. | exact not_bool .. | exact lenS_str .. | assumption) | exact (show extV (.tup _) _ = some _ from rfl) | exact s.ld1 0 rfl (by assumption) _ rfl | exact s.ld1 1 rfl (by assumption) _ rfl | exact s.ld1 2 rfl (by assumption) _ rfl | exact s.ld1 3 rfl (by assumption) _ rfl | exact s.ld1 4 rfl (by assumption) _ rfl | exact s.ld1 5 rfl (by assumption) _ rfl | exact s.ld1 6 rfl (by assumption) _ rfl | exact s.ld1 7 rfl (by assumption) _ rfl | exact s.ld1 8 rfl (by assumption) _ rfl | exact s.ld1 9 rfl (by assumption) _ rfl | exact s.ld1 10 rfl (by assumption) _ rfl | exact s.ld1 11 rfl (by assumption) _ rfl | exact bload_ld1 (by assumption) _ rfl | exact bload_ldn (by assumption) _ _ (Nat.le_refl _) | exact (show bldV _ _ = some _ from rfl) | ((first | apply s.ldn 0 rfl | apply s.ldn 1 rfl | apply s.ldn 2 rfl | apply s.ldn 3 rfl | apply s.ldn 4 rfl | apply s.ldn 5 rfl | apply s.ldn 6 rfl | apply s.ldn 7 rfl | apply s.ldn 8 rfl | apply s.ldn 9 rfl | apply s.ldn 10 rfl | apply s.ldn 11 rfl); (· assumption); (· first | exact Nat.le_refl _ | decide | (simp; done)); (· rfl))) ?_)
         | (with_reducible first | refine Wp.onT (by assumption) ?_ | refine Wp.onF (by assumption) ?_ | refine Wp.spT (by assumption) ?_ | refine Wp.spF (by assumption) ?_)
         | ((with_reducible refine Wp.gbx ?_); refine Wp.box s rfl fun _p _g _p0 _F s => ?_)
         | ((with_reducible refine Wp.gal ?_); refine Wp.alo s fun _p _g _p0 _F s => ?_))
        refine fin ⟨2, emp⟩ [] _ _ _ _ _ (by assumption) rfl s ?_
        have e2 : x.n < (seAt st.sess x.s).l := by rw [seAt_at hh]; simpa using c2
        simp [applySt, ok, hh, e1, e2]
      · repeat (first
         | ((with_reducible refine Wp.gb ?_); refine Wp.b (by first | (with_reducible first | exact fA_p (by assumption) | exact fA_o (by assumption) | exact nilC_ptr (by assumption) | exact bin_lss .. | exact bin_leq .. | exact bin_gtr .. | exact bin_geq .. | exact bin_eql .. | exact bin_neq .. | exact bin_add .. | exact bin_sub .. | exact bin_mul .. | exact str_eql .. | exact str_neq .. | exact str_lss .. | exact str_gtr .. | exact str_geq .. | exact str_leq .. | exact not_bool .. | exact lenS_str .. | assumption) | exact (show extV (.tup _) _ = some _ from rfl) | exact s.ld1 0 rfl (by assumption) _ rfl | exact s.ld1 1 rfl (by assumption) _ rfl | exact s.ld1 2 rfl (by assumption) _ rfl | exact s.ld1 3 rfl (by assumption) _ rfl | exact s.ld1 4 rfl (by assumption) _ rfl | exact s.ld1 5 rfl (by assumption) _ rfl | exact s.ld1 6 rfl (by assumption) _ rfl | exact s.ld1 7 rfl (by assumption) _ rfl | exact s.ld1 8 rfl (by assumption) _ rfl | exact s.ld1 9 rfl (by assumption) _ rfl | exact s.ld1 10 rfl (by assumption) _ rfl | exact s.ld1 11 rfl (by assumption) _ rfl | exact bload_ld1 (by assumption) _ rfl | exact bload_ldn (by assumption) _ _ (Nat.le_refl _) | exact (show bldV _ _ = some _ from rfl) | ((first | apply s.ldn 0 rfl | apply s.ldn 1 rfl | apply s.ldn 2 rfl | apply s.ldn 3 rfl | apply s.ldn 4 rfl | apply s.ldn 5 rfl | apply s.ldn 6 rfl | apply s.ldn 7 rfl | apply s.ldn 8 rfl | apply s.ldn 9 rfl | apply s.ldn 10 rfl | apply s.ldn 11 rfl); (· assumption); (· first | exact Nat.le_refl _ | decide | (simp; done)); (· rfl))) ?_)
         | (with_reducible first | refine Wp.onT (by assumption) ?_ | refine Wp.onF (by assumption) ?_ | refine Wp.spT (by assumption) ?_ | refine Wp.spF (by assumption) ?_)
         | ((with_reducible refine Wp.gbx ?_); refine Wp.box s rfl fun _p _g _p0 _F s => ?_)
         | ((with_reducible refine Wp.gal ?_); refine Wp.alo s fun _p _g _p0 _F s => ?_))
        have e2 : ¬ x.n < (seAt st.sess x.s).l := by rw [seAt_at hh]; simpa using c2
        refine (j12ap st.cells st.sess hs hr x (kSe st.sess x.s) hlt _ rfl s p0 (by assumption) (by assumption) o1 o2).mono fun r g' q => ?_
        have e : applySt st x = (⟨(doPr st.cells x).1, st.sess.set (kSe st.sess x.s) ⟨(st.sess[kSe st.sess x.s]).i, x.n, (doPr st.cells x).2⟩⟩, (doPr st.cells x).2) := by
          simp [applySt, ok, hh, e1, e2, hasSe_key hh, List.set_eq_take_append_cons_drop, hlt]
        rw [e]; exact q
  · have hh : hasSe st.sess x.s = false := by simpa using hh
    have hh' : (!hasSe st.sess x.s) = true := by simp [hh]
    by_cases h12 : decide ((st.sess.length : Int) = 12) = true
    · repeat (first
       | ((with_reducible refine Wp.gb ?_); refine Wp.b (by first | (with_reducible first | exact fA_p (by assumption) | exact fA_o (by assumption) | exact nilC_ptr (by assumption) | exact bin_lss .. | exact bin_leq .. | exact bin_gtr .. | exact bin_geq .. | exact bin_eql .. | exact bin_neq .. | exact bin_add .. | exact bin_sub .. | exact bin_mul .. | exact str_eql .. | exact str_neq .. | exact str_lss .. | exact str_gtr .. | exact str_geq .. | exact str_leq .. | exact not_bool .. | exact lenS_str .. | assumption) | exact (show extV (.tup _) _ = some _ from rfl) | exact s.ld1 0 rfl (by assumption) _ rfl | exact s.ld1 1 rfl (by assumption) _ rfl | exact s.ld1 2 rfl (by assumption) _ rfl | exact s.ld1 3 rfl (by assumption) _ rfl | exact s.ld1 4 rfl (by assumption) _ rfl | exact s.ld1 5 rfl (by assumption) _ rfl | exact s.ld1 6 rfl (by assumption) _ rfl | exact s.ld1 7 rfl (by assumption) _ rfl | exact s.ld1 8 rfl (by assumption) _ rfl | exact s.ld1 9 rfl (by assumption) _ rfl | exact s.ld1 10 rfl (by assumption) _ rfl | exact s.ld1 11 rfl (by assumption) _ rfl | exact bload_ld1 (by assumption) _ rfl | exact bload_ldn (by assumption) _ _ (Nat.le_refl _) | exact (show bldV _ _ = some _ from rfl) | ((first | apply s.ldn 0 rfl | apply s.ldn 1 rfl | apply s.ldn 2 rfl | apply s.ldn 3 rfl | apply s.ldn 4 rfl | apply s.ldn 5 rfl | apply s.ldn 6 rfl | apply s.ldn 7 rfl | apply s.ldn 8 rfl | apply s.ldn 9 rfl | apply s.ldn 10 rfl | apply s.ldn 11 rfl); (· assumption); (· first | exact Nat.le_refl _ | decide | (simp; done)); (· rfl))) ?_)
       | (with_reducible first | refine Wp.onT (by assumption) ?_ | refine Wp.onF (by assumption) ?_ | refine Wp.spT (by assumption) ?_ | refine Wp.spF (by assumption) ?_)
       | ((with_reducible refine Wp.gbx ?_); refine Wp.box s rfl fun _p _g _p0 _F s => ?_)
       | ((with_reducible refine Wp.gal ?_); refine Wp.alo s fun _p _g _p0 _F s => ?_))
      refine fin ⟨4, emp⟩ [] _ _ _ _ _ (by assumption) rfl s ?_
      have : st.sess.length = 12 := by
        have : (st.sess.length : Int) = 12 := by simpa using h12
        omega
      simp [applySt, ok, hh, this]
    · have h12 : decide ((st.sess.length : Int) = 12) = false := by simpa using h12
      have n12 : st.sess.length ≠ 12 := by
        have : ¬ (st.sess.length : Int) = 12 := by simpa using h12
        omega
      have l12 : st.sess.length < 12 := by have := hs.2; omega
      repeat (first
       | ((with_reducible refine Wp.gb ?_); refine Wp.b (by first | (with_reducible first | exact fA_p (by assumption) | exact fA_o (by assumption) | exact nilC_ptr (by assumption) | exact bin_lss .. | exact bin_leq .. | exact bin_gtr .. | exact bin_geq .. | exact bin_eql .. | exact bin_neq .. | exact bin_add .. | exact bin_sub .. | exact bin_mul .. | exact str_eql .. | exact str_neq .. | exact str_lss .. | exact str_gtr .. | exact str_geq .. | exact str_leq .. | exact not_bool .. | exact lenS_str .. | assumption) | exact (show extV (.tup _) _ = some _ from rfl) | exact s.ld1 0 rfl (by assumption) _ rfl | exact s.ld1 1 rfl (by assumption) _ rfl | exact s.ld1 2 rfl (by assumption) _ rfl | exact s.ld1 3 rfl (by assumption) _ rfl | exact s.ld1 4 rfl (by assumption) _ rfl | exact s.ld1 5 rfl (by assumption) _ rfl | exact s.ld1 6 rfl (by assumption) _ rfl | exact s.ld1 7 rfl (by assumption) _ rfl | exact s.ld1 8 rfl (by assumption) _ rfl | exact s.ld1 9 rfl (by assumption) _ rfl | exact s.ld1 10 rfl (by assumption) _ rfl | exact s.ld1 11 rfl (by assumption) _ rfl | exact bload_ld1 (by assumption) _ rfl | exact bload_ldn (by assumption) _ _ (Nat.le_refl _) | exact (show bldV _ _ = some _ from rfl) | ((first | apply s.ldn 0 rfl | apply s.ldn 1 rfl | apply s.ldn 2 rfl | apply s.ldn 3 rfl | apply s.ldn 4 rfl | apply s.ldn 5 rfl | apply s.ldn 6 rfl | apply s.ldn 7 rfl | apply s.ldn 8 rfl | apply s.ldn 9 rfl | apply s.ldn 10 rfl | apply s.ldn 11 rfl); (· assumption); (· first | exact Nat.le_refl _ | decide | (simp; done)); (· rfl))) ?_)
       | (with_reducible first | refine Wp.onT (by assumption) ?_ | refine Wp.onF (by assumption) ?_ | refine Wp.spT (by assumption) ?_ | refine Wp.spF (by assumption) ?_)
       | ((with_reducible refine Wp.gbx ?_); refine Wp.box s rfl fun _p _g _p0 _F s => ?_)
       | ((with_reducible refine Wp.gal ?_); refine Wp.alo s fun _p _g _p0 _F s => ?_))
      have b1 := s.blk (i := 1) rfl (by assumption)
      have bp := s.blk (i := 2) rfl p0
      have n1 := s.ne 1 4 (by decide) rfl rfl (by assumption)
      refine Wp.lit s [(⟨x.s, 0, ⟨0, emp⟩⟩ : Se)] rfl rfl rfl fun w j g5 ow jn F5 s => ?_
      refine Wp.pd F5 (by assumption) b1.2.1 (Wp.pd F5 p0 bp.2.1 ?_)
      obtain ⟨v3, i3, g3, e3, o3, F3, s3⟩ := insP_mm (bytes := 40) s 5 0 (by decide) o2 rfl ow rfl (by simp) kl (by decide) (by simp; omega) (by simp; omega)
      refine Wp.b (run_prim (p := insP 4 40) rfl e3) ?_
      replace s := s3
      simp only [List.set_cons_succ, List.set_cons_zero] at s
      dsimp only
      refine Wp.pd1 F5 F3 (by assumption) b1.2.1 n1 ?_
      have _c := o3.cells
      have _n := o3.nt
      repeat (first
       | ((with_reducible refine Wp.gb ?_); refine Wp.b (by first | (with_reducible first | exact fA_p (by assumption) | exact fA_o (by assumption) | exact nilC_ptr (by assumption) | exact bin_lss .. | exact bin_leq .. | exact bin_gtr .. | exact bin_geq .. | exact bin_eql .. | exact bin_neq .. | exact bin_add .. | exact bin_sub .. | exact bin_mul .. | exact str_eql .. | exact str_neq .. | exact str_lss .. | exact str_gtr .. | exact str_geq .. | exact str_leq .. | exact not_bool .. | exact lenS_str .. | assumption) | exact (show extV (.tup _) _ = some _ from rfl) | exact s.ld1 0 rfl (by assumption) _ rfl | exact s.ld1 1 rfl (by assumption) _ rfl | exact s.ld1 2 rfl (by assumption) _ rfl | exact s.ld1 3 rfl (by assumption) _ rfl | exact s.ld1 4 rfl (by assumption) _ rfl | exact s.ld1 5 rfl (by assumption) _ rfl | exact s.ld1 6 rfl (by assumption) _ rfl | exact s.ld1 7 rfl (by assumption) _ rfl | exact s.ld1 8 rfl (by assumption) _ rfl | exact s.ld1 9 rfl (by assumption) _ rfl | exact s.ld1 10 rfl (by assumption) _ rfl | exact s.ld1 11 rfl (by assumption) _ rfl | exact bload_ld1 (by assumption) _ rfl | exact bload_ldn (by assumption) _ _ (Nat.le_refl _) | exact (show bldV _ _ = some _ from rfl) | ((first | apply s.ldn 0 rfl | apply s.ldn 1 rfl | apply s.ldn 2 rfl | apply s.ldn 3 rfl | apply s.ldn 4 rfl | apply s.ldn 5 rfl | apply s.ldn 6 rfl | apply s.ldn 7 rfl | apply s.ldn 8 rfl | apply s.ldn 9 rfl | apply s.ldn 10 rfl | apply s.ldn 11 rfl); (· assumption); (· first | exact Nat.le_refl _ | decide | (simp; done)); (· rfl))) ?_)
       | (with_reducible first | refine Wp.onT (by assumption) ?_ | refine Wp.onF (by assumption) ?_ | refine Wp.spT (by assumption) ?_ | refine Wp.spF (by assumption) ?_)
       | ((with_reducible refine Wp.gbx ?_); refine Wp.box s rfl fun _p _g _p0 _F s => ?_)
       | ((with_reducible refine Wp.gal ?_); refine Wp.alo s fun _p _g _p0 _F s => ?_)
       | ((with_reducible refine Wp.gst ?_); (first | apply Wp.sto s 0 rfl | apply Wp.sto s 1 rfl | apply Wp.sto s 2 rfl | apply Wp.sto s 3 rfl | apply Wp.sto s 4 rfl | apply Wp.sto s 5 rfl | apply Wp.sto s 6 rfl | apply Wp.sto s 7 rfl | apply Wp.sto s 8 rfl | apply Wp.sto s 9 rfl | apply Wp.sto s 10 rfl | apply Wp.sto s 11 rfl); (· assumption); (· first | rfl | assumption); (· rfl); (· first | exact Nat.le_refl _ | decide | (simp; done)); (· rfl); intro _g _F s; simp only [List.set_cons_succ, List.set_cons_zero, List.take_succ_cons, List.take_zero, List.drop_succ_cons, List.drop_zero, List.drop_nil, List.nil_append, List.cons_append, List.append_nil, Nat.zero_add, Nat.reduceAdd] at s))
      have hkl : kSe st.sess x.s < (st.sess.take (kSe st.sess x.s) ++ [(⟨x.s, 0, ⟨0, emp⟩⟩ : Se)] ++ st.sess.drop (kSe st.sess x.s)).length := by simp; omega
      have ok2 : Kv.ok ⟨st.cells, st.sess.take (kSe st.sess x.s) ++ [(⟨x.s, 0, ⟨0, emp⟩⟩ : Se)] ++ st.sess.drop (kSe st.sess x.s)⟩ := ⟨hs.1, by simp; omega⟩
      have sr2 : Kv.srt ⟨st.cells, st.sess.take (kSe st.sess x.s) ++ [(⟨x.s, 0, ⟨0, emp⟩⟩ : Se)] ++ st.sess.drop (kSe st.sess x.s)⟩ := ⟨hr.1, by
        have := putSe_srt hr.2 x ⟨x.s, 0, ⟨0, emp⟩⟩ rfl
        rwa [if_neg (by simp [hh])] at this⟩
      refine (j12ap st.cells _ ok2 sr2 x (kSe st.sess x.s) hkl _ rfl s.tail p0 (by assumption) (by assumption) o1 o3).mono fun r g' q => ?_
      have e : applySt st x = (⟨(doPr st.cells x).1, (st.sess.take (kSe st.sess x.s) ++ [(⟨x.s, 0, ⟨0, emp⟩⟩ : Se)] ++ st.sess.drop (kSe st.sess x.s)).set (kSe st.sess x.s) ⟨((st.sess.take (kSe st.sess x.s) ++ [(⟨x.s, 0, ⟨0, emp⟩⟩ : Se)] ++ st.sess.drop (kSe st.sess x.s))[kSe st.sess x.s]).i, x.n, (doPr st.cells x).2⟩⟩, (doPr st.cells x).2) := by
        have hl : (st.sess.take (kSe st.sess x.s)).length = kSe st.sess x.s := by simp; omega
        have e1 : (st.sess.take (kSe st.sess x.s) ++ [(⟨x.s, 0, ⟨0, emp⟩⟩ : Se)] ++ st.sess.drop (kSe st.sess x.s))[kSe st.sess x.s] = ⟨x.s, 0, ⟨0, emp⟩⟩ := by
          simp [List.getElem_append, hl]
        rw [e1]
        have e2 : (st.sess.take (kSe st.sess x.s) ++ [(⟨x.s, 0, ⟨0, emp⟩⟩ : Se)] ++ st.sess.drop (kSe st.sess x.s)).set (kSe st.sess x.s) ⟨x.s, x.n, (doPr st.cells x).2⟩ = st.sess.take (kSe st.sess x.s) ++ [⟨x.s, x.n, (doPr st.cells x).2⟩] ++ st.sess.drop (kSe st.sess x.s) := by
          rw [List.append_assoc, List.set_append_right _ _ (by omega), hl]
          simp
        rw [e2]
        simp [applySt, ok, hh, n12]
      rw [e]; exact q
end Go.Proofs.Ythoabddfionmoaa.AH
namespace Go.Proofs.Ythoabddfionmoaa.AH
open Go Go.RowKit
def foldC (s : Kv) : List Cmd → Kv × List Rp
  | [] => (s, [])
  | c :: l => ((foldC (applySt s c).1 l).1, (applySt s c).2 :: (foldC (applySt s c).1 l).2)
theorem foldC_len : ∀ (l : List Cmd) (s : Kv), (foldC s l).2.length = l.length
  | [], s => rfl
  | c :: l, s => by simp [foldC, foldC_len l]
theorem foldC_ok : ∀ (l : List Cmd) (s : Kv), s.ok → (foldC s l).1.ok
  | [], s, h => h
  | c :: l, s, h => foldC_ok l _ (applySt_ok h c)
def foldR (l : List Cmd) : Kv × List Rp := if l.length ≤ 100 then foldC ⟨[], []⟩ l else (⟨[], []⟩, [])
/-- What FoldCommands answers: all in blocks of its own. -/
def FoldPost (h0 : H) (s : Kv) (rp : List Rp) (ok : Bool) : V → H → Prop := fun r g' => ∃ v1 v2 w i1 i2 i3, r = .tup [.agg [v1, v2], w, .bool ok] ∧
  Mm h0 g' [(i1, flat s.cells), (i2, flat s.sess), (i3, flat rp)] ∧ OV v1 s.cells i1 ∧ OV v2 s.sess i2 ∧ OV w rp i3
set_option maxHeartbeats 4000000 in
theorem l20 (v : V) {h0 : H} (x2 x5 : Nat) (n2 : x2 ≠ 0) (n5 : x5 ≠ 0) : ∀ (B A : List Cmd), A.length + B.length ≤ 100 → RV h0 v (A ++ B) → ∀ (st : Kv) (out : List Rp) (g : H) (v1 v2 w y1 y2 : V) (i1 i2 i3 : Nat), st.ok → st.srt → out.length = A.length →
    Mm h0 g [(x5, [v1, v2]), (i1, flat st.cells), (i2, flat st.sess), (i3, flat out), (x2, [y1, y2])] → OV v1 st.cells i1 → OV v2 st.sess i2 → OV w out i3 →
    Wp (S20_l5 R (.ptr x2 0) (.ptr x5 0) w v (.int .i64 (A.length + B.length : Nat)) (.int .i64 A.length) g) (FoldPost h0 (foldC st B).1 (out ++ (foldC st B).2) true)
  | [], A, hn, r, st, out, g, v1, v2, w, y1, y2, i1, i2, i3, hs, hr, ho, s, o1, o2, o3 => by
    rw [S20_l5_eq]
    have _c := o1.cells
    have _n := o1.nt
    have _c := o2.cells
    have _n := o2.nt
    have _c := o3.cells
    have _n := o3.nt
    refine Wp.b (bin_lss _ _ _ _ _) (Wp.onF (by simp) ?_)
    repeat (first
     | ((with_reducible refine Wp.gb ?_); refine Wp.b (by first | (with_reducible first | exact fA_p (by assumption) | exact fA_o (by assumption) | exact nilC_ptr (by assumption) | exact bin_lss .. | exact bin_leq .. | exact bin_gtr .. | exact bin_geq .. | exact bin_eql .. | exact bin_neq .. | exact bin_add .. | exact bin_sub .. | exact bin_mul .. | exact str_eql .. | exact str_neq .. | exact str_lss .. | exact str_gtr .. | exact str_geq .. | exact str_leq .. | exact not_bool .. | exact lenS_str .. | assumption) | exact (show extV (.tup _) _ = some _ from rfl) | exact s.ld1 0 rfl (by assumption) _ rfl | exact s.ld1 1 rfl (by assumption) _ rfl | exact s.ld1 2 rfl (by assumption) _ rfl | exact s.ld1 3 rfl (by assumption) _ rfl | exact s.ld1 4 rfl (by assumption) _ rfl | exact s.ld1 5 rfl (by assumption) _ rfl | exact s.ld1 6 rfl (by assumption) _ rfl | exact s.ld1 7 rfl (by assumption) _ rfl | exact s.ld1 8 rfl (by assumption) _ rfl | exact s.ld1 9 rfl (by assumption) _ rfl | exact s.ld1 10 rfl (by assumption) _ rfl | exact s.ld1 11 rfl (by assumption) _ rfl | exact bload_ld1 (by assumption) _ rfl | exact bload_ldn (by assumption) _ _ (Nat.le_refl _) | exact (show bldV _ _ = some _ from rfl) | ((first | apply s.ldn 0 rfl | apply s.ldn 1 rfl | apply s.ldn 2 rfl | apply s.ldn 3 rfl | apply s.ldn 4 rfl | apply s.ldn 5 rfl | apply s.ldn 6 rfl | apply s.ldn 7 rfl | apply s.ldn 8 rfl | apply s.ldn 9 rfl | apply s.ldn 10 rfl | apply s.ldn 11 rfl); (· assumption); (· first | exact Nat.le_refl _ | decide | (simp; done)); (· rfl))) ?_)
     | (with_reducible first | refine Wp.onT (by assumption) ?_ | refine Wp.onF (by assumption) ?_ | refine Wp.spT (by assumption) ?_ | refine Wp.spF (by assumption) ?_)
     | ((with_reducible refine Wp.gbx ?_); refine Wp.box s rfl fun _p _g _p0 _F s => ?_)
     | ((with_reducible refine Wp.gal ?_); refine Wp.alo s fun _p _g _p0 _F s => ?_)
     | ((with_reducible refine Wp.gst ?_); (first | apply Wp.sto s 0 rfl | apply Wp.sto s 1 rfl | apply Wp.sto s 2 rfl | apply Wp.sto s 3 rfl | apply Wp.sto s 4 rfl | apply Wp.sto s 5 rfl | apply Wp.sto s 6 rfl | apply Wp.sto s 7 rfl | apply Wp.sto s 8 rfl | apply Wp.sto s 9 rfl | apply Wp.sto s 10 rfl | apply Wp.sto s 11 rfl); (· assumption); (· first | rfl | assumption); (· rfl); (· first | exact Nat.le_refl _ | decide | (simp; done)); (· rfl); intro _g _F s; simp only [List.set_cons_succ, List.set_cons_zero, List.take_succ_cons, List.take_zero, List.drop_succ_cons, List.drop_zero, List.drop_nil, List.nil_append, List.cons_append, List.append_nil, Nat.zero_add, Nat.reduceAdd] at s))
    refine Wp.r3 (s.ldn 4 rfl n2 0 2 (Nat.le_refl 2) rfl) rfl rfl rfl o3.nt rfl ⟨v1, v2, w, i1, i2, i3, rfl, ?_, o1, o2, by simpa [foldC] using o3⟩
    simp only [foldC, List.append_nil]
    exact s.sub (by repeat (first | exact List.Sublist.refl _ | apply List.Sublist.cons_cons | apply List.Sublist.cons))
  | x :: B, A, hn, r, st, out, g, v1, v2, w, y1, y2, i1, i2, i3, hs, hr, ho, s, o1, o2, o3 => by
    rw [S20_l5_eq]
    simp only [List.length_cons] at hn
    obtain ⟨b, o, b0, bl, e1, e2⟩ := (s.bor r).mid
    refine Wp.b (bin_lss _ _ _ _ _) (Wp.onT (by simp; omega) ?_)
    refine Wp.b e1 (Wp.b (bload_ldn e2 0 6 (Nat.le_refl 6)) ?_)
    repeat (first
     | ((with_reducible refine Wp.gb ?_); refine Wp.b (by first | (with_reducible first | exact fA_p (by assumption) | exact fA_o (by assumption) | exact nilC_ptr (by assumption) | exact bin_lss .. | exact bin_leq .. | exact bin_gtr .. | exact bin_geq .. | exact bin_eql .. | exact bin_neq .. | exact bin_add .. | exact bin_sub .. | exact bin_mul .. | exact str_eql .. | exact str_neq .. | exact str_lss .. | exact str_gtr .. | exact str_geq .. | exact str_leq .. | exact not_bool .. | exact lenS_str .. | assumption) | exact (show extV (.tup _) _ = some _ from rfl) | exact s.ld1 0 rfl (by assumption) _ rfl | exact s.ld1 1 rfl (by assumption) _ rfl | exact s.ld1 2 rfl (by assumption) _ rfl | exact s.ld1 3 rfl (by assumption) _ rfl | exact s.ld1 4 rfl (by assumption) _ rfl | exact s.ld1 5 rfl (by assumption) _ rfl | exact s.ld1 6 rfl (by assumption) _ rfl | exact s.ld1 7 rfl (by assumption) _ rfl | exact s.ld1 8 rfl (by assumption) _ rfl | exact s.ld1 9 rfl (by assumption) _ rfl | exact s.ld1 10 rfl (by assumption) _ rfl | exact s.ld1 11 rfl (by assumption) _ rfl | exact bload_ld1 (by assumption) _ rfl | exact bload_ldn (by assumption) _ _ (Nat.le_refl _) | exact (show bldV _ _ = some _ from rfl) | ((first | apply s.ldn 0 rfl | apply s.ldn 1 rfl | apply s.ldn 2 rfl | apply s.ldn 3 rfl | apply s.ldn 4 rfl | apply s.ldn 5 rfl | apply s.ldn 6 rfl | apply s.ldn 7 rfl | apply s.ldn 8 rfl | apply s.ldn 9 rfl | apply s.ldn 10 rfl | apply s.ldn 11 rfl); (· assumption); (· first | exact Nat.le_refl _ | decide | (simp; done)); (· rfl))) ?_)
     | (with_reducible first | refine Wp.onT (by assumption) ?_ | refine Wp.onF (by assumption) ?_ | refine Wp.spT (by assumption) ?_ | refine Wp.spF (by assumption) ?_)
     | ((with_reducible refine Wp.gbx ?_); refine Wp.box s rfl fun _p _g _p0 _F s => ?_)
     | ((with_reducible refine Wp.gal ?_); refine Wp.alo s fun _p _g _p0 _F s => ?_)
     | ((with_reducible refine Wp.gst ?_); (first | apply Wp.sto s 0 rfl | apply Wp.sto s 1 rfl | apply Wp.sto s 2 rfl | apply Wp.sto s 3 rfl | apply Wp.sto s 4 rfl | apply Wp.sto s 5 rfl | apply Wp.sto s 6 rfl | apply Wp.sto s 7 rfl | apply Wp.sto s 8 rfl | apply Wp.sto s 9 rfl | apply Wp.sto s 10 rfl | apply Wp.sto s 11 rfl); (· assumption); (· first | rfl | assumption); (· rfl); (· first | exact Nat.le_refl _ | decide | (simp; done)); (· rfl); intro _g _F s; simp only [List.set_cons_succ, List.set_cons_zero, List.take_succ_cons, List.take_zero, List.drop_succ_cons, List.drop_zero, List.drop_nil, List.nil_append, List.cons_append, List.append_nil, Nat.zero_add, Nat.reduceAdd] at s))
    replace s := s.tail
    refine Wp.bind (ap49 st hs hr x s n5 o1 o2) ?_
    rintro _ g2 ⟨rfl, v1, i1, v2, i2, s, o1, o2⟩
    dsimp only
    have hs := applySt_ok hs x
    have hr := applySt_srt hr x
    refine Wp.lit s [(applySt st x).2] rfl rfl rfl fun u j g5 ou jn F5 s => ?_
    refine Wp.app s 4 o3 rfl (s.rv 0 ou rfl) rfl (by simp; omega) (by simp; omega) fun w i3 g6 o3 F6 s => ?_
    simp only [List.set_cons_succ, List.set_cons_zero] at s
    refine Wp.b (bin_add _ _ _ _ _) ?_
    rw [inc64 (by omega)]
    have i := l20 v x2 x5 n2 n5 B (A ++ [x]) (by simp; omega) (by simpa using r) (applySt st x).1 _ _ v1 v2 w y1 y2 i1 i2 i3 hs hr (by simp; omega) s.tail o1 o2 o3
    have e1 : A.length + (x :: B).length = (A ++ [x]).length + B.length := by simp; omega
    rw [e1]
    rw [List.length_append, List.length_singleton] at i ⊢
    simpa [foldC] using i
theorem fold20 (l : List Cmd) (hn : l.length ≤ 4611686018427387904) (v : V) (h : H) (hk : Hok h) (r : RV h v l) :
    Wp (R 20 [v] h) (FoldPost h (foldR l).1 (foldR l).2 (decide (l.length ≤ 100))) := by
  refine R20 rfl ?_
  rw [S20_eq]
  have s := Mm.base hk
  have hl := r.len
  repeat (first
   | ((with_reducible refine Wp.gb ?_); refine Wp.b (by first | (with_reducible first | exact fA_p (by assumption) | exact fA_o (by assumption) | exact nilC_ptr (by assumption) | exact bin_lss .. | exact bin_leq .. | exact bin_gtr .. | exact bin_geq .. | exact bin_eql .. | exact bin_neq .. | exact bin_add .. | exact bin_sub .. | exact bin_mul .. | exact str_eql .. | exact str_neq .. | exact str_lss .. | exact str_gtr .. | exact str_geq .. | exact str_leq .. | exact not_bool .. | exact lenS_str .. | assumption) | exact (show extV (.tup _) _ = some _ from rfl) | exact s.ld1 0 rfl (by assumption) _ rfl | exact s.ld1 1 rfl (by assumption) _ rfl | exact s.ld1 2 rfl (by assumption) _ rfl | exact s.ld1 3 rfl (by assumption) _ rfl | exact s.ld1 4 rfl (by assumption) _ rfl | exact s.ld1 5 rfl (by assumption) _ rfl | exact s.ld1 6 rfl (by assumption) _ rfl | exact s.ld1 7 rfl (by assumption) _ rfl | exact s.ld1 8 rfl (by assumption) _ rfl | exact s.ld1 9 rfl (by assumption) _ rfl | exact s.ld1 10 rfl (by assumption) _ rfl | exact s.ld1 11 rfl (by assumption) _ rfl | exact bload_ld1 (by assumption) _ rfl | exact bload_ldn (by assumption) _ _ (Nat.le_refl _) | exact (show bldV _ _ = some _ from rfl) | ((first | apply s.ldn 0 rfl | apply s.ldn 1 rfl | apply s.ldn 2 rfl | apply s.ldn 3 rfl | apply s.ldn 4 rfl | apply s.ldn 5 rfl | apply s.ldn 6 rfl | apply s.ldn 7 rfl | apply s.ldn 8 rfl | apply s.ldn 9 rfl | apply s.ldn 10 rfl | apply s.ldn 11 rfl); (· assumption); (· first | exact Nat.le_refl _ | decide | (simp; done)); (· rfl))) ?_)
   | (with_reducible first | refine Wp.onT (by assumption) ?_ | refine Wp.onF (by assumption) ?_ | refine Wp.spT (by assumption) ?_ | refine Wp.spF (by assumption) ?_)
   | ((with_reducible refine Wp.gbx ?_); refine Wp.box s rfl fun _p _g _p0 _F s => ?_)
   | ((with_reducible refine Wp.gal ?_); refine Wp.alo s fun _p _g _p0 _F s => ?_))
  refine Wp.on (fun hc => ?_) (fun hc => ?_)
  · have hc : ¬ l.length ≤ 100 := by
      have : (100 : Int) < l.length := by simpa using hc
      omega
    repeat (first
     | ((with_reducible refine Wp.gb ?_); refine Wp.b (by first | (with_reducible first | exact fA_p (by assumption) | exact fA_o (by assumption) | exact nilC_ptr (by assumption) | exact bin_lss .. | exact bin_leq .. | exact bin_gtr .. | exact bin_geq .. | exact bin_eql .. | exact bin_neq .. | exact bin_add .. | exact bin_sub .. | exact bin_mul .. | exact str_eql .. | exact str_neq .. | exact str_lss .. | exact str_gtr .. | exact str_geq .. | exact str_leq .. | exact not_bool .. | exact lenS_str .. | assumption) | exact (show extV (.tup _) _ = some _ from rfl) | exact s.ld1 0 rfl (by assumption) _ rfl | exact s.ld1 1 rfl (by assumption) _ rfl | exact s.ld1 2 rfl (by assumption) _ rfl | exact s.ld1 3 rfl (by assumption) _ rfl | exact s.ld1 4 rfl (by assumption) _ rfl | exact s.ld1 5 rfl (by assumption) _ rfl | exact s.ld1 6 rfl (by assumption) _ rfl | exact s.ld1 7 rfl (by assumption) _ rfl | exact s.ld1 8 rfl (by assumption) _ rfl | exact s.ld1 9 rfl (by assumption) _ rfl | exact s.ld1 10 rfl (by assumption) _ rfl | exact s.ld1 11 rfl (by assumption) _ rfl | exact bload_ld1 (by assumption) _ rfl | exact bload_ldn (by assumption) _ _ (Nat.le_refl _) | exact (show bldV _ _ = some _ from rfl) | ((first | apply s.ldn 0 rfl | apply s.ldn 1 rfl | apply s.ldn 2 rfl | apply s.ldn 3 rfl | apply s.ldn 4 rfl | apply s.ldn 5 rfl | apply s.ldn 6 rfl | apply s.ldn 7 rfl | apply s.ldn 8 rfl | apply s.ldn 9 rfl | apply s.ldn 10 rfl | apply s.ldn 11 rfl); (· assumption); (· first | exact Nat.le_refl _ | decide | (simp; done)); (· rfl))) ?_)
     | (with_reducible first | refine Wp.onT (by assumption) ?_ | refine Wp.onF (by assumption) ?_ | refine Wp.spT (by assumption) ?_ | refine Wp.spF (by assumption) ?_)
     | ((with_reducible refine Wp.gbx ?_); refine Wp.box s rfl fun _p _g _p0 _F s => ?_)
     | ((with_reducible refine Wp.gal ?_); refine Wp.alo s fun _p _g _p0 _F s => ?_)
     | ((with_reducible refine Wp.gst ?_); (first | apply Wp.sto s 0 rfl | apply Wp.sto s 1 rfl | apply Wp.sto s 2 rfl | apply Wp.sto s 3 rfl | apply Wp.sto s 4 rfl | apply Wp.sto s 5 rfl | apply Wp.sto s 6 rfl | apply Wp.sto s 7 rfl | apply Wp.sto s 8 rfl | apply Wp.sto s 9 rfl | apply Wp.sto s 10 rfl | apply Wp.sto s 11 rfl); (· assumption); (· first | rfl | assumption); (· rfl); (· first | exact Nat.le_refl _ | decide | (simp; done)); (· rfl); intro _g _F s; simp only [List.set_cons_succ, List.set_cons_zero, List.take_succ_cons, List.take_zero, List.drop_succ_cons, List.drop_zero, List.drop_nil, List.nil_append, List.cons_append, List.append_nil, Nat.zero_add, Nat.reduceAdd] at s))
    have e : decide (l.length ≤ 100) = false := by simpa using hc
    rw [e]
    refine Wp.r3 (s.ldn 0 rfl (by assumption) 0 2 (Nat.le_refl 2) rfl) rfl rfl rfl rfl rfl ⟨_, _, _, 0, 0, 0, rfl, ?_, ?_, ?_, ?_⟩
    all_goals simp only [foldR, if_neg hc]
    · exact ⟨s.k0, s.k, s.F, fun x hx => .inl (by simp only [List.mem_cons, List.not_mem_nil, or_false] at hx; rcases hx with rfl | rfl | rfl <;> exact ⟨rfl, rfl⟩), by simp⟩
    · exact OV.nil
    · exact OV.nil
    · exact OV.nil
  · have hc : l.length ≤ 100 := by
      have : ¬ (100 : Int) < l.length := by simpa using hc
      omega
    repeat (first
     | ((with_reducible refine Wp.gb ?_); refine Wp.b (by first | (with_reducible first | exact fA_p (by assumption) | exact fA_o (by assumption) | exact nilC_ptr (by assumption) | exact bin_lss .. | exact bin_leq .. | exact bin_gtr .. | exact bin_geq .. | exact bin_eql .. | exact bin_neq .. | exact bin_add .. | exact bin_sub .. | exact bin_mul .. | exact str_eql .. | exact str_neq .. | exact str_lss .. | exact str_gtr .. | exact str_geq .. | exact str_leq .. | exact not_bool .. | exact lenS_str .. | assumption) | exact (show extV (.tup _) _ = some _ from rfl) | exact s.ld1 0 rfl (by assumption) _ rfl | exact s.ld1 1 rfl (by assumption) _ rfl | exact s.ld1 2 rfl (by assumption) _ rfl | exact s.ld1 3 rfl (by assumption) _ rfl | exact s.ld1 4 rfl (by assumption) _ rfl | exact s.ld1 5 rfl (by assumption) _ rfl | exact s.ld1 6 rfl (by assumption) _ rfl | exact s.ld1 7 rfl (by assumption) _ rfl | exact s.ld1 8 rfl (by assumption) _ rfl | exact s.ld1 9 rfl (by assumption) _ rfl | exact s.ld1 10 rfl (by assumption) _ rfl | exact s.ld1 11 rfl (by assumption) _ rfl | exact bload_ld1 (by assumption) _ rfl | exact bload_ldn (by assumption) _ _ (Nat.le_refl _) | exact (show bldV _ _ = some _ from rfl) | ((first | apply s.ldn 0 rfl | apply s.ldn 1 rfl | apply s.ldn 2 rfl | apply s.ldn 3 rfl | apply s.ldn 4 rfl | apply s.ldn 5 rfl | apply s.ldn 6 rfl | apply s.ldn 7 rfl | apply s.ldn 8 rfl | apply s.ldn 9 rfl | apply s.ldn 10 rfl | apply s.ldn 11 rfl); (· assumption); (· first | exact Nat.le_refl _ | decide | (simp; done)); (· rfl))) ?_)
     | (with_reducible first | refine Wp.onT (by assumption) ?_ | refine Wp.onF (by assumption) ?_ | refine Wp.spT (by assumption) ?_ | refine Wp.spF (by assumption) ?_)
     | ((with_reducible refine Wp.gbx ?_); refine Wp.box s rfl fun _p _g _p0 _F s => ?_)
     | ((with_reducible refine Wp.gal ?_); refine Wp.alo s fun _p _g _p0 _F s => ?_))
    refine Wp.lit s ([] : List Rp) rfl rfl rfl fun w i3 _g o3 n3 _F s => ?_
    have _c := o3.cells
    have _n := o3.nt
    repeat (first
     | ((with_reducible refine Wp.gb ?_); refine Wp.b (by first | (with_reducible first | exact fA_p (by assumption) | exact fA_o (by assumption) | exact nilC_ptr (by assumption) | exact bin_lss .. | exact bin_leq .. | exact bin_gtr .. | exact bin_geq .. | exact bin_eql .. | exact bin_neq .. | exact bin_add .. | exact bin_sub .. | exact bin_mul .. | exact str_eql .. | exact str_neq .. | exact str_lss .. | exact str_gtr .. | exact str_geq .. | exact str_leq .. | exact not_bool .. | exact lenS_str .. | assumption) | exact (show extV (.tup _) _ = some _ from rfl) | exact s.ld1 0 rfl (by assumption) _ rfl | exact s.ld1 1 rfl (by assumption) _ rfl | exact s.ld1 2 rfl (by assumption) _ rfl | exact s.ld1 3 rfl (by assumption) _ rfl | exact s.ld1 4 rfl (by assumption) _ rfl | exact s.ld1 5 rfl (by assumption) _ rfl | exact s.ld1 6 rfl (by assumption) _ rfl | exact s.ld1 7 rfl (by assumption) _ rfl | exact s.ld1 8 rfl (by assumption) _ rfl | exact s.ld1 9 rfl (by assumption) _ rfl | exact s.ld1 10 rfl (by assumption) _ rfl | exact s.ld1 11 rfl (by assumption) _ rfl | exact bload_ld1 (by assumption) _ rfl | exact bload_ldn (by assumption) _ _ (Nat.le_refl _) | exact (show bldV _ _ = some _ from rfl) | ((first | apply s.ldn 0 rfl | apply s.ldn 1 rfl | apply s.ldn 2 rfl | apply s.ldn 3 rfl | apply s.ldn 4 rfl | apply s.ldn 5 rfl | apply s.ldn 6 rfl | apply s.ldn 7 rfl | apply s.ldn 8 rfl | apply s.ldn 9 rfl | apply s.ldn 10 rfl | apply s.ldn 11 rfl); (· assumption); (· first | exact Nat.le_refl _ | decide | (simp; done)); (· rfl))) ?_)
     | (with_reducible first | refine Wp.onT (by assumption) ?_ | refine Wp.onF (by assumption) ?_ | refine Wp.spT (by assumption) ?_ | refine Wp.spF (by assumption) ?_)
     | ((with_reducible refine Wp.gbx ?_); refine Wp.box s rfl fun _p _g _p0 _F s => ?_)
     | ((with_reducible refine Wp.gal ?_); refine Wp.alo s fun _p _g _p0 _F s => ?_)
     | ((with_reducible refine Wp.gst ?_); (first | apply Wp.sto s 0 rfl | apply Wp.sto s 1 rfl | apply Wp.sto s 2 rfl | apply Wp.sto s 3 rfl | apply Wp.sto s 4 rfl | apply Wp.sto s 5 rfl | apply Wp.sto s 6 rfl | apply Wp.sto s 7 rfl | apply Wp.sto s 8 rfl | apply Wp.sto s 9 rfl | apply Wp.sto s 10 rfl | apply Wp.sto s 11 rfl); (· assumption); (· first | rfl | assumption); (· rfl); (· first | exact Nat.le_refl _ | decide | (simp; done)); (· rfl); intro _g _F s; simp only [List.set_cons_succ, List.set_cons_zero, List.take_succ_cons, List.take_zero, List.drop_succ_cons, List.drop_zero, List.drop_nil, List.nil_append, List.cons_append, List.append_nil, Nat.zero_add, Nat.reduceAdd] at s))
    have i := l20 v _ _ (by assumption) (by assumption) l [] (by simp; omega) r ⟨[], []⟩ [] _ (.sl 0 0 0 0) (.sl 0 0 0 0) w _ _ 0 0 i3 ⟨by simp, by simp⟩ ⟨by simp, by simp⟩ rfl s.nil1.nil1 OV.nil OV.nil o3
    simp only [List.length_nil, Nat.zero_add, List.nil_append] at i
    simp only [foldR, if_pos hc, hc, decide_true]
    exact i
end Go.Proofs.Ythoabddfionmoaa.AH
namespace Go.Proofs.Ythoabddfionmoaa.AH
open Go Go.RowKit
/-- The session has come to this number. -/
def Dn (s : Kv) (x n : Int) : Prop := ∃ e ∈ s.sess, e.i = x ∧ n ≤ e.l
theorem se_at {l : List Se} (hr : l.Pairwise rSe) {e : Se} (he : e ∈ l) : ∃ h : kSe l e.i < l.length, l[kSe l e.i] = e := by
  have hk : kSe l e.i < l.length := by
    by_cases h : kSe l e.i < l.length
    · exact h
    · have h1 := kSe_le l e.i
      have h2 : l.take (kSe l e.i) = l.takeWhile fun x => decide (x.i < e.i) := take_tw _ l
      rw [List.take_of_length_le (by omega)] at h2
      have := mem_tw (fun x => decide (x.i < e.i)) l e (h2 ▸ he)
      simp at this
  refine ⟨hk, ?_⟩
  have n1 : decide (l[kSe l e.i].i < e.i) = false := tw_not _ l hk
  have n1 : ¬ l[kSe l e.i].i < e.i := by simpa using n1
  have e1 : l = l.take (kSe l e.i) ++ l[kSe l e.i] :: l.drop (kSe l e.i + 1) := by rw [← List.drop_eq_getElem_cons hk, List.take_append_drop]
  rw [e1] at he
  rcases List.mem_append.1 he with h | h
  · have h2 : l.take (kSe l e.i) = l.takeWhile fun x => decide (x.i < e.i) := take_tw _ l
    rw [h2] at h
    have := mem_tw (fun x => decide (x.i < e.i)) l e h
    simp at this
  · rcases List.mem_cons.1 h with h | h
    · exact h.symm
    · have : rSe l[kSe l e.i] e := pw_drop hr _ hk e h
      exact absurd this n1
theorem Dn.skip {s : Kv} {c : Cmd} (hr : s.srt) (d : Dn s c.s c.n) : (applySt s c).1 = s := by
  obtain ⟨e, he, e1, e2⟩ := d
  obtain ⟨hk, hx⟩ := se_at hr.2 he
  simp only [e1] at hk hx
  have h1 : hasSe s.sess c.s = true := by
    unfold hasSe; rw [List.getElem?_eq_getElem hk, hx]; simpa using e1
  have h2 : seAt s.sess c.s = e := by
    unfold seAt; rw [List.getElem?_eq_getElem hk, hx]
  unfold applySt
  split
  · rfl
  · split
    · rfl
    · split
      · rfl
      · rename_i n1 n2 n3
        rw [h2] at n2 n3
        exact absurd ⟨h1, by have : ¬ e.l = c.n := fun q => n2 ⟨h1, q⟩
                             omega⟩ n3
theorem Dn.keep {s : Kv} {x n : Int} (c : Cmd) (d : Dn s x n) : Dn (applySt s c).1 x n := by
  obtain ⟨e, he, e1, e2⟩ := d
  unfold applySt
  split
  · exact ⟨e, he, e1, e2⟩
  · split
    · exact ⟨e, he, e1, e2⟩
    · split
      · exact ⟨e, he, e1, e2⟩
      · rename_i n1 n2 n3
        by_cases h1 : hasSe s.sess c.s = true
        · have hk := hasSe_lt h1
          have e3 : s.sess = s.sess.take (kSe s.sess c.s) ++ s.sess[kSe s.sess c.s] :: s.sess.drop (kSe s.sess c.s + 1) := by rw [← List.drop_eq_getElem_cons hk, List.take_append_drop]
          rw [e3] at he
          rcases List.mem_append.1 he with h | h
          · exact ⟨e, by simp [h], e1, e2⟩
          · rcases List.mem_cons.1 h with h | h
            · refine ⟨⟨c.s, c.n, (doPr s.cells c).2⟩, by simp, ?_, ?_⟩
              · have h4 := h1
                unfold hasSe at h4; rw [List.getElem?_eq_getElem hk] at h4
                have : s.sess[kSe s.sess c.s].i = c.s := by simpa using h4
                rw [← h, e1] at this; exact this.symm
              · have h5 : seAt s.sess c.s = e := by unfold seAt; rw [List.getElem?_eq_getElem hk, h]
                rw [h5] at n2 n3
                have : ¬ c.n < e.l := fun q => n3 ⟨h1, q⟩
                show n ≤ c.n
                omega
            · exact ⟨e, by simp [h1, h], e1, e2⟩
        · have h1 : hasSe s.sess c.s = false := by simpa using h1
          refine ⟨e, ?_, e1, e2⟩
          rw [← List.take_append_drop (kSe s.sess c.s) s.sess] at he
          rcases List.mem_append.1 he with h | h
          · simp [h]
          · simp [h1, h]
theorem Dn.new {s : Kv} {c : Cmd} (h : (applySt s c).1.cells ≠ s.cells) : Dn (applySt s c).1 c.s c.n := by
  unfold applySt at h ⊢
  split
  · rename_i n; rw [if_pos n] at h; exact absurd rfl h
  · rename_i n1
    rw [if_neg n1] at h
    split
    · rename_i n; rw [if_pos n] at h; exact absurd rfl h
    · rename_i n2
      rw [if_neg n2] at h
      split
      · rename_i n; rw [if_pos n] at h; exact absurd rfl h
      · exact ⟨⟨c.s, c.n, (doPr s.cells c).2⟩, by simp, rfl, Int.le_refl _⟩
/-- The state behind so many commands. -/
def stA (l : List Cmd) (i : Nat) : Kv := (foldC ⟨[], []⟩ (l.take i)).1
theorem foldC_snoc : ∀ (l : List Cmd) (s : Kv) (c : Cmd), (foldC s (l ++ [c])).1 = (applySt (foldC s l).1 c).1
  | [], s, c => rfl
  | a :: l, s, c => foldC_snoc l _ c
theorem foldC_srt : ∀ (l : List Cmd) (s : Kv), s.srt → (foldC s l).1.srt
  | [], s, h => h
  | a :: l, s, h => foldC_srt l _ (applySt_srt h a)
theorem stA_srt (l : List Cmd) (i : Nat) : (stA l i).srt := foldC_srt _ _ ⟨by simp, by simp⟩
theorem stA_succ (l : List Cmd) (i : Nat) (hi : i < l.length) : stA l (i + 1) = (applySt (stA l i) l[i]).1 := by
  unfold stA
  rw [List.take_succ_eq_append_getElem hi, foldC_snoc]
theorem stA_small (l : List Cmd) (i : Nat) : (stA l i).cells.length ≤ 40 ∧ (stA l i).sess.length ≤ 12 := by
  have := foldC_ok (l.take i) ⟨[], []⟩ ⟨by simp, by simp⟩
  exact ⟨this.1, this.2⟩
end Go.Proofs.Ythoabddfionmoaa.AH
namespace Go.Proofs.Ythoabddfionmoaa.AH
open Go Go.RowKit
theorem none_ok : Hok H.none := ⟨by decide, Nat.le_refl _⟩
theorem pc_of {c : CallF} {f : Nat} {vs : List V} {v : V} (hs : vs.all scal1 = true) (w : Wp (c f vs H.none) fun r _ => r = v) (hv : scal v = true) : pcall c f vs = some v := by
  obtain ⟨r, h', e, rfl⟩ := w
  unfold pcall
  rw [hs, e]
  simp only [Option.bind_some, hv]
theorem bytes_flat (l : List UInt8) : bytesOf (flat l) = some l := by
  induction l with
  | nil => rfl
  | cons a l ih =>
    have e : flat (a :: l) = V.int .u8 a.toNat :: flat l := rfl
    rw [e]
    simp only [bytesOf, ih, byteOfV, Option.bind_some, Option.map_some, Int.toNat_natCast]
    congr 2
    exact UInt8.ofNat_toNat
theorem RV.bytes {h : H} {v : V} {l : List UInt8} (r : RV h v l) : cvB h v = some (.str ⟨l.toArray⟩) := by
  obtain ⟨z, id, off, rfl, s⟩ := r
  simp only [cvB]
  by_cases h0 : id = 0
  · rw [if_pos h0]
    rcases s with ⟨_, rfl⟩ | s
    · rfl
    · exact absurd h0 s.1
  · rw [if_neg h0]
    by_cases hl : l.length = 0
    · rw [if_pos hl, List.eq_nil_of_length_eq_zero hl]; rfl
    · rw [if_neg hl]
      rcases s with s | s
      · exact absurd s.1 h0
      · have e := s.2.2.2
        have e1 : l.length * Enc.sz UInt8 = l.length := Nat.mul_one _
        rw [e1] at e
        have e2 : h.load id off l.length = some (flat l) := e
        rw [e2]
        simp only [Option.bind_some, bytes_flat, Option.map_some]
theorem w8 {n : Nat} (k : n < 256) : IntKind.u8.wrap (n : Int) = (n : Int) := by
  unfold IntKind.wrap
  simp [IntKind.bits, IntKind.signed]
  omega
theorem w8m (n : Nat) : IntKind.u8.wrap (n : Int) = ((n % 256 : Nat) : Int) := by
  unfold IntKind.wrap
  simp [IntKind.bits, IntKind.signed]
theorem u8_nat {n : Nat} (k : n < 256) : (UInt8.ofNat n).toNat = n := by simp; omega
theorem cvI_int (k k' : IntKind) (n : Int) : cvI k (.int k' n) = some (.int k (k.wrap n)) := rfl
theorem w64 {n : Nat} (k : n < 9223372036854775808) : IntKind.i64.wrap (n : Int) = (n : Int) := wrap64 (by omega) (by omega)

theorem Mm.pull {h0 g : H} {L : List (Nat × List V)} (s : Mm h0 g L) (i : Nat) {x : Nat × List V} (hx : L[i]? = some x) : Mm h0 g (x :: L.eraseIdx i) := by
  refine s.perm ?_
  clear s
  induction L generalizing i with
  | nil => simp at hx
  | cons y L ih =>
    cases i with
    | zero => simp only [List.getElem?_cons_zero, Option.some.injEq] at hx; subst hx; exact List.Perm.refl _
    | succ i => exact ((ih i (by simpa using hx)).cons y).trans (List.Perm.swap _ _ _)
theorem ixS_at {s : ByteArray} {i : Nat} {b : UInt8} {k : IntKind} (e : s.data.toList[i]? = some b) : ixS (.str s) (.int k i) = some (.int .u8 b.toNat) := by
  have e2 : s[i]? = some b := by
    rw [Array.getElem?_toList] at e
    obtain ⟨hi, e3⟩ := Array.getElem?_eq_some_iff.1 e
    rw [getElem?_pos s i hi]
    exact congrArg some e3
  simp [ixS, e2]
theorem bin_shl64 {P : Program} {t : TypeId} {a k : Nat} {q : IntKind} (ha : a * 2 ^ k < 9223372036854775808) (hk : k < 64) : binV P .shl t (.int .i64 a) (.int q k) = some (.int .i64 ((a * 2 ^ k : Nat) : Int)) := by
  have e : binV P .shl t (.int .i64 a) (.int q k) = if (k : Int) < 0 then none else some (.int .i64 (IntKind.i64.wrap ((a : Int) * (2 ^ (min (k : Int).toNat 64))))) := rfl
  rw [e, if_neg (by omega), Int.toNat_natCast, Nat.min_eq_left (by omega)]
  rw [show ((a : Int) * 2 ^ k) = ((a * 2 ^ k : Nat) : Int) by simp, w64 ha]
theorem slS_to {s : ByteArray} {n : Nat} (hn : n ≤ s.size) : slS (.str s) none (some (.int .i64 n)) = some (.str (s.extract 0 n)) := by
  simp [slS, bnd, hn]
theorem slS_from {s : ByteArray} {n : Nat} (hn : n ≤ s.size) : slS (.str s) (some (.int .i64 n)) none = some (.str (s.extract n s.size)) := by
  simp [slS, bnd, hn]
end Go.Proofs.Ythoabddfionmoaa.AH
namespace Go.Proofs.Ythoabddfionmoaa.AH
open Go Go.RowKit
def leb (n : Nat) : List UInt8 := if n < 128 then [UInt8.ofNat n] else UInt8.ofNat (n % 128 + 128) :: leb (n / 128)
termination_by n
decreasing_by omega
def lebS (n : Nat) : ByteArray := ⟨(leb n).toArray⟩
theorem leb_len : ∀ (m n : Nat), n ≤ m → (leb n).length ≤ n + 1
  | m, n, hm => by
    rw [leb]
    split
    · simp
    · match m with
      | 0 => omega
      | m + 1 => have := leb_len m (n / 128) (by omega); simp only [List.length_cons]; omega
set_option maxHeartbeats 4000000 in
theorem l40 : ∀ (m n : Nat), n ≤ m → ∀ (l : List UInt8) (v : V) (id : Nat) (h0 g : H), l.length + n ≤ 1099511627776 → Mm h0 g [(id, flat l)] → OV v l id →
    Wp (S40_l2 R (.int .i64 n) v g) fun r h' => r = .str ⟨(l ++ leb n).toArray⟩ ∧ Fr [] h0 h'
  | m, n, hm, l, v, id, h0, g, hn, s, o => by
    rw [S40_l2_eq]
    have hlt : n % 128 < 128 := Nat.mod_lt _ (by decide)
    refine Wp.b (bin_geq _ _ _ _ _) (Wp.on (fun hc => ?_) (fun hc => ?_))
    · have hc : 128 ≤ n := by have : (128 : Int) ≤ n := by simpa using hc
                              omega
      refine Wp.b (bin_rem _ _ _ _ _ (by decide)) ?_
      refine Wp.b (cvI_int _ _ _) ?_
      rw [show (n : Int).tmod 128 = ((n % 128 : Nat) : Int) from rfl, w8 (by omega)]
      refine Wp.b (bin_add _ _ _ _ _) ?_
      rw [show ((n % 128 : Nat) : Int) + 128 = ((n % 128 + 128 : Nat) : Int) by omega, w8 (by omega)]
      refine Wp.lit s [UInt8.ofNat (n % 128 + 128)] (by show _ = some [V.int .u8 ((UInt8.ofNat (n % 128 + 128)).toNat : Nat)]; rw [u8_nat (by omega)]; rfl) rfl rfl fun w j _g oo nn _F s => ?_
      refine Wp.app s 1 o rfl (s.rv 0 oo rfl) rfl (by simp <;> omega) (by simp <;> omega) fun v2 i2 _g o2 _F s => ?_
      simp only [List.set_cons_succ, List.set_cons_zero, List.nil_append] at s o2
      have _c := o2.cells
      have _n := o2.nt
      dsimp only
      refine Wp.b (bin_quo _ _ _ _ _ (by decide)) ?_
      rw [show (n : Int).tdiv 128 = ((n / 128 : Nat) : Int) from rfl, w64 (by omega)]
      match m with
      | 0 => omega
      | m + 1 =>
        have i := l40 m (n / 128) (by omega) _ v2 i2 h0 _ (by simp; omega) s.tail o2
        refine i.mono ?_
        rintro r h' ⟨rfl, F⟩
        refine ⟨?_, F⟩
        conv => rhs; rw [leb, if_neg (by omega)]
        simp
    · have hc : n < 128 := by have : ¬ (128 : Int) ≤ n := by simpa using hc
                              omega
      refine Wp.b (cvI_int _ _ _) ?_
      rw [w8 (by omega)]
      refine Wp.lit s [UInt8.ofNat n] (by show _ = some [V.int .u8 ((UInt8.ofNat n).toNat : Nat)]; rw [u8_nat (by omega)]; rfl) rfl rfl fun w j _g oo nn _F s => ?_
      refine Wp.app s 1 o rfl (s.rv 0 oo rfl) rfl (by simp <;> omega) (by simp <;> omega) fun v2 i2 _g o2 _F s => ?_
      simp only [List.set_cons_succ, List.set_cons_zero, List.nil_append] at s o2
      have _c := o2.cells
      have _n := o2.nt
      dsimp only
      refine Wp.b (s.rv 1 o2 rfl).bytes (Wp.r1 rfl rfl ⟨?_, s.F⟩)
      rw [leb, if_pos hc]
theorem var40 (n : Nat) (hn : n ≤ 1099511627776) (h : H) (hk : Hok h) : Wp (R 40 [.int .i64 n] h) fun r h' => r = .str (lebS n) ∧ Fr [] h h' := by
  refine R40 rfl ?_
  rw [S40_eq]
  have s := Mm.base hk
  refine Wp.lit s ([] : List UInt8) rfl rfl rfl fun w i _g o q _F s => ?_
  have _c := o.cells
  have _n := o.nt
  refine (l40 n _ (Nat.le_refl _) [] w i h _ (by simpa using hn) s o).mono ?_
  rintro r h' ⟨rfl, F⟩
  exact ⟨by simp [lebS], F⟩
theorem or_high : ∀ a : Fin 128, (a.val ||| 128) = a.val + 128 := by decide
theorem and_low (n : Nat) : n &&& 127 = n % 128 := Nat.and_two_pow_sub_one_eq_mod n 7
theorem ofInt_nat (w n : Nat) : BitVec.ofInt w (n : Int) = BitVec.ofNat w n := by
  apply BitVec.eq_of_toNat_eq; simp
theorem bin_and64 {P : Program} {t : TypeId} {a b : Nat} (ha : a < 9223372036854775808) (hb : b < 9223372036854775808) : binV P .and t (.int .i64 a) (.int .i64 b) = some (.int .i64 ((a &&& b : Nat) : Int)) := by
  have e : binV P .and t (.int .i64 a) (.int .i64 b) = some (.int .i64 (IntKind.i64.wrap (BitVec.ofInt 64 a &&& BitVec.ofInt 64 b).toNat)) := rfl
  rw [e, ofInt_nat, ofInt_nat, BitVec.toNat_and, BitVec.toNat_ofNat, BitVec.toNat_ofNat, Nat.mod_eq_of_lt (by omega), Nat.mod_eq_of_lt (by omega)]
  have : a &&& b ≤ a := Nat.and_le_left
  rw [w64 (by omega)]
theorem bin_or64 {P : Program} {t : TypeId} {a b : Nat} (ha : a < 9223372036854775808) (hb : b < 9223372036854775808) : binV P .or t (.int .i64 a) (.int .i64 b) = some (.int .i64 ((a ||| b : Nat) : Int)) := by
  have e : binV P .or t (.int .i64 a) (.int .i64 b) = some (.int .i64 (IntKind.i64.wrap (BitVec.ofInt 64 a ||| BitVec.ofInt 64 b).toNat)) := rfl
  rw [e, ofInt_nat, ofInt_nat, BitVec.toNat_or, BitVec.toNat_ofNat, BitVec.toNat_ofNat, Nat.mod_eq_of_lt (by omega), Nat.mod_eq_of_lt (by omega)]
  have : a ||| b < 2 ^ 63 := Nat.or_lt_two_pow ha hb
  rw [w64 this]
theorem bin_shr64 {P : Program} {t : TypeId} {a k : Nat} {q : IntKind} (ha : a < 9223372036854775808) (hk : k < 64) : binV P .shr t (.int .i64 a) (.int q k) = some (.int .i64 ((a / 2 ^ k : Nat) : Int)) := by
  have e : binV P .shr t (.int .i64 a) (.int q k) = if (k : Int) < 0 then none else some (.int .i64 ((a : Int).fdiv (2 ^ (min (k : Int).toNat 64)))) := rfl
  rw [e, if_neg (by omega), Int.toNat_natCast, Nat.min_eq_left (by omega)]
  congr 2
  rw [show ((2 : Int) ^ k) = ((2 ^ k : Nat) : Int) by simp]
  exact (Int.fdiv_eq_ediv_of_nonneg _ (Int.natCast_nonneg _)).trans rfl
set_option maxHeartbeats 4000000 in
theorem l69 : ∀ (m n : Nat), n ≤ m → ∀ (l : List UInt8) (v : V) (id : Nat) (h0 g : H), l.length + n ≤ 1099511627776 → Mm h0 g [(id, flat l)] → OV v l id →
    Wp (S69_l2 R (.int .i64 n) v g) fun r h' => r = .str ⟨(l ++ leb n).toArray⟩ ∧ Fr [] h0 h'
  | m, n, hm, l, v, id, h0, g, hn, s, o => by
    rw [S69_l2_eq]
    have hlt : n % 128 < 128 := Nat.mod_lt _ (by decide)
    refine Wp.b (bin_gtr _ _ _ _ _) (Wp.on (fun hc => ?_) (fun hc => ?_))
    · have hc : 128 ≤ n := by have : (127 : Int) < n := by simpa using hc
                              omega
      refine Wp.b (bin_and64 (b := 127) (by omega) (by decide)) ?_
      rw [and_low]
      refine Wp.b (bin_or64 (b := 128) (by omega) (by decide)) ?_
      rw [or_high ⟨n % 128, hlt⟩]
      refine Wp.b (cvI_int _ _ _) ?_
      rw [w8 (by show n % 128 + 128 < 256; omega)]
      refine Wp.lit s [UInt8.ofNat (n % 128 + 128)] (by show _ = some [V.int .u8 ((UInt8.ofNat (n % 128 + 128)).toNat : Nat)]; rw [u8_nat (by omega)]; rfl) rfl rfl fun w j _g oo nn _F s => ?_
      refine Wp.app s 1 o rfl (s.rv 0 oo rfl) rfl (by simp <;> omega) (by simp <;> omega) fun v2 i2 _g o2 _F s => ?_
      simp only [List.set_cons_succ, List.set_cons_zero, List.nil_append] at s o2
      have _c := o2.cells
      have _n := o2.nt
      dsimp only
      refine Wp.b (bin_shr64 (k := 7) (by omega) (by decide)) ?_
      match m with
      | 0 => omega
      | m + 1 =>
        have i := l69 m (n / 128) (by omega) _ v2 i2 h0 _ (by simp; omega) s.tail o2
        refine i.mono ?_
        rintro r h' ⟨rfl, F⟩
        refine ⟨?_, F⟩
        conv => rhs; rw [leb, if_neg (by omega)]
        simp
    · have hc : n < 128 := by have : ¬ (127 : Int) < n := by simpa using hc
                              omega
      refine Wp.b (cvI_int _ _ _) ?_
      rw [w8 (by omega)]
      refine Wp.lit s [UInt8.ofNat n] (by show _ = some [V.int .u8 ((UInt8.ofNat n).toNat : Nat)]; rw [u8_nat (by omega)]; rfl) rfl rfl fun w j _g oo nn _F s => ?_
      refine Wp.app s 1 o rfl (s.rv 0 oo rfl) rfl (by simp <;> omega) (by simp <;> omega) fun v2 i2 _g o2 _F s => ?_
      simp only [List.set_cons_succ, List.set_cons_zero, List.nil_append] at s o2
      have _c := o2.cells
      have _n := o2.nt
      dsimp only
      refine Wp.b (s.rv 1 o2 rfl).bytes (Wp.r1 rfl rfl ⟨?_, s.F⟩)
      rw [leb, if_pos hc]
theorem var69 (n : Nat) (hn : n ≤ 1099511627776) (h : H) (hk : Hok h) : Wp (R 69 [.int .i64 n] h) fun r h' => r = .str (lebS n) ∧ Fr [] h h' := by
  refine R69 rfl ?_
  rw [S69_eq]
  refine (l69 n _ (Nat.le_refl _) [] (.sl 0 0 0 0) 0 h _ (by simpa using hn) (Mm.base hk).nil0 OV.nil).mono ?_
  rintro r h' ⟨rfl, F⟩
  exact ⟨by simp [lebS], F⟩
/-- A text behind its length. -/
def szd (s : ByteArray) : ByteArray := lebS s.size ++ s
theorem lebS_size (n : Nat) : (lebS n).size ≤ n + 1 := leb_len n n (Nat.le_refl _)
theorem sized41 (t : ByteArray) (hn : t.size ≤ 1099511627776) (h : H) (hk : Hok h) : Wp (R 41 [.str t] h) fun r h' => r = .str (szd t) ∧ Fr [] h h' := by
  refine R41 rfl ?_
  rw [S41_eq]
  refine Wp.b (lenS_str _) (Wp.bind (var40 t.size hn h hk) ?_)
  rintro _ g ⟨rfl, F⟩
  have := lebS_size t.size
  exact Wp.b (str_add _ _ _ _ (by omega)) (Wp.r1 rfl rfl ⟨rfl, F⟩)
end Go.Proofs.Ythoabddfionmoaa.AH
namespace Go.Proofs.Ythoabddfionmoaa.AH
open Go Go.RowKit
theorem or_shl {a d k : Nat} (ha : a < 2 ^ k) : a ||| d * 2 ^ k = a + d * 2 ^ k := by
  have := Nat.two_pow_add_eq_or_of_lt ha d
  rw [Nat.mul_comm d, Nat.or_comm, ← this, Nat.add_comm]
theorem mms_nine (n : Nat) : ∃ m : Nat, mms false (.int .i64 n) [.int .i64 9] = some (.int .i64 m) ∧ m = min n 9 := by
  refine ⟨min n 9, ?_, rfl⟩
  show some (V.int IntKind.i64 (if (9 : Int) < n then 9 else n)) = _
  congr 2
  split <;> omega
set_option maxHeartbeats 4000000 in
theorem l70 (t : ByteArray) (h : H) : ∀ (k m i acc : Nat) (A rest : List UInt8), m ≤ k → t.data.toList = A ++ leb m ++ rest → A.length = i → acc < 2 ^ (7 * i) → (0 < m ∨ i = 0) → acc + m * 2 ^ (7 * i) < 9223372036854775808 → i + (leb m).length ≤ 9 →
    Wp (S70_l3 R (.str t) (.int .i64 acc) (.int .i64 i) h) fun r h' => r = .tup [.int .i64 ((acc + m * 2 ^ (7 * i) : Nat) : Int), .int .i64 ((i + (leb m).length : Nat) : Int)] ∧ h' = h
  | k, m, i, acc, A, rest, hk, ht, hA, ha, h0, hb, hl => by
    rw [S70_l3_eq]
    have hlen : t.size = A.length + (leb m).length + rest.length := by
      have : t.data.toList.length = t.size := Array.length_toList
      rw [← this, ht, List.length_append, List.length_append]
    have hp : 1 ≤ (leb m).length := by rw [leb]; split <;> simp
    obtain ⟨q, e, hq⟩ := mms_nine t.size
    refine Wp.b (lenS_str _) (Wp.b e (Wp.b (bin_lss _ _ _ _ _) (Wp.onT (by simp; omega) ?_)))
    have hlt : m % 128 < 128 := Nat.mod_lt _ (by decide)
    have hmul : m % 128 * 2 ^ (7 * i) ≤ m * 2 ^ (7 * i) := Nat.mul_le_mul_right _ (Nat.mod_le _ _)
    have h7 : (7 : Int) * (i : Int) = ((7 * i : Nat) : Int) := by omega
    by_cases hc : m < 128
    · have eb : leb m = [UInt8.ofNat m] := by rw [leb, if_pos hc]
      rw [eb] at ht hl ⊢
      refine Wp.b (ixS_at (b := UInt8.ofNat m) (by rw [ht]; simp [hA.symm])) ?_
      rw [u8_nat (by omega)]
      refine Wp.b (cvI_int _ _ _) ?_
      rw [w64 (by omega)]
      refine Wp.b (bin_rem _ _ _ _ _ (by decide)) ?_
      rw [show (m : Int).tmod 128 = ((m % 128 : Nat) : Int) from rfl]
      refine Wp.b (bin_mul _ _ _ _ _) ?_
      rw [h7, w64 (by omega)]
      refine Wp.b (bin_shl64 (by omega) (by simp at hl; omega)) ?_
      refine Wp.b (bin_or64 (by omega) (by omega)) ?_
      rw [or_shl ha, Nat.mod_eq_of_lt hc]
      refine Wp.b (bin_lss _ _ _ _ _) (Wp.onT (by simp; omega) ?_)
      refine Wp.b (bin_gtr _ _ _ _ _) (Wp.sp (fun hi => ?_) (fun hi => ?_))
      · have hi : 0 < i := by simpa using hi
        refine Wp.b (bin_eql _ _ _ _ _) (Wp.onF (by simp; omega) ?_)
        refine Wp.b (bin_add _ _ _ _ _) (Wp.r2 rfl rfl rfl rfl ?_)
        simp only [List.length_singleton] at hl ⊢
        rw [inc64 (by omega)]
        exact ⟨by first | rfl | trivial, by first | rfl | trivial⟩
      · refine Wp.b (bin_add _ _ _ _ _) (Wp.r2 rfl rfl rfl rfl ?_)
        simp only [List.length_singleton] at hl ⊢
        rw [inc64 (by omega)]
        exact ⟨by first | rfl | trivial, by first | rfl | trivial⟩
    · have eb : leb m = UInt8.ofNat (m % 128 + 128) :: leb (m / 128) := by rw [leb, if_neg hc]
      rw [eb] at ht hl ⊢
      refine Wp.b (ixS_at (b := UInt8.ofNat (m % 128 + 128)) (by rw [ht]; simp [hA.symm])) ?_
      rw [u8_nat (by omega)]
      refine Wp.b (cvI_int _ _ _) ?_
      rw [w64 (by omega)]
      refine Wp.b (bin_rem _ _ _ _ _ (by decide)) ?_
      rw [show ((m % 128 + 128 : Nat) : Int).tmod 128 = (((m % 128 + 128) % 128 : Nat) : Int) from rfl, Nat.add_mod_right, Nat.mod_eq_of_lt hlt]
      refine Wp.b (bin_mul _ _ _ _ _) ?_
      simp only [List.length_cons] at hl ⊢
      rw [h7, w64 (by omega)]
      refine Wp.b (bin_shl64 (by omega) (by omega)) ?_
      refine Wp.b (bin_or64 (by omega) (by omega)) ?_
      rw [or_shl ha]
      refine Wp.b (bin_lss _ _ _ _ _) (Wp.onF (by simp; omega) ?_)
      refine Wp.b (bin_add _ _ _ _ _) ?_
      rw [inc64 (by omega)]
      have hpow : 2 ^ (7 * (i + 1)) = 128 * 2 ^ (7 * i) := by rw [Nat.mul_add, Nat.pow_add, Nat.mul_comm]
      have hm : m = 128 * (m / 128) + m % 128 := (Nat.div_add_mod m 128).symm
      have hsum : acc + m % 128 * 2 ^ (7 * i) + m / 128 * 2 ^ (7 * (i + 1)) = acc + m * 2 ^ (7 * i) := by
        rw [hpow]
        conv => rhs; rw [hm, Nat.add_mul]
        rw [Nat.mul_comm 128 (m / 128), Nat.mul_assoc]; omega
      match k with
      | 0 => omega
      | k + 1 =>
        refine (l70 t h k (m / 128) (i + 1) (acc + m % 128 * 2 ^ (7 * i)) (A ++ [UInt8.ofNat (m % 128 + 128)]) rest (by omega) (by rw [ht]; simp) (by simp [hA]) ?_ (by omega) (by omega) (by omega)).mono ?_
        · rw [hpow]
          have : m % 128 * 2 ^ (7 * i) ≤ 127 * 2 ^ (7 * i) := Nat.mul_le_mul_right _ (by omega)
          omega
        · rintro r h' ⟨rfl, rfl⟩
          rw [hsum]
          exact ⟨by congr 5; omega, rfl⟩
theorem take70 (n : Nat) (hn : n ≤ 1000000) (rest : ByteArray) (h : H) : R 70 [.str (lebS n ++ rest)] h = some (.tup [.int .i64 n, .int .i64 (lebS n).size], h) := by
  refine ret_of (R70 rfl ?_)
  rw [S70_eq]
  have hl : (leb n).length ≤ 3 := by
    rw [leb]; split
    · simp
    · rw [leb]; split
      · simp
      · rw [leb, if_pos (by omega)]; simp
  refine (l70 _ h n n 0 0 [] rest.data.toList (Nat.le_refl _) (by simp [lebS]) rfl (by decide) (.inr rfl) (by omega) (by omega)).mono ?_
  rintro r h' ⟨rfl, rfl⟩
  refine ⟨?_, rfl⟩
  have : (lebS n).size = (leb n).length := rfl
  simp [this]
end Go.Proofs.Ythoabddfionmoaa.AH
namespace Go.Proofs.Ythoabddfionmoaa.AH
open Go Go.RowKit
theorem ext_l (a b : ByteArray) : (a ++ b).extract 0 a.size = a := ByteArray.extract_append_eq_left rfl
theorem ext_r (a b : ByteArray) : (a ++ b).extract a.size (a ++ b).size = b := by
  rw [ByteArray.size_append]; exact ByteArray.extract_append_eq_right rfl rfl
theorem lebS_pos (n : Nat) : 1 ≤ (lebS n).size := by
  show 1 ≤ (leb n).length
  rw [leb]; split <;> simp
set_option maxHeartbeats 4000000 in
theorem num44 {n : Nat} (hn : n ≤ 1000000) {rest : ByteArray} {h0 g : H} {M : List (Nat × List V)} {b : Nat} (b0 : b ≠ 0) (s : Mm h0 g ((b, [.str (lebS n ++ rest), .bool false]) :: M)) :
    Wp (R 44 [.ptr b 0] g) fun r g' => r = .int .i64 n ∧ Mm h0 g' ((b, [.str rest, .bool false]) :: M) := by
  refine R44 rfl ?_
  rw [S44_eq]
  have hp := lebS_pos n
  have hz2 : decide (((lebS n).size : Int) = 0) = false := decide_eq_false (by omega)
  have ht := take70 n hn rest g
  repeat (first
   | ((with_reducible refine Wp.gb ?_); refine Wp.b (by first | (with_reducible first | exact fA_p (by assumption) | exact fA_o (by assumption) | exact nilC_ptr (by assumption) | exact bin_lss .. | exact bin_leq .. | exact bin_gtr .. | exact bin_geq .. | exact bin_eql .. | exact bin_neq .. | exact bin_add .. | exact bin_sub .. | exact bin_mul .. | exact str_eql .. | exact str_neq .. | exact str_lss .. | exact str_gtr .. | exact str_geq .. | exact str_leq .. | exact not_bool .. | exact lenS_str .. | assumption) | exact (show extV (.tup _) _ = some _ from rfl) | exact s.ld1 0 rfl (by assumption) _ rfl | exact s.ld1 1 rfl (by assumption) _ rfl | exact s.ld1 2 rfl (by assumption) _ rfl | exact s.ld1 3 rfl (by assumption) _ rfl | exact s.ld1 4 rfl (by assumption) _ rfl | exact s.ld1 5 rfl (by assumption) _ rfl | exact s.ld1 6 rfl (by assumption) _ rfl | exact s.ld1 7 rfl (by assumption) _ rfl | exact s.ld1 8 rfl (by assumption) _ rfl | exact s.ld1 9 rfl (by assumption) _ rfl | exact s.ld1 10 rfl (by assumption) _ rfl | exact s.ld1 11 rfl (by assumption) _ rfl | exact bload_ld1 (by assumption) _ rfl | exact bload_ldn (by assumption) _ _ (Nat.le_refl _) | exact (show bldV _ _ = some _ from rfl) | ((first | apply s.ldn 0 rfl | apply s.ldn 1 rfl | apply s.ldn 2 rfl | apply s.ldn 3 rfl | apply s.ldn 4 rfl | apply s.ldn 5 rfl | apply s.ldn 6 rfl | apply s.ldn 7 rfl | apply s.ldn 8 rfl | apply s.ldn 9 rfl | apply s.ldn 10 rfl | apply s.ldn 11 rfl); (· assumption); (· first | exact Nat.le_refl _ | decide | (simp; done)); (· rfl))) ?_)
   | (with_reducible first | refine Wp.onT (by assumption) ?_ | refine Wp.onF (by assumption) ?_ | refine Wp.spT (by assumption) ?_ | refine Wp.spF (by assumption) ?_)
   | ((with_reducible refine Wp.gbx ?_); refine Wp.box s rfl fun _p _g _p0 _F s => ?_)
   | ((with_reducible refine Wp.gal ?_); refine Wp.alo s fun _p _g _p0 _F s => ?_))
  refine Wp.spF rfl ?_
  repeat (first
   | ((with_reducible refine Wp.gb ?_); refine Wp.b (by first | (with_reducible first | exact fA_p (by assumption) | exact fA_o (by assumption) | exact nilC_ptr (by assumption) | exact bin_lss .. | exact bin_leq .. | exact bin_gtr .. | exact bin_geq .. | exact bin_eql .. | exact bin_neq .. | exact bin_add .. | exact bin_sub .. | exact bin_mul .. | exact str_eql .. | exact str_neq .. | exact str_lss .. | exact str_gtr .. | exact str_geq .. | exact str_leq .. | exact not_bool .. | exact lenS_str .. | assumption) | exact (show extV (.tup _) _ = some _ from rfl) | exact s.ld1 0 rfl (by assumption) _ rfl | exact s.ld1 1 rfl (by assumption) _ rfl | exact s.ld1 2 rfl (by assumption) _ rfl | exact s.ld1 3 rfl (by assumption) _ rfl | exact s.ld1 4 rfl (by assumption) _ rfl | exact s.ld1 5 rfl (by assumption) _ rfl | exact s.ld1 6 rfl (by assumption) _ rfl | exact s.ld1 7 rfl (by assumption) _ rfl | exact s.ld1 8 rfl (by assumption) _ rfl | exact s.ld1 9 rfl (by assumption) _ rfl | exact s.ld1 10 rfl (by assumption) _ rfl | exact s.ld1 11 rfl (by assumption) _ rfl | exact bload_ld1 (by assumption) _ rfl | exact bload_ldn (by assumption) _ _ (Nat.le_refl _) | exact (show bldV _ _ = some _ from rfl) | ((first | apply s.ldn 0 rfl | apply s.ldn 1 rfl | apply s.ldn 2 rfl | apply s.ldn 3 rfl | apply s.ldn 4 rfl | apply s.ldn 5 rfl | apply s.ldn 6 rfl | apply s.ldn 7 rfl | apply s.ldn 8 rfl | apply s.ldn 9 rfl | apply s.ldn 10 rfl | apply s.ldn 11 rfl); (· assumption); (· first | exact Nat.le_refl _ | decide | (simp; done)); (· rfl))) ?_)
   | (with_reducible first | refine Wp.onT (by assumption) ?_ | refine Wp.onF (by assumption) ?_ | refine Wp.spT (by assumption) ?_ | refine Wp.spF (by assumption) ?_)
   | ((with_reducible refine Wp.gbx ?_); refine Wp.box s rfl fun _p _g _p0 _F s => ?_)
   | ((with_reducible refine Wp.gal ?_); refine Wp.alo s fun _p _g _p0 _F s => ?_)
   | ((with_reducible refine Wp.gst ?_); (first | apply Wp.sto s 0 rfl | apply Wp.sto s 1 rfl | apply Wp.sto s 2 rfl | apply Wp.sto s 3 rfl | apply Wp.sto s 4 rfl | apply Wp.sto s 5 rfl | apply Wp.sto s 6 rfl | apply Wp.sto s 7 rfl | apply Wp.sto s 8 rfl | apply Wp.sto s 9 rfl | apply Wp.sto s 10 rfl | apply Wp.sto s 11 rfl); (· assumption); (· first | rfl | assumption); (· rfl); (· first | exact Nat.le_refl _ | decide | (simp; done)); (· rfl); intro _g _F s; simp only [List.set_cons_succ, List.set_cons_zero, List.take_succ_cons, List.take_zero, List.drop_succ_cons, List.drop_zero, List.drop_nil, List.nil_append, List.cons_append, List.append_nil, Nat.zero_add, Nat.reduceAdd] at s))
  rw [S44_j5_eq]
  repeat (first
   | ((with_reducible refine Wp.gb ?_); refine Wp.b (by first | (with_reducible first | exact fA_p (by assumption) | exact fA_o (by assumption) | exact nilC_ptr (by assumption) | exact bin_lss .. | exact bin_leq .. | exact bin_gtr .. | exact bin_geq .. | exact bin_eql .. | exact bin_neq .. | exact bin_add .. | exact bin_sub .. | exact bin_mul .. | exact str_eql .. | exact str_neq .. | exact str_lss .. | exact str_gtr .. | exact str_geq .. | exact str_leq .. | exact not_bool .. | exact lenS_str .. | assumption) | exact (show extV (.tup _) _ = some _ from rfl) | exact s.ld1 0 rfl (by assumption) _ rfl | exact s.ld1 1 rfl (by assumption) _ rfl | exact s.ld1 2 rfl (by assumption) _ rfl | exact s.ld1 3 rfl (by assumption) _ rfl | exact s.ld1 4 rfl (by assumption) _ rfl | exact s.ld1 5 rfl (by assumption) _ rfl | exact s.ld1 6 rfl (by assumption) _ rfl | exact s.ld1 7 rfl (by assumption) _ rfl | exact s.ld1 8 rfl (by assumption) _ rfl | exact s.ld1 9 rfl (by assumption) _ rfl | exact s.ld1 10 rfl (by assumption) _ rfl | exact s.ld1 11 rfl (by assumption) _ rfl | exact bload_ld1 (by assumption) _ rfl | exact bload_ldn (by assumption) _ _ (Nat.le_refl _) | exact (show bldV _ _ = some _ from rfl) | ((first | apply s.ldn 0 rfl | apply s.ldn 1 rfl | apply s.ldn 2 rfl | apply s.ldn 3 rfl | apply s.ldn 4 rfl | apply s.ldn 5 rfl | apply s.ldn 6 rfl | apply s.ldn 7 rfl | apply s.ldn 8 rfl | apply s.ldn 9 rfl | apply s.ldn 10 rfl | apply s.ldn 11 rfl); (· assumption); (· first | exact Nat.le_refl _ | decide | (simp; done)); (· rfl))) ?_)
   | (with_reducible first | refine Wp.onT (by assumption) ?_ | refine Wp.onF (by assumption) ?_ | refine Wp.spT (by assumption) ?_ | refine Wp.spF (by assumption) ?_)
   | ((with_reducible refine Wp.gbx ?_); refine Wp.box s rfl fun _p _g _p0 _F s => ?_)
   | ((with_reducible refine Wp.gal ?_); refine Wp.alo s fun _p _g _p0 _F s => ?_))
  refine Wp.b (slS_from (by rw [ByteArray.size_append]; omega)) ?_
  rw [ext_r]
  repeat (first
   | ((with_reducible refine Wp.gb ?_); refine Wp.b (by first | (with_reducible first | exact fA_p (by assumption) | exact fA_o (by assumption) | exact nilC_ptr (by assumption) | exact bin_lss .. | exact bin_leq .. | exact bin_gtr .. | exact bin_geq .. | exact bin_eql .. | exact bin_neq .. | exact bin_add .. | exact bin_sub .. | exact bin_mul .. | exact str_eql .. | exact str_neq .. | exact str_lss .. | exact str_gtr .. | exact str_geq .. | exact str_leq .. | exact not_bool .. | exact lenS_str .. | assumption) | exact (show extV (.tup _) _ = some _ from rfl) | exact s.ld1 0 rfl (by assumption) _ rfl | exact s.ld1 1 rfl (by assumption) _ rfl | exact s.ld1 2 rfl (by assumption) _ rfl | exact s.ld1 3 rfl (by assumption) _ rfl | exact s.ld1 4 rfl (by assumption) _ rfl | exact s.ld1 5 rfl (by assumption) _ rfl | exact s.ld1 6 rfl (by assumption) _ rfl | exact s.ld1 7 rfl (by assumption) _ rfl | exact s.ld1 8 rfl (by assumption) _ rfl | exact s.ld1 9 rfl (by assumption) _ rfl | exact s.ld1 10 rfl (by assumption) _ rfl | exact s.ld1 11 rfl (by assumption) _ rfl | exact bload_ld1 (by assumption) _ rfl | exact bload_ldn (by assumption) _ _ (Nat.le_refl _) | exact (show bldV _ _ = some _ from rfl) | ((first | apply s.ldn 0 rfl | apply s.ldn 1 rfl | apply s.ldn 2 rfl | apply s.ldn 3 rfl | apply s.ldn 4 rfl | apply s.ldn 5 rfl | apply s.ldn 6 rfl | apply s.ldn 7 rfl | apply s.ldn 8 rfl | apply s.ldn 9 rfl | apply s.ldn 10 rfl | apply s.ldn 11 rfl); (· assumption); (· first | exact Nat.le_refl _ | decide | (simp; done)); (· rfl))) ?_)
   | (with_reducible first | refine Wp.onT (by assumption) ?_ | refine Wp.onF (by assumption) ?_ | refine Wp.spT (by assumption) ?_ | refine Wp.spF (by assumption) ?_)
   | ((with_reducible refine Wp.gbx ?_); refine Wp.box s rfl fun _p _g _p0 _F s => ?_)
   | ((with_reducible refine Wp.gal ?_); refine Wp.alo s fun _p _g _p0 _F s => ?_)
   | ((with_reducible refine Wp.gst ?_); (first | apply Wp.sto s 0 rfl | apply Wp.sto s 1 rfl | apply Wp.sto s 2 rfl | apply Wp.sto s 3 rfl | apply Wp.sto s 4 rfl | apply Wp.sto s 5 rfl | apply Wp.sto s 6 rfl | apply Wp.sto s 7 rfl | apply Wp.sto s 8 rfl | apply Wp.sto s 9 rfl | apply Wp.sto s 10 rfl | apply Wp.sto s 11 rfl); (· assumption); (· first | rfl | assumption); (· rfl); (· first | exact Nat.le_refl _ | decide | (simp; done)); (· rfl); intro _g _F s; simp only [List.set_cons_succ, List.set_cons_zero, List.take_succ_cons, List.take_zero, List.drop_succ_cons, List.drop_zero, List.drop_nil, List.nil_append, List.cons_append, List.append_nil, Nat.zero_add, Nat.reduceAdd] at s))
  exact Wp.r1 rfl rfl ⟨rfl, hz2 ▸ s⟩
set_option maxHeartbeats 4000000 in
theorem text45 {t rest : ByteArray} {h0 g : H} {M : List (Nat × List V)} {b : Nat} (b0 : b ≠ 0) (s : Mm h0 g ((b, [.str (t ++ rest), .bool false]) :: M)) :
    Wp (R 45 [.ptr b 0, .int .i64 t.size] g) fun r g' => r = .str t ∧ Mm h0 g' ((b, [.str rest, .bool false]) :: M) := by
  refine R45 rfl ?_
  rw [S45_eq]
  have hz : decide (((t ++ rest).size : Int) < (t.size : Int)) = false := by rw [ByteArray.size_append]; simp; omega
  repeat (first
   | ((with_reducible refine Wp.gb ?_); refine Wp.b (by first | (with_reducible first | exact fA_p (by assumption) | exact fA_o (by assumption) | exact nilC_ptr (by assumption) | exact bin_lss .. | exact bin_leq .. | exact bin_gtr .. | exact bin_geq .. | exact bin_eql .. | exact bin_neq .. | exact bin_add .. | exact bin_sub .. | exact bin_mul .. | exact str_eql .. | exact str_neq .. | exact str_lss .. | exact str_gtr .. | exact str_geq .. | exact str_leq .. | exact not_bool .. | exact lenS_str .. | assumption) | exact (show extV (.tup _) _ = some _ from rfl) | exact s.ld1 0 rfl (by assumption) _ rfl | exact s.ld1 1 rfl (by assumption) _ rfl | exact s.ld1 2 rfl (by assumption) _ rfl | exact s.ld1 3 rfl (by assumption) _ rfl | exact s.ld1 4 rfl (by assumption) _ rfl | exact s.ld1 5 rfl (by assumption) _ rfl | exact s.ld1 6 rfl (by assumption) _ rfl | exact s.ld1 7 rfl (by assumption) _ rfl | exact s.ld1 8 rfl (by assumption) _ rfl | exact s.ld1 9 rfl (by assumption) _ rfl | exact s.ld1 10 rfl (by assumption) _ rfl | exact s.ld1 11 rfl (by assumption) _ rfl | exact bload_ld1 (by assumption) _ rfl | exact bload_ldn (by assumption) _ _ (Nat.le_refl _) | exact (show bldV _ _ = some _ from rfl) | ((first | apply s.ldn 0 rfl | apply s.ldn 1 rfl | apply s.ldn 2 rfl | apply s.ldn 3 rfl | apply s.ldn 4 rfl | apply s.ldn 5 rfl | apply s.ldn 6 rfl | apply s.ldn 7 rfl | apply s.ldn 8 rfl | apply s.ldn 9 rfl | apply s.ldn 10 rfl | apply s.ldn 11 rfl); (· assumption); (· first | exact Nat.le_refl _ | decide | (simp; done)); (· rfl))) ?_)
   | (with_reducible first | refine Wp.onT (by assumption) ?_ | refine Wp.onF (by assumption) ?_ | refine Wp.spT (by assumption) ?_ | refine Wp.spF (by assumption) ?_)
   | ((with_reducible refine Wp.gbx ?_); refine Wp.box s rfl fun _p _g _p0 _F s => ?_)
   | ((with_reducible refine Wp.gal ?_); refine Wp.alo s fun _p _g _p0 _F s => ?_))
  refine Wp.spF rfl ?_
  repeat (first
   | ((with_reducible refine Wp.gb ?_); refine Wp.b (by first | (with_reducible first | exact fA_p (by assumption) | exact fA_o (by assumption) | exact nilC_ptr (by assumption) | exact bin_lss .. | exact bin_leq .. | exact bin_gtr .. | exact bin_geq .. | exact bin_eql .. | exact bin_neq .. | exact bin_add .. | exact bin_sub .. | exact bin_mul .. | exact str_eql .. | exact str_neq .. | exact str_lss .. | exact str_gtr .. | exact str_geq .. | exact str_leq .. | exact not_bool .. | exact lenS_str .. | assumption) | exact (show extV (.tup _) _ = some _ from rfl) | exact s.ld1 0 rfl (by assumption) _ rfl | exact s.ld1 1 rfl (by assumption) _ rfl | exact s.ld1 2 rfl (by assumption) _ rfl | exact s.ld1 3 rfl (by assumption) _ rfl | exact s.ld1 4 rfl (by assumption) _ rfl | exact s.ld1 5 rfl (by assumption) _ rfl | exact s.ld1 6 rfl (by assumption) _ rfl | exact s.ld1 7 rfl (by assumption) _ rfl | exact s.ld1 8 rfl (by assumption) _ rfl | exact s.ld1 9 rfl (by assumption) _ rfl | exact s.ld1 10 rfl (by assumption) _ rfl | exact s.ld1 11 rfl (by assumption) _ rfl | exact bload_ld1 (by assumption) _ rfl | exact bload_ldn (by assumption) _ _ (Nat.le_refl _) | exact (show bldV _ _ = some _ from rfl) | ((first | apply s.ldn 0 rfl | apply s.ldn 1 rfl | apply s.ldn 2 rfl | apply s.ldn 3 rfl | apply s.ldn 4 rfl | apply s.ldn 5 rfl | apply s.ldn 6 rfl | apply s.ldn 7 rfl | apply s.ldn 8 rfl | apply s.ldn 9 rfl | apply s.ldn 10 rfl | apply s.ldn 11 rfl); (· assumption); (· first | exact Nat.le_refl _ | decide | (simp; done)); (· rfl))) ?_)
   | (with_reducible first | refine Wp.onT (by assumption) ?_ | refine Wp.onF (by assumption) ?_ | refine Wp.spT (by assumption) ?_ | refine Wp.spF (by assumption) ?_)
   | ((with_reducible refine Wp.gbx ?_); refine Wp.box s rfl fun _p _g _p0 _F s => ?_)
   | ((with_reducible refine Wp.gal ?_); refine Wp.alo s fun _p _g _p0 _F s => ?_)
   | ((with_reducible refine Wp.gst ?_); (first | apply Wp.sto s 0 rfl | apply Wp.sto s 1 rfl | apply Wp.sto s 2 rfl | apply Wp.sto s 3 rfl | apply Wp.sto s 4 rfl | apply Wp.sto s 5 rfl | apply Wp.sto s 6 rfl | apply Wp.sto s 7 rfl | apply Wp.sto s 8 rfl | apply Wp.sto s 9 rfl | apply Wp.sto s 10 rfl | apply Wp.sto s 11 rfl); (· assumption); (· first | rfl | assumption); (· rfl); (· first | exact Nat.le_refl _ | decide | (simp; done)); (· rfl); intro _g _F s; simp only [List.set_cons_succ, List.set_cons_zero, List.take_succ_cons, List.take_zero, List.drop_succ_cons, List.drop_zero, List.drop_nil, List.nil_append, List.cons_append, List.append_nil, Nat.zero_add, Nat.reduceAdd] at s))
  rw [S45_j4_eq]
  repeat (first
   | ((with_reducible refine Wp.gb ?_); refine Wp.b (by first | (with_reducible first | exact fA_p (by assumption) | exact fA_o (by assumption) | exact nilC_ptr (by assumption) | exact bin_lss .. | exact bin_leq .. | exact bin_gtr .. | exact bin_geq .. | exact bin_eql .. | exact bin_neq .. | exact bin_add .. | exact bin_sub .. | exact bin_mul .. | exact str_eql .. | exact str_neq .. | exact str_lss .. | exact str_gtr .. | exact str_geq .. | exact str_leq .. | exact not_bool .. | exact lenS_str .. | assumption) | exact (show extV (.tup _) _ = some _ from rfl) | exact s.ld1 0 rfl (by assumption) _ rfl | exact s.ld1 1 rfl (by assumption) _ rfl | exact s.ld1 2 rfl (by assumption) _ rfl | exact s.ld1 3 rfl (by assumption) _ rfl | exact s.ld1 4 rfl (by assumption) _ rfl | exact s.ld1 5 rfl (by assumption) _ rfl | exact s.ld1 6 rfl (by assumption) _ rfl | exact s.ld1 7 rfl (by assumption) _ rfl | exact s.ld1 8 rfl (by assumption) _ rfl | exact s.ld1 9 rfl (by assumption) _ rfl | exact s.ld1 10 rfl (by assumption) _ rfl | exact s.ld1 11 rfl (by assumption) _ rfl | exact bload_ld1 (by assumption) _ rfl | exact bload_ldn (by assumption) _ _ (Nat.le_refl _) | exact (show bldV _ _ = some _ from rfl) | ((first | apply s.ldn 0 rfl | apply s.ldn 1 rfl | apply s.ldn 2 rfl | apply s.ldn 3 rfl | apply s.ldn 4 rfl | apply s.ldn 5 rfl | apply s.ldn 6 rfl | apply s.ldn 7 rfl | apply s.ldn 8 rfl | apply s.ldn 9 rfl | apply s.ldn 10 rfl | apply s.ldn 11 rfl); (· assumption); (· first | exact Nat.le_refl _ | decide | (simp; done)); (· rfl))) ?_)
   | (with_reducible first | refine Wp.onT (by assumption) ?_ | refine Wp.onF (by assumption) ?_ | refine Wp.spT (by assumption) ?_ | refine Wp.spF (by assumption) ?_)
   | ((with_reducible refine Wp.gbx ?_); refine Wp.box s rfl fun _p _g _p0 _F s => ?_)
   | ((with_reducible refine Wp.gal ?_); refine Wp.alo s fun _p _g _p0 _F s => ?_))
  refine Wp.b (slS_to (by rw [ByteArray.size_append]; omega)) ?_
  rw [ext_l]
  repeat (first
   | ((with_reducible refine Wp.gb ?_); refine Wp.b (by first | (with_reducible first | exact fA_p (by assumption) | exact fA_o (by assumption) | exact nilC_ptr (by assumption) | exact bin_lss .. | exact bin_leq .. | exact bin_gtr .. | exact bin_geq .. | exact bin_eql .. | exact bin_neq .. | exact bin_add .. | exact bin_sub .. | exact bin_mul .. | exact str_eql .. | exact str_neq .. | exact str_lss .. | exact str_gtr .. | exact str_geq .. | exact str_leq .. | exact not_bool .. | exact lenS_str .. | assumption) | exact (show extV (.tup _) _ = some _ from rfl) | exact s.ld1 0 rfl (by assumption) _ rfl | exact s.ld1 1 rfl (by assumption) _ rfl | exact s.ld1 2 rfl (by assumption) _ rfl | exact s.ld1 3 rfl (by assumption) _ rfl | exact s.ld1 4 rfl (by assumption) _ rfl | exact s.ld1 5 rfl (by assumption) _ rfl | exact s.ld1 6 rfl (by assumption) _ rfl | exact s.ld1 7 rfl (by assumption) _ rfl | exact s.ld1 8 rfl (by assumption) _ rfl | exact s.ld1 9 rfl (by assumption) _ rfl | exact s.ld1 10 rfl (by assumption) _ rfl | exact s.ld1 11 rfl (by assumption) _ rfl | exact bload_ld1 (by assumption) _ rfl | exact bload_ldn (by assumption) _ _ (Nat.le_refl _) | exact (show bldV _ _ = some _ from rfl) | ((first | apply s.ldn 0 rfl | apply s.ldn 1 rfl | apply s.ldn 2 rfl | apply s.ldn 3 rfl | apply s.ldn 4 rfl | apply s.ldn 5 rfl | apply s.ldn 6 rfl | apply s.ldn 7 rfl | apply s.ldn 8 rfl | apply s.ldn 9 rfl | apply s.ldn 10 rfl | apply s.ldn 11 rfl); (· assumption); (· first | exact Nat.le_refl _ | decide | (simp; done)); (· rfl))) ?_)
   | (with_reducible first | refine Wp.onT (by assumption) ?_ | refine Wp.onF (by assumption) ?_ | refine Wp.spT (by assumption) ?_ | refine Wp.spF (by assumption) ?_)
   | ((with_reducible refine Wp.gbx ?_); refine Wp.box s rfl fun _p _g _p0 _F s => ?_)
   | ((with_reducible refine Wp.gal ?_); refine Wp.alo s fun _p _g _p0 _F s => ?_))
  refine Wp.b (slS_from (by rw [ByteArray.size_append]; omega)) ?_
  rw [ext_r]
  repeat (first
   | ((with_reducible refine Wp.gb ?_); refine Wp.b (by first | (with_reducible first | exact fA_p (by assumption) | exact fA_o (by assumption) | exact nilC_ptr (by assumption) | exact bin_lss .. | exact bin_leq .. | exact bin_gtr .. | exact bin_geq .. | exact bin_eql .. | exact bin_neq .. | exact bin_add .. | exact bin_sub .. | exact bin_mul .. | exact str_eql .. | exact str_neq .. | exact str_lss .. | exact str_gtr .. | exact str_geq .. | exact str_leq .. | exact not_bool .. | exact lenS_str .. | assumption) | exact (show extV (.tup _) _ = some _ from rfl) | exact s.ld1 0 rfl (by assumption) _ rfl | exact s.ld1 1 rfl (by assumption) _ rfl | exact s.ld1 2 rfl (by assumption) _ rfl | exact s.ld1 3 rfl (by assumption) _ rfl | exact s.ld1 4 rfl (by assumption) _ rfl | exact s.ld1 5 rfl (by assumption) _ rfl | exact s.ld1 6 rfl (by assumption) _ rfl | exact s.ld1 7 rfl (by assumption) _ rfl | exact s.ld1 8 rfl (by assumption) _ rfl | exact s.ld1 9 rfl (by assumption) _ rfl | exact s.ld1 10 rfl (by assumption) _ rfl | exact s.ld1 11 rfl (by assumption) _ rfl | exact bload_ld1 (by assumption) _ rfl | exact bload_ldn (by assumption) _ _ (Nat.le_refl _) | exact (show bldV _ _ = some _ from rfl) | ((first | apply s.ldn 0 rfl | apply s.ldn 1 rfl | apply s.ldn 2 rfl | apply s.ldn 3 rfl | apply s.ldn 4 rfl | apply s.ldn 5 rfl | apply s.ldn 6 rfl | apply s.ldn 7 rfl | apply s.ldn 8 rfl | apply s.ldn 9 rfl | apply s.ldn 10 rfl | apply s.ldn 11 rfl); (· assumption); (· first | exact Nat.le_refl _ | decide | (simp; done)); (· rfl))) ?_)
   | (with_reducible first | refine Wp.onT (by assumption) ?_ | refine Wp.onF (by assumption) ?_ | refine Wp.spT (by assumption) ?_ | refine Wp.spF (by assumption) ?_)
   | ((with_reducible refine Wp.gbx ?_); refine Wp.box s rfl fun _p _g _p0 _F s => ?_)
   | ((with_reducible refine Wp.gal ?_); refine Wp.alo s fun _p _g _p0 _F s => ?_)
   | ((with_reducible refine Wp.gst ?_); (first | apply Wp.sto s 0 rfl | apply Wp.sto s 1 rfl | apply Wp.sto s 2 rfl | apply Wp.sto s 3 rfl | apply Wp.sto s 4 rfl | apply Wp.sto s 5 rfl | apply Wp.sto s 6 rfl | apply Wp.sto s 7 rfl | apply Wp.sto s 8 rfl | apply Wp.sto s 9 rfl | apply Wp.sto s 10 rfl | apply Wp.sto s 11 rfl); (· assumption); (· first | rfl | assumption); (· rfl); (· first | exact Nat.le_refl _ | decide | (simp; done)); (· rfl); intro _g _F s; simp only [List.set_cons_succ, List.set_cons_zero, List.take_succ_cons, List.take_zero, List.drop_succ_cons, List.drop_zero, List.drop_nil, List.nil_append, List.cons_append, List.append_nil, Nat.zero_add, Nat.reduceAdd] at s))
  exact Wp.r1 rfl rfl ⟨rfl, hz ▸ s⟩
theorem sized46 {t rest : ByteArray} (hn : t.size ≤ 1000000) {h0 g : H} {M : List (Nat × List V)} {b : Nat} (b0 : b ≠ 0) (s : Mm h0 g ((b, [.str (szd t ++ rest), .bool false]) :: M)) :
    Wp (R 46 [.ptr b 0] g) fun r g' => r = .str t ∧ Mm h0 g' ((b, [.str rest, .bool false]) :: M) := by
  refine R46 rfl ?_
  rw [S46_eq]
  have e : szd t ++ rest = lebS t.size ++ (t ++ rest) := by unfold szd; rw [ByteArray.append_assoc]
  rw [e] at s
  refine Wp.bind (num44 hn b0 s) ?_
  rintro _ g1 ⟨rfl, s⟩
  refine Wp.bind (text45 b0 s) ?_
  rintro _ g2 ⟨rfl, s⟩
  exact Wp.r1 rfl rfl ⟨rfl, s⟩
theorem whole47 {h0 g : H} {M : List (Nat × List V)} {b : Nat} (b0 : b ≠ 0) (s : Mm h0 g ((b, [.str ⟨#[]⟩, .bool false]) :: M)) :
    R 47 [.ptr b 0] g = some (.bool true, g) := by
  refine ret_of (R47 rfl ?_)
  rw [S47_eq]
  repeat (first
   | ((with_reducible refine Wp.gb ?_); refine Wp.b (by first | (with_reducible first | exact fA_p (by assumption) | exact fA_o (by assumption) | exact nilC_ptr (by assumption) | exact bin_lss .. | exact bin_leq .. | exact bin_gtr .. | exact bin_geq .. | exact bin_eql .. | exact bin_neq .. | exact bin_add .. | exact bin_sub .. | exact bin_mul .. | exact str_eql .. | exact str_neq .. | exact str_lss .. | exact str_gtr .. | exact str_geq .. | exact str_leq .. | exact not_bool .. | exact lenS_str .. | assumption) | exact (show extV (.tup _) _ = some _ from rfl) | exact s.ld1 0 rfl (by assumption) _ rfl | exact s.ld1 1 rfl (by assumption) _ rfl | exact s.ld1 2 rfl (by assumption) _ rfl | exact s.ld1 3 rfl (by assumption) _ rfl | exact s.ld1 4 rfl (by assumption) _ rfl | exact s.ld1 5 rfl (by assumption) _ rfl | exact s.ld1 6 rfl (by assumption) _ rfl | exact s.ld1 7 rfl (by assumption) _ rfl | exact s.ld1 8 rfl (by assumption) _ rfl | exact s.ld1 9 rfl (by assumption) _ rfl | exact s.ld1 10 rfl (by assumption) _ rfl | exact s.ld1 11 rfl (by assumption) _ rfl | exact bload_ld1 (by assumption) _ rfl | exact bload_ldn (by assumption) _ _ (Nat.le_refl _) | exact (show bldV _ _ = some _ from rfl) | ((first | apply s.ldn 0 rfl | apply s.ldn 1 rfl | apply s.ldn 2 rfl | apply s.ldn 3 rfl | apply s.ldn 4 rfl | apply s.ldn 5 rfl | apply s.ldn 6 rfl | apply s.ldn 7 rfl | apply s.ldn 8 rfl | apply s.ldn 9 rfl | apply s.ldn 10 rfl | apply s.ldn 11 rfl); (· assumption); (· first | exact Nat.le_refl _ | decide | (simp; done)); (· rfl))) ?_)
   | (with_reducible first | refine Wp.onT (by assumption) ?_ | refine Wp.onF (by assumption) ?_ | refine Wp.spT (by assumption) ?_ | refine Wp.spF (by assumption) ?_)
   | ((with_reducible refine Wp.gbx ?_); refine Wp.box s rfl fun _p _g _p0 _F s => ?_)
   | ((with_reducible refine Wp.gal ?_); refine Wp.alo s fun _p _g _p0 _F s => ?_))
  refine Wp.spT rfl ?_
  repeat (first
   | ((with_reducible refine Wp.gb ?_); refine Wp.b (by first | (with_reducible first | exact fA_p (by assumption) | exact fA_o (by assumption) | exact nilC_ptr (by assumption) | exact bin_lss .. | exact bin_leq .. | exact bin_gtr .. | exact bin_geq .. | exact bin_eql .. | exact bin_neq .. | exact bin_add .. | exact bin_sub .. | exact bin_mul .. | exact str_eql .. | exact str_neq .. | exact str_lss .. | exact str_gtr .. | exact str_geq .. | exact str_leq .. | exact not_bool .. | exact lenS_str .. | assumption) | exact (show extV (.tup _) _ = some _ from rfl) | exact s.ld1 0 rfl (by assumption) _ rfl | exact s.ld1 1 rfl (by assumption) _ rfl | exact s.ld1 2 rfl (by assumption) _ rfl | exact s.ld1 3 rfl (by assumption) _ rfl | exact s.ld1 4 rfl (by assumption) _ rfl | exact s.ld1 5 rfl (by assumption) _ rfl | exact s.ld1 6 rfl (by assumption) _ rfl | exact s.ld1 7 rfl (by assumption) _ rfl | exact s.ld1 8 rfl (by assumption) _ rfl | exact s.ld1 9 rfl (by assumption) _ rfl | exact s.ld1 10 rfl (by assumption) _ rfl | exact s.ld1 11 rfl (by assumption) _ rfl | exact bload_ld1 (by assumption) _ rfl | exact bload_ldn (by assumption) _ _ (Nat.le_refl _) | exact (show bldV _ _ = some _ from rfl) | ((first | apply s.ldn 0 rfl | apply s.ldn 1 rfl | apply s.ldn 2 rfl | apply s.ldn 3 rfl | apply s.ldn 4 rfl | apply s.ldn 5 rfl | apply s.ldn 6 rfl | apply s.ldn 7 rfl | apply s.ldn 8 rfl | apply s.ldn 9 rfl | apply s.ldn 10 rfl | apply s.ldn 11 rfl); (· assumption); (· first | exact Nat.le_refl _ | decide | (simp; done)); (· rfl))) ?_)
   | (with_reducible first | refine Wp.onT (by assumption) ?_ | refine Wp.onF (by assumption) ?_ | refine Wp.spT (by assumption) ?_ | refine Wp.spF (by assumption) ?_)
   | ((with_reducible refine Wp.gbx ?_); refine Wp.box s rfl fun _p _g _p0 _F s => ?_)
   | ((with_reducible refine Wp.gal ?_); refine Wp.alo s fun _p _g _p0 _F s => ?_))
  exact Wp.r1 rfl rfl ⟨by simp, rfl⟩
/-- A command's bytes. -/
def cby (c : Cmd) : ByteArray := lebS c.s.toNat ++ (lebS c.n.toNat ++ (⟨#[UInt8.ofNat c.o.toNat]⟩ ++ (szd c.k ++ (szd c.v ++ szd c.d))))
theorem okC_facts {c : Cmd} (ok : okC c = true) : (0 ≤ c.s ∧ c.s ≤ 99) ∧ (1 ≤ c.n ∧ c.n ≤ 1000000) ∧ (1 ≤ c.o ∧ c.o ≤ 4) ∧ c.k.size ≤ 16 ∧ c.v.size ≤ 40 ∧ c.d.size ≤ 40 := by
  simp only [okC, keyOk, valOk, Bool.and_eq_true, decide_eq_true_eq] at ok
  omega
set_option maxHeartbeats 8000000 in
theorem read18 (c : Cmd) (ok : okC c = true) (h : H) (hk : Hok h) : Wp (R 18 [.str (cby c)] h) fun r h' => r = .tup [.agg c.en, .bool true] ∧ Fr [] h h' := by
  obtain ⟨⟨a1, a2⟩, ⟨a3, a4⟩, ⟨a5, a6⟩, a7, a8, a9⟩ := okC_facts ok
  refine R18 rfl ?_
  rw [S18_eq]
  have s := Mm.base hk
  have es : ((c.s.toNat : Nat) : Int) = c.s := by omega
  have en : ((c.n.toNat : Nat) : Int) = c.n := by omega
  have eo : ((c.o.toNat : Nat) : Int) = c.o := by omega
  repeat (first
   | ((with_reducible refine Wp.gb ?_); refine Wp.b (by first | (with_reducible first | exact fA_p (by assumption) | exact fA_o (by assumption) | exact nilC_ptr (by assumption) | exact bin_lss .. | exact bin_leq .. | exact bin_gtr .. | exact bin_geq .. | exact bin_eql .. | exact bin_neq .. | exact bin_add .. | exact bin_sub .. | exact bin_mul .. | exact str_eql .. | exact str_neq .. | exact str_lss .. | exact str_gtr .. | exact str_geq .. | exact str_leq .. | exact not_bool .. | exact lenS_str .. | assumption) | exact (show extV (.tup _) _ = some _ from rfl) | exact s.ld1 0 rfl (by assumption) _ rfl | exact s.ld1 1 rfl (by assumption) _ rfl | exact s.ld1 2 rfl (by assumption) _ rfl | exact s.ld1 3 rfl (by assumption) _ rfl | exact s.ld1 4 rfl (by assumption) _ rfl | exact s.ld1 5 rfl (by assumption) _ rfl | exact s.ld1 6 rfl (by assumption) _ rfl | exact s.ld1 7 rfl (by assumption) _ rfl | exact s.ld1 8 rfl (by assumption) _ rfl | exact s.ld1 9 rfl (by assumption) _ rfl | exact s.ld1 10 rfl (by assumption) _ rfl | exact s.ld1 11 rfl (by assumption) _ rfl | exact bload_ld1 (by assumption) _ rfl | exact bload_ldn (by assumption) _ _ (Nat.le_refl _) | exact (show bldV _ _ = some _ from rfl) | ((first | apply s.ldn 0 rfl | apply s.ldn 1 rfl | apply s.ldn 2 rfl | apply s.ldn 3 rfl | apply s.ldn 4 rfl | apply s.ldn 5 rfl | apply s.ldn 6 rfl | apply s.ldn 7 rfl | apply s.ldn 8 rfl | apply s.ldn 9 rfl | apply s.ldn 10 rfl | apply s.ldn 11 rfl); (· assumption); (· first | exact Nat.le_refl _ | decide | (simp; done)); (· rfl))) ?_)
   | (with_reducible first | refine Wp.onT (by assumption) ?_ | refine Wp.onF (by assumption) ?_ | refine Wp.spT (by assumption) ?_ | refine Wp.spF (by assumption) ?_)
   | ((with_reducible refine Wp.gbx ?_); refine Wp.box s rfl fun _p _g _p0 _F s => ?_)
   | ((with_reducible refine Wp.gal ?_); refine Wp.alo s fun _p _g _p0 _F s => ?_)
   | ((with_reducible refine Wp.gst ?_); (first | apply Wp.sto s 0 rfl | apply Wp.sto s 1 rfl | apply Wp.sto s 2 rfl | apply Wp.sto s 3 rfl | apply Wp.sto s 4 rfl | apply Wp.sto s 5 rfl | apply Wp.sto s 6 rfl | apply Wp.sto s 7 rfl | apply Wp.sto s 8 rfl | apply Wp.sto s 9 rfl | apply Wp.sto s 10 rfl | apply Wp.sto s 11 rfl); (· assumption); (· first | rfl | assumption); (· rfl); (· first | exact Nat.le_refl _ | decide | (simp; done)); (· rfl); intro _g _F s; simp only [List.set_cons_succ, List.set_cons_zero, List.take_succ_cons, List.take_zero, List.drop_succ_cons, List.drop_zero, List.drop_nil, List.nil_append, List.cons_append, List.append_nil, Nat.zero_add, Nat.reduceAdd] at s))
  replace s := s.back
  refine Wp.bind (num44 (n := c.s.toNat) (by omega) (by assumption) s) ?_
  rintro _ g1 ⟨rfl, s⟩
  dsimp only
  rw [es]
  repeat (first
   | ((with_reducible refine Wp.gb ?_); refine Wp.b (by first | (with_reducible first | exact fA_p (by assumption) | exact fA_o (by assumption) | exact nilC_ptr (by assumption) | exact bin_lss .. | exact bin_leq .. | exact bin_gtr .. | exact bin_geq .. | exact bin_eql .. | exact bin_neq .. | exact bin_add .. | exact bin_sub .. | exact bin_mul .. | exact str_eql .. | exact str_neq .. | exact str_lss .. | exact str_gtr .. | exact str_geq .. | exact str_leq .. | exact not_bool .. | exact lenS_str .. | assumption) | exact (show extV (.tup _) _ = some _ from rfl) | exact s.ld1 0 rfl (by assumption) _ rfl | exact s.ld1 1 rfl (by assumption) _ rfl | exact s.ld1 2 rfl (by assumption) _ rfl | exact s.ld1 3 rfl (by assumption) _ rfl | exact s.ld1 4 rfl (by assumption) _ rfl | exact s.ld1 5 rfl (by assumption) _ rfl | exact s.ld1 6 rfl (by assumption) _ rfl | exact s.ld1 7 rfl (by assumption) _ rfl | exact s.ld1 8 rfl (by assumption) _ rfl | exact s.ld1 9 rfl (by assumption) _ rfl | exact s.ld1 10 rfl (by assumption) _ rfl | exact s.ld1 11 rfl (by assumption) _ rfl | exact bload_ld1 (by assumption) _ rfl | exact bload_ldn (by assumption) _ _ (Nat.le_refl _) | exact (show bldV _ _ = some _ from rfl) | ((first | apply s.ldn 0 rfl | apply s.ldn 1 rfl | apply s.ldn 2 rfl | apply s.ldn 3 rfl | apply s.ldn 4 rfl | apply s.ldn 5 rfl | apply s.ldn 6 rfl | apply s.ldn 7 rfl | apply s.ldn 8 rfl | apply s.ldn 9 rfl | apply s.ldn 10 rfl | apply s.ldn 11 rfl); (· assumption); (· first | exact Nat.le_refl _ | decide | (simp; done)); (· rfl))) ?_)
   | (with_reducible first | refine Wp.onT (by assumption) ?_ | refine Wp.onF (by assumption) ?_ | refine Wp.spT (by assumption) ?_ | refine Wp.spF (by assumption) ?_)
   | ((with_reducible refine Wp.gbx ?_); refine Wp.box s rfl fun _p _g _p0 _F s => ?_)
   | ((with_reducible refine Wp.gal ?_); refine Wp.alo s fun _p _g _p0 _F s => ?_)
   | ((with_reducible refine Wp.gst ?_); (first | apply Wp.sto s 0 rfl | apply Wp.sto s 1 rfl | apply Wp.sto s 2 rfl | apply Wp.sto s 3 rfl | apply Wp.sto s 4 rfl | apply Wp.sto s 5 rfl | apply Wp.sto s 6 rfl | apply Wp.sto s 7 rfl | apply Wp.sto s 8 rfl | apply Wp.sto s 9 rfl | apply Wp.sto s 10 rfl | apply Wp.sto s 11 rfl); (· assumption); (· first | rfl | assumption); (· rfl); (· first | exact Nat.le_refl _ | decide | (simp; done)); (· rfl); intro _g _F s; simp only [List.set_cons_succ, List.set_cons_zero, List.take_succ_cons, List.take_zero, List.drop_succ_cons, List.drop_zero, List.drop_nil, List.nil_append, List.cons_append, List.append_nil, Nat.zero_add, Nat.reduceAdd] at s))
  refine Wp.bind (num44 (n := c.n.toNat) (by omega) (by assumption) s) ?_
  rintro _ g2 ⟨rfl, s⟩
  dsimp only
  rw [en]
  repeat (first
   | ((with_reducible refine Wp.gb ?_); refine Wp.b (by first | (with_reducible first | exact fA_p (by assumption) | exact fA_o (by assumption) | exact nilC_ptr (by assumption) | exact bin_lss .. | exact bin_leq .. | exact bin_gtr .. | exact bin_geq .. | exact bin_eql .. | exact bin_neq .. | exact bin_add .. | exact bin_sub .. | exact bin_mul .. | exact str_eql .. | exact str_neq .. | exact str_lss .. | exact str_gtr .. | exact str_geq .. | exact str_leq .. | exact not_bool .. | exact lenS_str .. | assumption) | exact (show extV (.tup _) _ = some _ from rfl) | exact s.ld1 0 rfl (by assumption) _ rfl | exact s.ld1 1 rfl (by assumption) _ rfl | exact s.ld1 2 rfl (by assumption) _ rfl | exact s.ld1 3 rfl (by assumption) _ rfl | exact s.ld1 4 rfl (by assumption) _ rfl | exact s.ld1 5 rfl (by assumption) _ rfl | exact s.ld1 6 rfl (by assumption) _ rfl | exact s.ld1 7 rfl (by assumption) _ rfl | exact s.ld1 8 rfl (by assumption) _ rfl | exact s.ld1 9 rfl (by assumption) _ rfl | exact s.ld1 10 rfl (by assumption) _ rfl | exact s.ld1 11 rfl (by assumption) _ rfl | exact bload_ld1 (by assumption) _ rfl | exact bload_ldn (by assumption) _ _ (Nat.le_refl _) | exact (show bldV _ _ = some _ from rfl) | ((first | apply s.ldn 0 rfl | apply s.ldn 1 rfl | apply s.ldn 2 rfl | apply s.ldn 3 rfl | apply s.ldn 4 rfl | apply s.ldn 5 rfl | apply s.ldn 6 rfl | apply s.ldn 7 rfl | apply s.ldn 8 rfl | apply s.ldn 9 rfl | apply s.ldn 10 rfl | apply s.ldn 11 rfl); (· assumption); (· first | exact Nat.le_refl _ | decide | (simp; done)); (· rfl))) ?_)
   | (with_reducible first | refine Wp.onT (by assumption) ?_ | refine Wp.onF (by assumption) ?_ | refine Wp.spT (by assumption) ?_ | refine Wp.spF (by assumption) ?_)
   | ((with_reducible refine Wp.gbx ?_); refine Wp.box s rfl fun _p _g _p0 _F s => ?_)
   | ((with_reducible refine Wp.gal ?_); refine Wp.alo s fun _p _g _p0 _F s => ?_)
   | ((with_reducible refine Wp.gst ?_); (first | apply Wp.sto s 0 rfl | apply Wp.sto s 1 rfl | apply Wp.sto s 2 rfl | apply Wp.sto s 3 rfl | apply Wp.sto s 4 rfl | apply Wp.sto s 5 rfl | apply Wp.sto s 6 rfl | apply Wp.sto s 7 rfl | apply Wp.sto s 8 rfl | apply Wp.sto s 9 rfl | apply Wp.sto s 10 rfl | apply Wp.sto s 11 rfl); (· assumption); (· first | rfl | assumption); (· rfl); (· first | exact Nat.le_refl _ | decide | (simp; done)); (· rfl); intro _g _F s; simp only [List.set_cons_succ, List.set_cons_zero, List.take_succ_cons, List.take_zero, List.drop_succ_cons, List.drop_zero, List.drop_nil, List.nil_append, List.cons_append, List.append_nil, Nat.zero_add, Nat.reduceAdd] at s))
  refine Wp.bind (text45 (t := ⟨#[UInt8.ofNat c.o.toNat]⟩) (by assumption) s) ?_
  rintro _ g3 ⟨rfl, s⟩
  dsimp only
  refine Wp.b (str_neq _ _ _ _) (Wp.onT (by simp) ?_)
  refine Wp.b (ixS_at (i := 0) (b := UInt8.ofNat c.o.toNat) rfl) ?_
  rw [u8_nat (by omega)]
  refine Wp.b (cvI_int _ _ _) ?_
  rw [w64 (by omega), eo]
  repeat (first
   | ((with_reducible refine Wp.gb ?_); refine Wp.b (by first | (with_reducible first | exact fA_p (by assumption) | exact fA_o (by assumption) | exact nilC_ptr (by assumption) | exact bin_lss .. | exact bin_leq .. | exact bin_gtr .. | exact bin_geq .. | exact bin_eql .. | exact bin_neq .. | exact bin_add .. | exact bin_sub .. | exact bin_mul .. | exact str_eql .. | exact str_neq .. | exact str_lss .. | exact str_gtr .. | exact str_geq .. | exact str_leq .. | exact not_bool .. | exact lenS_str .. | assumption) | exact (show extV (.tup _) _ = some _ from rfl) | exact s.ld1 0 rfl (by assumption) _ rfl | exact s.ld1 1 rfl (by assumption) _ rfl | exact s.ld1 2 rfl (by assumption) _ rfl | exact s.ld1 3 rfl (by assumption) _ rfl | exact s.ld1 4 rfl (by assumption) _ rfl | exact s.ld1 5 rfl (by assumption) _ rfl | exact s.ld1 6 rfl (by assumption) _ rfl | exact s.ld1 7 rfl (by assumption) _ rfl | exact s.ld1 8 rfl (by assumption) _ rfl | exact s.ld1 9 rfl (by assumption) _ rfl | exact s.ld1 10 rfl (by assumption) _ rfl | exact s.ld1 11 rfl (by assumption) _ rfl | exact bload_ld1 (by assumption) _ rfl | exact bload_ldn (by assumption) _ _ (Nat.le_refl _) | exact (show bldV _ _ = some _ from rfl) | ((first | apply s.ldn 0 rfl | apply s.ldn 1 rfl | apply s.ldn 2 rfl | apply s.ldn 3 rfl | apply s.ldn 4 rfl | apply s.ldn 5 rfl | apply s.ldn 6 rfl | apply s.ldn 7 rfl | apply s.ldn 8 rfl | apply s.ldn 9 rfl | apply s.ldn 10 rfl | apply s.ldn 11 rfl); (· assumption); (· first | exact Nat.le_refl _ | decide | (simp; done)); (· rfl))) ?_)
   | (with_reducible first | refine Wp.onT (by assumption) ?_ | refine Wp.onF (by assumption) ?_ | refine Wp.spT (by assumption) ?_ | refine Wp.spF (by assumption) ?_)
   | ((with_reducible refine Wp.gbx ?_); refine Wp.box s rfl fun _p _g _p0 _F s => ?_)
   | ((with_reducible refine Wp.gal ?_); refine Wp.alo s fun _p _g _p0 _F s => ?_)
   | ((with_reducible refine Wp.gst ?_); (first | apply Wp.sto s 0 rfl | apply Wp.sto s 1 rfl | apply Wp.sto s 2 rfl | apply Wp.sto s 3 rfl | apply Wp.sto s 4 rfl | apply Wp.sto s 5 rfl | apply Wp.sto s 6 rfl | apply Wp.sto s 7 rfl | apply Wp.sto s 8 rfl | apply Wp.sto s 9 rfl | apply Wp.sto s 10 rfl | apply Wp.sto s 11 rfl); (· assumption); (· first | rfl | assumption); (· rfl); (· first | exact Nat.le_refl _ | decide | (simp; done)); (· rfl); intro _g _F s; simp only [List.set_cons_succ, List.set_cons_zero, List.take_succ_cons, List.take_zero, List.drop_succ_cons, List.drop_zero, List.drop_nil, List.nil_append, List.cons_append, List.append_nil, Nat.zero_add, Nat.reduceAdd] at s))
  rw [S18_j7_eq]
  refine Wp.bind (sized46 (t := c.k) (by omega) (by assumption) s) ?_
  rintro _ g4 ⟨rfl, s⟩
  dsimp only
  repeat (first
   | ((with_reducible refine Wp.gb ?_); refine Wp.b (by first | (with_reducible first | exact fA_p (by assumption) | exact fA_o (by assumption) | exact nilC_ptr (by assumption) | exact bin_lss .. | exact bin_leq .. | exact bin_gtr .. | exact bin_geq .. | exact bin_eql .. | exact bin_neq .. | exact bin_add .. | exact bin_sub .. | exact bin_mul .. | exact str_eql .. | exact str_neq .. | exact str_lss .. | exact str_gtr .. | exact str_geq .. | exact str_leq .. | exact not_bool .. | exact lenS_str .. | assumption) | exact (show extV (.tup _) _ = some _ from rfl) | exact s.ld1 0 rfl (by assumption) _ rfl | exact s.ld1 1 rfl (by assumption) _ rfl | exact s.ld1 2 rfl (by assumption) _ rfl | exact s.ld1 3 rfl (by assumption) _ rfl | exact s.ld1 4 rfl (by assumption) _ rfl | exact s.ld1 5 rfl (by assumption) _ rfl | exact s.ld1 6 rfl (by assumption) _ rfl | exact s.ld1 7 rfl (by assumption) _ rfl | exact s.ld1 8 rfl (by assumption) _ rfl | exact s.ld1 9 rfl (by assumption) _ rfl | exact s.ld1 10 rfl (by assumption) _ rfl | exact s.ld1 11 rfl (by assumption) _ rfl | exact bload_ld1 (by assumption) _ rfl | exact bload_ldn (by assumption) _ _ (Nat.le_refl _) | exact (show bldV _ _ = some _ from rfl) | ((first | apply s.ldn 0 rfl | apply s.ldn 1 rfl | apply s.ldn 2 rfl | apply s.ldn 3 rfl | apply s.ldn 4 rfl | apply s.ldn 5 rfl | apply s.ldn 6 rfl | apply s.ldn 7 rfl | apply s.ldn 8 rfl | apply s.ldn 9 rfl | apply s.ldn 10 rfl | apply s.ldn 11 rfl); (· assumption); (· first | exact Nat.le_refl _ | decide | (simp; done)); (· rfl))) ?_)
   | (with_reducible first | refine Wp.onT (by assumption) ?_ | refine Wp.onF (by assumption) ?_ | refine Wp.spT (by assumption) ?_ | refine Wp.spF (by assumption) ?_)
   | ((with_reducible refine Wp.gbx ?_); refine Wp.box s rfl fun _p _g _p0 _F s => ?_)
   | ((with_reducible refine Wp.gal ?_); refine Wp.alo s fun _p _g _p0 _F s => ?_)
   | ((with_reducible refine Wp.gst ?_); (first | apply Wp.sto s 0 rfl | apply Wp.sto s 1 rfl | apply Wp.sto s 2 rfl | apply Wp.sto s 3 rfl | apply Wp.sto s 4 rfl | apply Wp.sto s 5 rfl | apply Wp.sto s 6 rfl | apply Wp.sto s 7 rfl | apply Wp.sto s 8 rfl | apply Wp.sto s 9 rfl | apply Wp.sto s 10 rfl | apply Wp.sto s 11 rfl); (· assumption); (· first | rfl | assumption); (· rfl); (· first | exact Nat.le_refl _ | decide | (simp; done)); (· rfl); intro _g _F s; simp only [List.set_cons_succ, List.set_cons_zero, List.take_succ_cons, List.take_zero, List.drop_succ_cons, List.drop_zero, List.drop_nil, List.nil_append, List.cons_append, List.append_nil, Nat.zero_add, Nat.reduceAdd] at s))
  refine Wp.bind (sized46 (t := c.v) (by omega) (by assumption) s) ?_
  rintro _ g5 ⟨rfl, s⟩
  dsimp only
  repeat (first
   | ((with_reducible refine Wp.gb ?_); refine Wp.b (by first | (with_reducible first | exact fA_p (by assumption) | exact fA_o (by assumption) | exact nilC_ptr (by assumption) | exact bin_lss .. | exact bin_leq .. | exact bin_gtr .. | exact bin_geq .. | exact bin_eql .. | exact bin_neq .. | exact bin_add .. | exact bin_sub .. | exact bin_mul .. | exact str_eql .. | exact str_neq .. | exact str_lss .. | exact str_gtr .. | exact str_geq .. | exact str_leq .. | exact not_bool .. | exact lenS_str .. | assumption) | exact (show extV (.tup _) _ = some _ from rfl) | exact s.ld1 0 rfl (by assumption) _ rfl | exact s.ld1 1 rfl (by assumption) _ rfl | exact s.ld1 2 rfl (by assumption) _ rfl | exact s.ld1 3 rfl (by assumption) _ rfl | exact s.ld1 4 rfl (by assumption) _ rfl | exact s.ld1 5 rfl (by assumption) _ rfl | exact s.ld1 6 rfl (by assumption) _ rfl | exact s.ld1 7 rfl (by assumption) _ rfl | exact s.ld1 8 rfl (by assumption) _ rfl | exact s.ld1 9 rfl (by assumption) _ rfl | exact s.ld1 10 rfl (by assumption) _ rfl | exact s.ld1 11 rfl (by assumption) _ rfl | exact bload_ld1 (by assumption) _ rfl | exact bload_ldn (by assumption) _ _ (Nat.le_refl _) | exact (show bldV _ _ = some _ from rfl) | ((first | apply s.ldn 0 rfl | apply s.ldn 1 rfl | apply s.ldn 2 rfl | apply s.ldn 3 rfl | apply s.ldn 4 rfl | apply s.ldn 5 rfl | apply s.ldn 6 rfl | apply s.ldn 7 rfl | apply s.ldn 8 rfl | apply s.ldn 9 rfl | apply s.ldn 10 rfl | apply s.ldn 11 rfl); (· assumption); (· first | exact Nat.le_refl _ | decide | (simp; done)); (· rfl))) ?_)
   | (with_reducible first | refine Wp.onT (by assumption) ?_ | refine Wp.onF (by assumption) ?_ | refine Wp.spT (by assumption) ?_ | refine Wp.spF (by assumption) ?_)
   | ((with_reducible refine Wp.gbx ?_); refine Wp.box s rfl fun _p _g _p0 _F s => ?_)
   | ((with_reducible refine Wp.gal ?_); refine Wp.alo s fun _p _g _p0 _F s => ?_)
   | ((with_reducible refine Wp.gst ?_); (first | apply Wp.sto s 0 rfl | apply Wp.sto s 1 rfl | apply Wp.sto s 2 rfl | apply Wp.sto s 3 rfl | apply Wp.sto s 4 rfl | apply Wp.sto s 5 rfl | apply Wp.sto s 6 rfl | apply Wp.sto s 7 rfl | apply Wp.sto s 8 rfl | apply Wp.sto s 9 rfl | apply Wp.sto s 10 rfl | apply Wp.sto s 11 rfl); (· assumption); (· first | rfl | assumption); (· rfl); (· first | exact Nat.le_refl _ | decide | (simp; done)); (· rfl); intro _g _F s; simp only [List.set_cons_succ, List.set_cons_zero, List.take_succ_cons, List.take_zero, List.drop_succ_cons, List.drop_zero, List.drop_nil, List.nil_append, List.cons_append, List.append_nil, Nat.zero_add, Nat.reduceAdd] at s))
  rw [show szd c.d = szd c.d ++ ⟨#[]⟩ from ByteArray.append_empty.symm] at s
  refine Wp.bind (sized46 (t := c.d) (rest := ⟨#[]⟩) (by omega) (by assumption) s) ?_
  rintro _ g6 ⟨rfl, s⟩
  dsimp only
  repeat (first
   | ((with_reducible refine Wp.gb ?_); refine Wp.b (by first | (with_reducible first | exact fA_p (by assumption) | exact fA_o (by assumption) | exact nilC_ptr (by assumption) | exact bin_lss .. | exact bin_leq .. | exact bin_gtr .. | exact bin_geq .. | exact bin_eql .. | exact bin_neq .. | exact bin_add .. | exact bin_sub .. | exact bin_mul .. | exact str_eql .. | exact str_neq .. | exact str_lss .. | exact str_gtr .. | exact str_geq .. | exact str_leq .. | exact not_bool .. | exact lenS_str .. | assumption) | exact (show extV (.tup _) _ = some _ from rfl) | exact s.ld1 0 rfl (by assumption) _ rfl | exact s.ld1 1 rfl (by assumption) _ rfl | exact s.ld1 2 rfl (by assumption) _ rfl | exact s.ld1 3 rfl (by assumption) _ rfl | exact s.ld1 4 rfl (by assumption) _ rfl | exact s.ld1 5 rfl (by assumption) _ rfl | exact s.ld1 6 rfl (by assumption) _ rfl | exact s.ld1 7 rfl (by assumption) _ rfl | exact s.ld1 8 rfl (by assumption) _ rfl | exact s.ld1 9 rfl (by assumption) _ rfl | exact s.ld1 10 rfl (by assumption) _ rfl | exact s.ld1 11 rfl (by assumption) _ rfl | exact bload_ld1 (by assumption) _ rfl | exact bload_ldn (by assumption) _ _ (Nat.le_refl _) | exact (show bldV _ _ = some _ from rfl) | ((first | apply s.ldn 0 rfl | apply s.ldn 1 rfl | apply s.ldn 2 rfl | apply s.ldn 3 rfl | apply s.ldn 4 rfl | apply s.ldn 5 rfl | apply s.ldn 6 rfl | apply s.ldn 7 rfl | apply s.ldn 8 rfl | apply s.ldn 9 rfl | apply s.ldn 10 rfl | apply s.ldn 11 rfl); (· assumption); (· first | exact Nat.le_refl _ | decide | (simp; done)); (· rfl))) ?_)
   | (with_reducible first | refine Wp.onT (by assumption) ?_ | refine Wp.onF (by assumption) ?_ | refine Wp.spT (by assumption) ?_ | refine Wp.spF (by assumption) ?_)
   | ((with_reducible refine Wp.gbx ?_); refine Wp.box s rfl fun _p _g _p0 _F s => ?_)
   | ((with_reducible refine Wp.gal ?_); refine Wp.alo s fun _p _g _p0 _F s => ?_)
   | ((with_reducible refine Wp.gst ?_); (first | apply Wp.sto s 0 rfl | apply Wp.sto s 1 rfl | apply Wp.sto s 2 rfl | apply Wp.sto s 3 rfl | apply Wp.sto s 4 rfl | apply Wp.sto s 5 rfl | apply Wp.sto s 6 rfl | apply Wp.sto s 7 rfl | apply Wp.sto s 8 rfl | apply Wp.sto s 9 rfl | apply Wp.sto s 10 rfl | apply Wp.sto s 11 rfl); (· assumption); (· first | rfl | assumption); (· rfl); (· first | exact Nat.le_refl _ | decide | (simp; done)); (· rfl); intro _g _F s; simp only [List.set_cons_succ, List.set_cons_zero, List.take_succ_cons, List.take_zero, List.drop_succ_cons, List.drop_zero, List.drop_nil, List.nil_append, List.cons_append, List.append_nil, Nat.zero_add, Nat.reduceAdd] at s))
  have hw := whole47 (by assumption) s
  repeat (first
   | ((with_reducible refine Wp.gb ?_); refine Wp.b (by first | (with_reducible first | exact fA_p (by assumption) | exact fA_o (by assumption) | exact nilC_ptr (by assumption) | exact bin_lss .. | exact bin_leq .. | exact bin_gtr .. | exact bin_geq .. | exact bin_eql .. | exact bin_neq .. | exact bin_add .. | exact bin_sub .. | exact bin_mul .. | exact str_eql .. | exact str_neq .. | exact str_lss .. | exact str_gtr .. | exact str_geq .. | exact str_leq .. | exact not_bool .. | exact lenS_str .. | assumption) | exact (show extV (.tup _) _ = some _ from rfl) | exact s.ld1 0 rfl (by assumption) _ rfl | exact s.ld1 1 rfl (by assumption) _ rfl | exact s.ld1 2 rfl (by assumption) _ rfl | exact s.ld1 3 rfl (by assumption) _ rfl | exact s.ld1 4 rfl (by assumption) _ rfl | exact s.ld1 5 rfl (by assumption) _ rfl | exact s.ld1 6 rfl (by assumption) _ rfl | exact s.ld1 7 rfl (by assumption) _ rfl | exact s.ld1 8 rfl (by assumption) _ rfl | exact s.ld1 9 rfl (by assumption) _ rfl | exact s.ld1 10 rfl (by assumption) _ rfl | exact s.ld1 11 rfl (by assumption) _ rfl | exact bload_ld1 (by assumption) _ rfl | exact bload_ldn (by assumption) _ _ (Nat.le_refl _) | exact (show bldV _ _ = some _ from rfl) | ((first | apply s.ldn 0 rfl | apply s.ldn 1 rfl | apply s.ldn 2 rfl | apply s.ldn 3 rfl | apply s.ldn 4 rfl | apply s.ldn 5 rfl | apply s.ldn 6 rfl | apply s.ldn 7 rfl | apply s.ldn 8 rfl | apply s.ldn 9 rfl | apply s.ldn 10 rfl | apply s.ldn 11 rfl); (· assumption); (· first | exact Nat.le_refl _ | decide | (simp; done)); (· rfl))) ?_)
   | (with_reducible first | refine Wp.onT (by assumption) ?_ | refine Wp.onF (by assumption) ?_ | refine Wp.spT (by assumption) ?_ | refine Wp.spF (by assumption) ?_)
   | ((with_reducible refine Wp.gbx ?_); refine Wp.box s rfl fun _p _g _p0 _F s => ?_)
   | ((with_reducible refine Wp.gal ?_); refine Wp.alo s fun _p _g _p0 _F s => ?_))
  refine Wp.spF rfl ?_
  repeat (first
   | ((with_reducible refine Wp.gb ?_); refine Wp.b (by first | (with_reducible first | exact fA_p (by assumption) | exact fA_o (by assumption) | exact nilC_ptr (by assumption) | exact bin_lss .. | exact bin_leq .. | exact bin_gtr .. | exact bin_geq .. | exact bin_eql .. | exact bin_neq .. | exact bin_add .. | exact bin_sub .. | exact bin_mul .. | exact str_eql .. | exact str_neq .. | exact str_lss .. | exact str_gtr .. | exact str_geq .. | exact str_leq .. | exact not_bool .. | exact lenS_str .. | assumption) | exact (show extV (.tup _) _ = some _ from rfl) | exact s.ld1 0 rfl (by assumption) _ rfl | exact s.ld1 1 rfl (by assumption) _ rfl | exact s.ld1 2 rfl (by assumption) _ rfl | exact s.ld1 3 rfl (by assumption) _ rfl | exact s.ld1 4 rfl (by assumption) _ rfl | exact s.ld1 5 rfl (by assumption) _ rfl | exact s.ld1 6 rfl (by assumption) _ rfl | exact s.ld1 7 rfl (by assumption) _ rfl | exact s.ld1 8 rfl (by assumption) _ rfl | exact s.ld1 9 rfl (by assumption) _ rfl | exact s.ld1 10 rfl (by assumption) _ rfl | exact s.ld1 11 rfl (by assumption) _ rfl | exact bload_ld1 (by assumption) _ rfl | exact bload_ldn (by assumption) _ _ (Nat.le_refl _) | exact (show bldV _ _ = some _ from rfl) | ((first | apply s.ldn 0 rfl | apply s.ldn 1 rfl | apply s.ldn 2 rfl | apply s.ldn 3 rfl | apply s.ldn 4 rfl | apply s.ldn 5 rfl | apply s.ldn 6 rfl | apply s.ldn 7 rfl | apply s.ldn 8 rfl | apply s.ldn 9 rfl | apply s.ldn 10 rfl | apply s.ldn 11 rfl); (· assumption); (· first | exact Nat.le_refl _ | decide | (simp; done)); (· rfl))) ?_)
   | (with_reducible first | refine Wp.onT (by assumption) ?_ | refine Wp.onF (by assumption) ?_ | refine Wp.spT (by assumption) ?_ | refine Wp.spF (by assumption) ?_)
   | ((with_reducible refine Wp.gbx ?_); refine Wp.box s rfl fun _p _g _p0 _F s => ?_)
   | ((with_reducible refine Wp.gal ?_); refine Wp.alo s fun _p _g _p0 _F s => ?_))
  obtain ⟨g7, e7, F7⟩ := c39 c _ s.k
  refine Wp.b e7 ?_
  replace s := s.fr0 F7
  dsimp only
  rw [ok]
  repeat (first
   | ((with_reducible refine Wp.gb ?_); refine Wp.b (by first | (with_reducible first | exact fA_p (by assumption) | exact fA_o (by assumption) | exact nilC_ptr (by assumption) | exact bin_lss .. | exact bin_leq .. | exact bin_gtr .. | exact bin_geq .. | exact bin_eql .. | exact bin_neq .. | exact bin_add .. | exact bin_sub .. | exact bin_mul .. | exact str_eql .. | exact str_neq .. | exact str_lss .. | exact str_gtr .. | exact str_geq .. | exact str_leq .. | exact not_bool .. | exact lenS_str .. | assumption) | exact (show extV (.tup _) _ = some _ from rfl) | exact s.ld1 0 rfl (by assumption) _ rfl | exact s.ld1 1 rfl (by assumption) _ rfl | exact s.ld1 2 rfl (by assumption) _ rfl | exact s.ld1 3 rfl (by assumption) _ rfl | exact s.ld1 4 rfl (by assumption) _ rfl | exact s.ld1 5 rfl (by assumption) _ rfl | exact s.ld1 6 rfl (by assumption) _ rfl | exact s.ld1 7 rfl (by assumption) _ rfl | exact s.ld1 8 rfl (by assumption) _ rfl | exact s.ld1 9 rfl (by assumption) _ rfl | exact s.ld1 10 rfl (by assumption) _ rfl | exact s.ld1 11 rfl (by assumption) _ rfl | exact bload_ld1 (by assumption) _ rfl | exact bload_ldn (by assumption) _ _ (Nat.le_refl _) | exact (show bldV _ _ = some _ from rfl) | ((first | apply s.ldn 0 rfl | apply s.ldn 1 rfl | apply s.ldn 2 rfl | apply s.ldn 3 rfl | apply s.ldn 4 rfl | apply s.ldn 5 rfl | apply s.ldn 6 rfl | apply s.ldn 7 rfl | apply s.ldn 8 rfl | apply s.ldn 9 rfl | apply s.ldn 10 rfl | apply s.ldn 11 rfl); (· assumption); (· first | exact Nat.le_refl _ | decide | (simp; done)); (· rfl))) ?_)
   | (with_reducible first | refine Wp.onT (by assumption) ?_ | refine Wp.onF (by assumption) ?_ | refine Wp.spT (by assumption) ?_ | refine Wp.spF (by assumption) ?_)
   | ((with_reducible refine Wp.gbx ?_); refine Wp.box s rfl fun _p _g _p0 _F s => ?_)
   | ((with_reducible refine Wp.gal ?_); refine Wp.alo s fun _p _g _p0 _F s => ?_))
  refine Wp.onF rfl ?_
  repeat (first
   | ((with_reducible refine Wp.gb ?_); refine Wp.b (by first | (with_reducible first | exact fA_p (by assumption) | exact fA_o (by assumption) | exact nilC_ptr (by assumption) | exact bin_lss .. | exact bin_leq .. | exact bin_gtr .. | exact bin_geq .. | exact bin_eql .. | exact bin_neq .. | exact bin_add .. | exact bin_sub .. | exact bin_mul .. | exact str_eql .. | exact str_neq .. | exact str_lss .. | exact str_gtr .. | exact str_geq .. | exact str_leq .. | exact not_bool .. | exact lenS_str .. | assumption) | exact (show extV (.tup _) _ = some _ from rfl) | exact s.ld1 0 rfl (by assumption) _ rfl | exact s.ld1 1 rfl (by assumption) _ rfl | exact s.ld1 2 rfl (by assumption) _ rfl | exact s.ld1 3 rfl (by assumption) _ rfl | exact s.ld1 4 rfl (by assumption) _ rfl | exact s.ld1 5 rfl (by assumption) _ rfl | exact s.ld1 6 rfl (by assumption) _ rfl | exact s.ld1 7 rfl (by assumption) _ rfl | exact s.ld1 8 rfl (by assumption) _ rfl | exact s.ld1 9 rfl (by assumption) _ rfl | exact s.ld1 10 rfl (by assumption) _ rfl | exact s.ld1 11 rfl (by assumption) _ rfl | exact bload_ld1 (by assumption) _ rfl | exact bload_ldn (by assumption) _ _ (Nat.le_refl _) | exact (show bldV _ _ = some _ from rfl) | ((first | apply s.ldn 0 rfl | apply s.ldn 1 rfl | apply s.ldn 2 rfl | apply s.ldn 3 rfl | apply s.ldn 4 rfl | apply s.ldn 5 rfl | apply s.ldn 6 rfl | apply s.ldn 7 rfl | apply s.ldn 8 rfl | apply s.ldn 9 rfl | apply s.ldn 10 rfl | apply s.ldn 11 rfl); (· assumption); (· first | exact Nat.le_refl _ | decide | (simp; done)); (· rfl))) ?_)
   | (with_reducible first | refine Wp.onT (by assumption) ?_ | refine Wp.onF (by assumption) ?_ | refine Wp.spT (by assumption) ?_ | refine Wp.spF (by assumption) ?_)
   | ((with_reducible refine Wp.gbx ?_); refine Wp.box s rfl fun _p _g _p0 _F s => ?_)
   | ((with_reducible refine Wp.gal ?_); refine Wp.alo s fun _p _g _p0 _F s => ?_)
   | ((with_reducible refine Wp.gst ?_); (first | apply Wp.sto s 0 rfl | apply Wp.sto s 1 rfl | apply Wp.sto s 2 rfl | apply Wp.sto s 3 rfl | apply Wp.sto s 4 rfl | apply Wp.sto s 5 rfl | apply Wp.sto s 6 rfl | apply Wp.sto s 7 rfl | apply Wp.sto s 8 rfl | apply Wp.sto s 9 rfl | apply Wp.sto s 10 rfl | apply Wp.sto s 11 rfl); (· assumption); (· first | rfl | assumption); (· rfl); (· first | exact Nat.le_refl _ | decide | (simp; done)); (· rfl); intro _g _F s; simp only [List.set_cons_succ, List.set_cons_zero, List.take_succ_cons, List.take_zero, List.drop_succ_cons, List.drop_zero, List.drop_nil, List.nil_append, List.cons_append, List.append_nil, Nat.zero_add, Nat.reduceAdd] at s))
  refine Wp.r2 (s.ldn 2 rfl (by assumption) 0 6 (Nat.le_refl 6) rfl) rfl rfl rfl ⟨rfl, s.F⟩
end Go.Proofs.Ythoabddfionmoaa.AH
namespace Go.Proofs.Ythoabddfionmoaa.AH
open Go Go.RowKit
theorem szd_size (t : ByteArray) : (szd t).size ≤ 2 * t.size + 1 := by
  have := lebS_size t.size
  unfold szd; rw [ByteArray.size_append]; omega
theorem pc40 (n : Nat) (hn : n ≤ 1000000) : pcall R 40 [.int .i64 n] = some (.str (lebS n)) :=
  pc_of rfl ((var40 n (by omega) _ none_ok).mono fun r h' q => q.1) rfl
theorem pc69 (n : Nat) (hn : n ≤ 1000000) : pcall R 69 [.int .i64 n] = some (.str (lebS n)) :=
  pc_of rfl ((var69 n (by omega) _ none_ok).mono fun r h' q => q.1) rfl
theorem pc41 (t : ByteArray) (hn : t.size ≤ 1000000) : pcall R 41 [.str t] = some (.str (szd t)) :=
  pc_of rfl ((sized41 t (by omega) _ none_ok).mono fun r h' q => q.1) rfl
set_option maxHeartbeats 8000000 in
theorem by16 (c : Cmd) (h : H) (hk : Hok h) : Wp (R 16 [.agg c.en] h) fun r h' => r = .tup [.str (if okC c then cby c else ⟨#[]⟩), .bool (okC c)] ∧ Fr [] h h' := by
  refine R16 rfl ?_
  rw [S16_eq]
  have s := Mm.base hk
  repeat (first
   | ((with_reducible refine Wp.gb ?_); refine Wp.b (by first | (with_reducible first | exact fA_p (by assumption) | exact fA_o (by assumption) | exact nilC_ptr (by assumption) | exact bin_lss .. | exact bin_leq .. | exact bin_gtr .. | exact bin_geq .. | exact bin_eql .. | exact bin_neq .. | exact bin_add .. | exact bin_sub .. | exact bin_mul .. | exact str_eql .. | exact str_neq .. | exact str_lss .. | exact str_gtr .. | exact str_geq .. | exact str_leq .. | exact not_bool .. | exact lenS_str .. | assumption) | exact (show extV (.tup _) _ = some _ from rfl) | exact s.ld1 0 rfl (by assumption) _ rfl | exact s.ld1 1 rfl (by assumption) _ rfl | exact s.ld1 2 rfl (by assumption) _ rfl | exact s.ld1 3 rfl (by assumption) _ rfl | exact s.ld1 4 rfl (by assumption) _ rfl | exact s.ld1 5 rfl (by assumption) _ rfl | exact s.ld1 6 rfl (by assumption) _ rfl | exact s.ld1 7 rfl (by assumption) _ rfl | exact s.ld1 8 rfl (by assumption) _ rfl | exact s.ld1 9 rfl (by assumption) _ rfl | exact s.ld1 10 rfl (by assumption) _ rfl | exact s.ld1 11 rfl (by assumption) _ rfl | exact bload_ld1 (by assumption) _ rfl | exact bload_ldn (by assumption) _ _ (Nat.le_refl _) | exact (show bldV _ _ = some _ from rfl) | ((first | apply s.ldn 0 rfl | apply s.ldn 1 rfl | apply s.ldn 2 rfl | apply s.ldn 3 rfl | apply s.ldn 4 rfl | apply s.ldn 5 rfl | apply s.ldn 6 rfl | apply s.ldn 7 rfl | apply s.ldn 8 rfl | apply s.ldn 9 rfl | apply s.ldn 10 rfl | apply s.ldn 11 rfl); (· assumption); (· first | exact Nat.le_refl _ | decide | (simp; done)); (· rfl))) ?_)
   | (with_reducible first | refine Wp.onT (by assumption) ?_ | refine Wp.onF (by assumption) ?_ | refine Wp.spT (by assumption) ?_ | refine Wp.spF (by assumption) ?_)
   | ((with_reducible refine Wp.gbx ?_); refine Wp.box s rfl fun _p _g _p0 _F s => ?_)
   | ((with_reducible refine Wp.gal ?_); refine Wp.alo s fun _p _g _p0 _F s => ?_))
  obtain ⟨g1, e1, F1⟩ := c39 c _ s.k
  refine Wp.b e1 ?_
  replace s := s.fr0 F1
  dsimp only
  by_cases ok : okC c = true
  · obtain ⟨⟨a1, a2⟩, ⟨a3, a4⟩, ⟨a5, a6⟩, a7, a8, a9⟩ := okC_facts ok
    have l1 := lebS_size c.s.toNat
    have l2 := lebS_size c.n.toNat
    have l3 := szd_size c.k
    have l4 := szd_size c.v
    have l5 := szd_size c.d
    have es : c.s = ((c.s.toNat : Nat) : Int) := by omega
    have en : c.n = ((c.n.toNat : Nat) : Int) := by omega
    have eo : c.o = ((c.o.toNat : Nat) : Int) := by omega
    rw [ok]
    repeat (first
     | ((with_reducible refine Wp.gb ?_); refine Wp.b (by first | (with_reducible first | exact fA_p (by assumption) | exact fA_o (by assumption) | exact nilC_ptr (by assumption) | exact bin_lss .. | exact bin_leq .. | exact bin_gtr .. | exact bin_geq .. | exact bin_eql .. | exact bin_neq .. | exact bin_add .. | exact bin_sub .. | exact bin_mul .. | exact str_eql .. | exact str_neq .. | exact str_lss .. | exact str_gtr .. | exact str_geq .. | exact str_leq .. | exact not_bool .. | exact lenS_str .. | assumption) | exact (show extV (.tup _) _ = some _ from rfl) | exact s.ld1 0 rfl (by assumption) _ rfl | exact s.ld1 1 rfl (by assumption) _ rfl | exact s.ld1 2 rfl (by assumption) _ rfl | exact s.ld1 3 rfl (by assumption) _ rfl | exact s.ld1 4 rfl (by assumption) _ rfl | exact s.ld1 5 rfl (by assumption) _ rfl | exact s.ld1 6 rfl (by assumption) _ rfl | exact s.ld1 7 rfl (by assumption) _ rfl | exact s.ld1 8 rfl (by assumption) _ rfl | exact s.ld1 9 rfl (by assumption) _ rfl | exact s.ld1 10 rfl (by assumption) _ rfl | exact s.ld1 11 rfl (by assumption) _ rfl | exact bload_ld1 (by assumption) _ rfl | exact bload_ldn (by assumption) _ _ (Nat.le_refl _) | exact (show bldV _ _ = some _ from rfl) | ((first | apply s.ldn 0 rfl | apply s.ldn 1 rfl | apply s.ldn 2 rfl | apply s.ldn 3 rfl | apply s.ldn 4 rfl | apply s.ldn 5 rfl | apply s.ldn 6 rfl | apply s.ldn 7 rfl | apply s.ldn 8 rfl | apply s.ldn 9 rfl | apply s.ldn 10 rfl | apply s.ldn 11 rfl); (· assumption); (· first | exact Nat.le_refl _ | decide | (simp; done)); (· rfl))) ?_)
     | (with_reducible first | refine Wp.onT (by assumption) ?_ | refine Wp.onF (by assumption) ?_ | refine Wp.spT (by assumption) ?_ | refine Wp.spF (by assumption) ?_)
     | ((with_reducible refine Wp.gbx ?_); refine Wp.box s rfl fun _p _g _p0 _F s => ?_)
     | ((with_reducible refine Wp.gal ?_); refine Wp.alo s fun _p _g _p0 _F s => ?_))
    refine Wp.onF rfl ?_
    repeat (first
     | ((with_reducible refine Wp.gb ?_); refine Wp.b (by first | (with_reducible first | exact fA_p (by assumption) | exact fA_o (by assumption) | exact nilC_ptr (by assumption) | exact bin_lss .. | exact bin_leq .. | exact bin_gtr .. | exact bin_geq .. | exact bin_eql .. | exact bin_neq .. | exact bin_add .. | exact bin_sub .. | exact bin_mul .. | exact str_eql .. | exact str_neq .. | exact str_lss .. | exact str_gtr .. | exact str_geq .. | exact str_leq .. | exact not_bool .. | exact lenS_str .. | assumption) | exact (show extV (.tup _) _ = some _ from rfl) | exact s.ld1 0 rfl (by assumption) _ rfl | exact s.ld1 1 rfl (by assumption) _ rfl | exact s.ld1 2 rfl (by assumption) _ rfl | exact s.ld1 3 rfl (by assumption) _ rfl | exact s.ld1 4 rfl (by assumption) _ rfl | exact s.ld1 5 rfl (by assumption) _ rfl | exact s.ld1 6 rfl (by assumption) _ rfl | exact s.ld1 7 rfl (by assumption) _ rfl | exact s.ld1 8 rfl (by assumption) _ rfl | exact s.ld1 9 rfl (by assumption) _ rfl | exact s.ld1 10 rfl (by assumption) _ rfl | exact s.ld1 11 rfl (by assumption) _ rfl | exact bload_ld1 (by assumption) _ rfl | exact bload_ldn (by assumption) _ _ (Nat.le_refl _) | exact (show bldV _ _ = some _ from rfl) | ((first | apply s.ldn 0 rfl | apply s.ldn 1 rfl | apply s.ldn 2 rfl | apply s.ldn 3 rfl | apply s.ldn 4 rfl | apply s.ldn 5 rfl | apply s.ldn 6 rfl | apply s.ldn 7 rfl | apply s.ldn 8 rfl | apply s.ldn 9 rfl | apply s.ldn 10 rfl | apply s.ldn 11 rfl); (· assumption); (· first | exact Nat.le_refl _ | decide | (simp; done)); (· rfl))) ?_)
     | (with_reducible first | refine Wp.onT (by assumption) ?_ | refine Wp.onF (by assumption) ?_ | refine Wp.spT (by assumption) ?_ | refine Wp.spF (by assumption) ?_)
     | ((with_reducible refine Wp.gbx ?_); refine Wp.box s rfl fun _p _g _p0 _F s => ?_)
     | ((with_reducible refine Wp.gal ?_); refine Wp.alo s fun _p _g _p0 _F s => ?_))
    refine Wp.b (cvI_int _ _ _) ?_
    rw [show IntKind.u8.wrap c.o = ((c.o.toNat : Nat) : Int) by rw [eo]; exact w8 (by omega)]
    repeat (first
     | ((with_reducible refine Wp.gb ?_); refine Wp.b (by first | (with_reducible first | exact fA_p (by assumption) | exact fA_o (by assumption) | exact nilC_ptr (by assumption) | exact bin_lss .. | exact bin_leq .. | exact bin_gtr .. | exact bin_geq .. | exact bin_eql .. | exact bin_neq .. | exact bin_add .. | exact bin_sub .. | exact bin_mul .. | exact str_eql .. | exact str_neq .. | exact str_lss .. | exact str_gtr .. | exact str_geq .. | exact str_leq .. | exact not_bool .. | exact lenS_str .. | assumption) | exact (show extV (.tup _) _ = some _ from rfl) | exact s.ld1 0 rfl (by assumption) _ rfl | exact s.ld1 1 rfl (by assumption) _ rfl | exact s.ld1 2 rfl (by assumption) _ rfl | exact s.ld1 3 rfl (by assumption) _ rfl | exact s.ld1 4 rfl (by assumption) _ rfl | exact s.ld1 5 rfl (by assumption) _ rfl | exact s.ld1 6 rfl (by assumption) _ rfl | exact s.ld1 7 rfl (by assumption) _ rfl | exact s.ld1 8 rfl (by assumption) _ rfl | exact s.ld1 9 rfl (by assumption) _ rfl | exact s.ld1 10 rfl (by assumption) _ rfl | exact s.ld1 11 rfl (by assumption) _ rfl | exact bload_ld1 (by assumption) _ rfl | exact bload_ldn (by assumption) _ _ (Nat.le_refl _) | exact (show bldV _ _ = some _ from rfl) | ((first | apply s.ldn 0 rfl | apply s.ldn 1 rfl | apply s.ldn 2 rfl | apply s.ldn 3 rfl | apply s.ldn 4 rfl | apply s.ldn 5 rfl | apply s.ldn 6 rfl | apply s.ldn 7 rfl | apply s.ldn 8 rfl | apply s.ldn 9 rfl | apply s.ldn 10 rfl | apply s.ldn 11 rfl); (· assumption); (· first | exact Nat.le_refl _ | decide | (simp; done)); (· rfl))) ?_)
     | (with_reducible first | refine Wp.onT (by assumption) ?_ | refine Wp.onF (by assumption) ?_ | refine Wp.spT (by assumption) ?_ | refine Wp.spF (by assumption) ?_)
     | ((with_reducible refine Wp.gbx ?_); refine Wp.box s rfl fun _p _g _p0 _F s => ?_)
     | ((with_reducible refine Wp.gal ?_); refine Wp.alo s fun _p _g _p0 _F s => ?_))
    rw [es, en]
    refine Wp.b (pc40 _ (by omega)) ?_
    refine Wp.b (pc40 _ (by omega)) ?_
    refine Wp.b (str_add _ _ _ _ (by omega)) ?_
    refine Wp.b (pc41 _ (by omega)) ?_
    refine Wp.b (pc41 _ (by omega)) ?_
    refine Wp.b (pc41 _ (by omega)) ?_
    refine Wp.lit s [UInt8.ofNat c.o.toNat] (by show _ = some [V.int .u8 ((UInt8.ofNat c.o.toNat).toNat : Nat)]; rw [u8_nat (by omega)]; rfl) rfl rfl fun w j _g oo nn _F s' => ?_
    have p0 := (s.blk (i := 0) rfl (by assumption)).2.1
    refine Wp.pd _F (by assumption) p0 ?_
    refine Wp.pd _F (by assumption) p0 ?_
    refine Wp.pd _F (by assumption) p0 ?_
    refine Wp.pd _F (by assumption) p0 ?_
    refine Wp.pd _F (by assumption) p0 ?_
    refine Wp.pd _F (by assumption) p0 ?_
    refine Wp.b (s'.rv 0 oo rfl).bytes ?_
    have z1 : (ByteArray.mk [UInt8.ofNat c.o.toNat].toArray).size = 1 := rfl
    refine Wp.b (str_add _ _ _ _ (by rw [ByteArray.size_append]; omega)) ?_
    refine Wp.b (str_add _ _ _ _ (by simp only [ByteArray.size_append]; omega)) ?_
    refine Wp.b (str_add _ _ _ _ (by simp only [ByteArray.size_append]; omega)) ?_
    refine Wp.b (str_add _ _ _ _ (by simp only [ByteArray.size_append]; omega)) ?_
    refine Wp.r2 rfl rfl rfl rfl ⟨?_, s'.F⟩
    simp only [cby, ByteArray.append_assoc, Int.toNat_natCast, if_true]
  · have ok : okC c = false := by simpa using ok
    rw [ok]
    repeat (first
     | ((with_reducible refine Wp.gb ?_); refine Wp.b (by first | (with_reducible first | exact fA_p (by assumption) | exact fA_o (by assumption) | exact nilC_ptr (by assumption) | exact bin_lss .. | exact bin_leq .. | exact bin_gtr .. | exact bin_geq .. | exact bin_eql .. | exact bin_neq .. | exact bin_add .. | exact bin_sub .. | exact bin_mul .. | exact str_eql .. | exact str_neq .. | exact str_lss .. | exact str_gtr .. | exact str_geq .. | exact str_leq .. | exact not_bool .. | exact lenS_str .. | assumption) | exact (show extV (.tup _) _ = some _ from rfl) | exact s.ld1 0 rfl (by assumption) _ rfl | exact s.ld1 1 rfl (by assumption) _ rfl | exact s.ld1 2 rfl (by assumption) _ rfl | exact s.ld1 3 rfl (by assumption) _ rfl | exact s.ld1 4 rfl (by assumption) _ rfl | exact s.ld1 5 rfl (by assumption) _ rfl | exact s.ld1 6 rfl (by assumption) _ rfl | exact s.ld1 7 rfl (by assumption) _ rfl | exact s.ld1 8 rfl (by assumption) _ rfl | exact s.ld1 9 rfl (by assumption) _ rfl | exact s.ld1 10 rfl (by assumption) _ rfl | exact s.ld1 11 rfl (by assumption) _ rfl | exact bload_ld1 (by assumption) _ rfl | exact bload_ldn (by assumption) _ _ (Nat.le_refl _) | exact (show bldV _ _ = some _ from rfl) | ((first | apply s.ldn 0 rfl | apply s.ldn 1 rfl | apply s.ldn 2 rfl | apply s.ldn 3 rfl | apply s.ldn 4 rfl | apply s.ldn 5 rfl | apply s.ldn 6 rfl | apply s.ldn 7 rfl | apply s.ldn 8 rfl | apply s.ldn 9 rfl | apply s.ldn 10 rfl | apply s.ldn 11 rfl); (· assumption); (· first | exact Nat.le_refl _ | decide | (simp; done)); (· rfl))) ?_)
     | (with_reducible first | refine Wp.onT (by assumption) ?_ | refine Wp.onF (by assumption) ?_ | refine Wp.spT (by assumption) ?_ | refine Wp.spF (by assumption) ?_)
     | ((with_reducible refine Wp.gbx ?_); refine Wp.box s rfl fun _p _g _p0 _F s => ?_)
     | ((with_reducible refine Wp.gal ?_); refine Wp.alo s fun _p _g _p0 _F s => ?_))
    refine Wp.onT rfl ?_
    exact Wp.r2 rfl rfl rfl rfl ⟨rfl, s.F⟩
set_option maxHeartbeats 4000000 in
theorem l43 (v : V) {h0 : H} : ∀ (B A : List ByteArray), A.length + B.length ≤ 100 → (∀ t ∈ B, t.size ≤ 1000) → ∀ (acc : ByteArray) (g : H), acc.size + 3000 * B.length ≤ 1099511627776 → Hok g → Fr [] h0 g → RV g v (A ++ B) →
    Wp (S43_l3 R (.str acc) v (.int .i64 (A.length + B.length : Nat)) (.int .i64 A.length) g) fun r h' => r = .str (B.foldl (fun a t => a ++ szd t) acc) ∧ Fr [] h0 h'
  | [], A, hn, ht, acc, g, hb, hk, F, r => by
    rw [S43_l3_eq]
    refine Wp.b (bin_lss _ _ _ _ _) (Wp.onF (by simp) ?_)
    exact Wp.r1 rfl rfl ⟨rfl, F⟩
  | t :: B, A, hn, ht, acc, g, hb, hk, F, r => by
    rw [S43_l3_eq]
    simp only [List.length_cons] at hn hb
    have h1 := ht t (by simp)
    have h2 := szd_size t
    have h3 := lebS_size t.size
    obtain ⟨b, o, b0, bl, e1, e2⟩ := r.mid
    refine Wp.b (bin_lss _ _ _ _ _) (Wp.onT (by simp; omega) ?_)
    refine Wp.b e1 (Wp.b (bload_ld1 e2 0 rfl) (Wp.b (lenS_str _) ?_))
    refine Wp.bind (var69 t.size (by omega) g hk) ?_
    rintro _ g2 ⟨rfl, F2⟩
    dsimp only
    refine Wp.b (str_add _ _ _ _ (by omega)) ?_
    refine Wp.b (str_add _ _ _ _ (by rw [ByteArray.size_append]; omega)) ?_
    refine Wp.b (bin_add _ _ _ _ _) ?_
    rw [inc64 (by omega)]
    have i := l43 v (h0 := h0) B (A ++ [t]) (by simp; omega) (fun u hu => ht u (by simp [hu])) (acc ++ szd t) g2 (by rw [ByteArray.size_append]; omega) (F2.ok hk) (F.trans0 F2) (by simpa using r.fr F2)
    have e1 : A.length + (t :: B).length = (A ++ [t]).length + B.length := by simp; omega
    rw [e1]
    rw [List.length_append, List.length_singleton] at i ⊢
    exact i
set_option maxHeartbeats 8000000 in
theorem by43 (c : Cmd) (ok : okC c = true) (h : H) (hk : Hok h) : Wp (R 43 [.agg c.en] h) fun r h' => r = .str (cby c) ∧ Fr [] h h' := by
  refine R43 rfl ?_
  rw [S43_eq]
  have s := Mm.base hk
  obtain ⟨⟨a1, a2⟩, ⟨a3, a4⟩, ⟨a5, a6⟩, a7, a8, a9⟩ := okC_facts ok
  have l1 := lebS_size c.s.toNat
  have l2 := lebS_size c.n.toNat
  have es : c.s = ((c.s.toNat : Nat) : Int) := by omega
  have en : c.n = ((c.n.toNat : Nat) : Int) := by omega
  have eo : c.o = ((c.o.toNat : Nat) : Int) := by omega
  repeat (first
   | ((with_reducible refine Wp.gb ?_); refine Wp.b (by first | (with_reducible first | exact fA_p (by assumption) | exact fA_o (by assumption) | exact nilC_ptr (by assumption) | exact bin_lss .. | exact bin_leq .. | exact bin_gtr .. | exact bin_geq .. | exact bin_eql .. | exact bin_neq .. | exact bin_add .. | exact bin_sub .. | exact bin_mul .. | exact str_eql .. | exact str_neq .. | exact str_lss .. | exact str_gtr .. | exact str_geq .. | exact str_leq .. | exact not_bool .. | exact lenS_str .. | assumption) | exact (show extV (.tup _) _ = some _ from rfl) | exact s.ld1 0 rfl (by assumption) _ rfl | exact s.ld1 1 rfl (by assumption) _ rfl | exact s.ld1 2 rfl (by assumption) _ rfl | exact s.ld1 3 rfl (by assumption) _ rfl | exact s.ld1 4 rfl (by assumption) _ rfl | exact s.ld1 5 rfl (by assumption) _ rfl | exact s.ld1 6 rfl (by assumption) _ rfl | exact s.ld1 7 rfl (by assumption) _ rfl | exact s.ld1 8 rfl (by assumption) _ rfl | exact s.ld1 9 rfl (by assumption) _ rfl | exact s.ld1 10 rfl (by assumption) _ rfl | exact s.ld1 11 rfl (by assumption) _ rfl | exact bload_ld1 (by assumption) _ rfl | exact bload_ldn (by assumption) _ _ (Nat.le_refl _) | exact (show bldV _ _ = some _ from rfl) | ((first | apply s.ldn 0 rfl | apply s.ldn 1 rfl | apply s.ldn 2 rfl | apply s.ldn 3 rfl | apply s.ldn 4 rfl | apply s.ldn 5 rfl | apply s.ldn 6 rfl | apply s.ldn 7 rfl | apply s.ldn 8 rfl | apply s.ldn 9 rfl | apply s.ldn 10 rfl | apply s.ldn 11 rfl); (· assumption); (· first | exact Nat.le_refl _ | decide | (simp; done)); (· rfl))) ?_)
   | (with_reducible first | refine Wp.onT (by assumption) ?_ | refine Wp.onF (by assumption) ?_ | refine Wp.spT (by assumption) ?_ | refine Wp.spF (by assumption) ?_)
   | ((with_reducible refine Wp.gbx ?_); refine Wp.box s rfl fun _p _g _p0 _F s => ?_)
   | ((with_reducible refine Wp.gal ?_); refine Wp.alo s fun _p _g _p0 _F s => ?_))
  refine Wp.b (cvI_int _ _ _) ?_
  rw [show IntKind.u8.wrap c.o = ((c.o.toNat : Nat) : Int) by rw [eo]; exact w8 (by omega)]
  rw [show V.int .i64 c.s = V.int .i64 ((c.s.toNat : Nat) : Int) by rw [← es], show V.int .i64 c.n = V.int .i64 ((c.n.toNat : Nat) : Int) by rw [← en]]
  refine Wp.b (pc69 _ (by omega)) ?_
  refine Wp.b (pc69 _ (by omega)) ?_
  refine Wp.b (str_add _ _ _ _ (by omega)) ?_
  refine Wp.lit s [UInt8.ofNat c.o.toNat] (by show _ = some [V.int .u8 ((UInt8.ofNat c.o.toNat).toNat : Nat)]; rw [u8_nat (by omega)]; rfl) rfl rfl fun w j _g oo nn _F s' => ?_
  have p0 := (s.blk (i := 0) rfl (by assumption)).2.1
  refine Wp.pd _F (by assumption) p0 ?_
  refine Wp.pd _F (by assumption) p0 ?_
  refine Wp.pd _F (by assumption) p0 ?_
  refine Wp.b (s'.rv 0 oo rfl).bytes ?_
  have z1 : (ByteArray.mk [UInt8.ofNat c.o.toNat].toArray).size = 1 := rfl
  refine Wp.b (str_add _ _ _ _ (by rw [ByteArray.size_append]; omega)) ?_
  replace s := s'
  repeat (first
   | ((with_reducible refine Wp.gb ?_); refine Wp.b (by first | (with_reducible first | exact fA_p (by assumption) | exact fA_o (by assumption) | exact nilC_ptr (by assumption) | exact bin_lss .. | exact bin_leq .. | exact bin_gtr .. | exact bin_geq .. | exact bin_eql .. | exact bin_neq .. | exact bin_add .. | exact bin_sub .. | exact bin_mul .. | exact str_eql .. | exact str_neq .. | exact str_lss .. | exact str_gtr .. | exact str_geq .. | exact str_leq .. | exact not_bool .. | exact lenS_str .. | assumption) | exact (show extV (.tup _) _ = some _ from rfl) | exact s.ld1 0 rfl (by assumption) _ rfl | exact s.ld1 1 rfl (by assumption) _ rfl | exact s.ld1 2 rfl (by assumption) _ rfl | exact s.ld1 3 rfl (by assumption) _ rfl | exact s.ld1 4 rfl (by assumption) _ rfl | exact s.ld1 5 rfl (by assumption) _ rfl | exact s.ld1 6 rfl (by assumption) _ rfl | exact s.ld1 7 rfl (by assumption) _ rfl | exact s.ld1 8 rfl (by assumption) _ rfl | exact s.ld1 9 rfl (by assumption) _ rfl | exact s.ld1 10 rfl (by assumption) _ rfl | exact s.ld1 11 rfl (by assumption) _ rfl | exact bload_ld1 (by assumption) _ rfl | exact bload_ldn (by assumption) _ _ (Nat.le_refl _) | exact (show bldV _ _ = some _ from rfl) | ((first | apply s.ldn 0 rfl | apply s.ldn 1 rfl | apply s.ldn 2 rfl | apply s.ldn 3 rfl | apply s.ldn 4 rfl | apply s.ldn 5 rfl | apply s.ldn 6 rfl | apply s.ldn 7 rfl | apply s.ldn 8 rfl | apply s.ldn 9 rfl | apply s.ldn 10 rfl | apply s.ldn 11 rfl); (· assumption); (· first | exact Nat.le_refl _ | decide | (simp; done)); (· rfl))) ?_)
   | (with_reducible first | refine Wp.onT (by assumption) ?_ | refine Wp.onF (by assumption) ?_ | refine Wp.spT (by assumption) ?_ | refine Wp.spF (by assumption) ?_)
   | ((with_reducible refine Wp.gbx ?_); refine Wp.box s rfl fun _p _g _p0 _F s => ?_)
   | ((with_reducible refine Wp.gal ?_); refine Wp.alo s fun _p _g _p0 _F s => ?_))
  refine Wp.lit s ([c.k, c.v, c.d] : List ByteArray) rfl rfl rfl fun u iu _g ou nu _F s => ?_
  have _c := ou.cells
  have _n := ou.nt
  refine Wp.b ou.len ?_
  refine (l43 u (h0 := h) [c.k, c.v, c.d] [] (by simp) (by simp; omega) _ _ (by simp only [ByteArray.size_append, List.length_cons, List.length_nil]; omega) s.k s.F (s.rv 0 ou rfl)).mono ?_
  rintro r h' ⟨rfl, F⟩
  refine ⟨?_, F⟩
  simp only [cby, List.foldl_cons, List.foldl_nil, ByteArray.append_assoc]
theorem by17 (c : Cmd) (h : H) (hk : Hok h) : Wp (R 17 [.agg c.en] h) fun r h' => r = .tup [.str (if okC c then cby c else ⟨#[]⟩), .bool (okC c)] ∧ Fr [] h h' := by
  refine R17 rfl ?_
  rw [S17_eq]
  have s := Mm.base hk
  repeat (first
   | ((with_reducible refine Wp.gb ?_); refine Wp.b (by first | (with_reducible first | exact fA_p (by assumption) | exact fA_o (by assumption) | exact nilC_ptr (by assumption) | exact bin_lss .. | exact bin_leq .. | exact bin_gtr .. | exact bin_geq .. | exact bin_eql .. | exact bin_neq .. | exact bin_add .. | exact bin_sub .. | exact bin_mul .. | exact str_eql .. | exact str_neq .. | exact str_lss .. | exact str_gtr .. | exact str_geq .. | exact str_leq .. | exact not_bool .. | exact lenS_str .. | assumption) | exact (show extV (.tup _) _ = some _ from rfl) | exact s.ld1 0 rfl (by assumption) _ rfl | exact s.ld1 1 rfl (by assumption) _ rfl | exact s.ld1 2 rfl (by assumption) _ rfl | exact s.ld1 3 rfl (by assumption) _ rfl | exact s.ld1 4 rfl (by assumption) _ rfl | exact s.ld1 5 rfl (by assumption) _ rfl | exact s.ld1 6 rfl (by assumption) _ rfl | exact s.ld1 7 rfl (by assumption) _ rfl | exact s.ld1 8 rfl (by assumption) _ rfl | exact s.ld1 9 rfl (by assumption) _ rfl | exact s.ld1 10 rfl (by assumption) _ rfl | exact s.ld1 11 rfl (by assumption) _ rfl | exact bload_ld1 (by assumption) _ rfl | exact bload_ldn (by assumption) _ _ (Nat.le_refl _) | exact (show bldV _ _ = some _ from rfl) | ((first | apply s.ldn 0 rfl | apply s.ldn 1 rfl | apply s.ldn 2 rfl | apply s.ldn 3 rfl | apply s.ldn 4 rfl | apply s.ldn 5 rfl | apply s.ldn 6 rfl | apply s.ldn 7 rfl | apply s.ldn 8 rfl | apply s.ldn 9 rfl | apply s.ldn 10 rfl | apply s.ldn 11 rfl); (· assumption); (· first | exact Nat.le_refl _ | decide | (simp; done)); (· rfl))) ?_)
   | (with_reducible first | refine Wp.onT (by assumption) ?_ | refine Wp.onF (by assumption) ?_ | refine Wp.spT (by assumption) ?_ | refine Wp.spF (by assumption) ?_)
   | ((with_reducible refine Wp.gbx ?_); refine Wp.box s rfl fun _p _g _p0 _F s => ?_)
   | ((with_reducible refine Wp.gal ?_); refine Wp.alo s fun _p _g _p0 _F s => ?_))
  refine Wp.b (c42 c _ s.k) ?_
  replace s := s.fr0 ((Fr.refl [] _).new c.en)
  dsimp only
  by_cases ok : okC c = true
  · rw [ok]
    repeat (first
     | ((with_reducible refine Wp.gb ?_); refine Wp.b (by first | (with_reducible first | exact fA_p (by assumption) | exact fA_o (by assumption) | exact nilC_ptr (by assumption) | exact bin_lss .. | exact bin_leq .. | exact bin_gtr .. | exact bin_geq .. | exact bin_eql .. | exact bin_neq .. | exact bin_add .. | exact bin_sub .. | exact bin_mul .. | exact str_eql .. | exact str_neq .. | exact str_lss .. | exact str_gtr .. | exact str_geq .. | exact str_leq .. | exact not_bool .. | exact lenS_str .. | assumption) | exact (show extV (.tup _) _ = some _ from rfl) | exact s.ld1 0 rfl (by assumption) _ rfl | exact s.ld1 1 rfl (by assumption) _ rfl | exact s.ld1 2 rfl (by assumption) _ rfl | exact s.ld1 3 rfl (by assumption) _ rfl | exact s.ld1 4 rfl (by assumption) _ rfl | exact s.ld1 5 rfl (by assumption) _ rfl | exact s.ld1 6 rfl (by assumption) _ rfl | exact s.ld1 7 rfl (by assumption) _ rfl | exact s.ld1 8 rfl (by assumption) _ rfl | exact s.ld1 9 rfl (by assumption) _ rfl | exact s.ld1 10 rfl (by assumption) _ rfl | exact s.ld1 11 rfl (by assumption) _ rfl | exact bload_ld1 (by assumption) _ rfl | exact bload_ldn (by assumption) _ _ (Nat.le_refl _) | exact (show bldV _ _ = some _ from rfl) | ((first | apply s.ldn 0 rfl | apply s.ldn 1 rfl | apply s.ldn 2 rfl | apply s.ldn 3 rfl | apply s.ldn 4 rfl | apply s.ldn 5 rfl | apply s.ldn 6 rfl | apply s.ldn 7 rfl | apply s.ldn 8 rfl | apply s.ldn 9 rfl | apply s.ldn 10 rfl | apply s.ldn 11 rfl); (· assumption); (· first | exact Nat.le_refl _ | decide | (simp; done)); (· rfl))) ?_)
     | (with_reducible first | refine Wp.onT (by assumption) ?_ | refine Wp.onF (by assumption) ?_ | refine Wp.spT (by assumption) ?_ | refine Wp.spF (by assumption) ?_)
     | ((with_reducible refine Wp.gbx ?_); refine Wp.box s rfl fun _p _g _p0 _F s => ?_)
     | ((with_reducible refine Wp.gal ?_); refine Wp.alo s fun _p _g _p0 _F s => ?_))
    refine Wp.onF rfl ?_
    repeat (first
     | ((with_reducible refine Wp.gb ?_); refine Wp.b (by first | (with_reducible first | exact fA_p (by assumption) | exact fA_o (by assumption) | exact nilC_ptr (by assumption) | exact bin_lss .. | exact bin_leq .. | exact bin_gtr .. | exact bin_geq .. | exact bin_eql .. | exact bin_neq .. | exact bin_add .. | exact bin_sub .. | exact bin_mul .. | exact str_eql .. | exact str_neq .. | exact str_lss .. | exact str_gtr .. | exact str_geq .. | exact str_leq .. | exact not_bool .. | exact lenS_str .. | assumption) | exact (show extV (.tup _) _ = some _ from rfl) | exact s.ld1 0 rfl (by assumption) _ rfl | exact s.ld1 1 rfl (by assumption) _ rfl | exact s.ld1 2 rfl (by assumption) _ rfl | exact s.ld1 3 rfl (by assumption) _ rfl | exact s.ld1 4 rfl (by assumption) _ rfl | exact s.ld1 5 rfl (by assumption) _ rfl | exact s.ld1 6 rfl (by assumption) _ rfl | exact s.ld1 7 rfl (by assumption) _ rfl | exact s.ld1 8 rfl (by assumption) _ rfl | exact s.ld1 9 rfl (by assumption) _ rfl | exact s.ld1 10 rfl (by assumption) _ rfl | exact s.ld1 11 rfl (by assumption) _ rfl | exact bload_ld1 (by assumption) _ rfl | exact bload_ldn (by assumption) _ _ (Nat.le_refl _) | exact (show bldV _ _ = some _ from rfl) | ((first | apply s.ldn 0 rfl | apply s.ldn 1 rfl | apply s.ldn 2 rfl | apply s.ldn 3 rfl | apply s.ldn 4 rfl | apply s.ldn 5 rfl | apply s.ldn 6 rfl | apply s.ldn 7 rfl | apply s.ldn 8 rfl | apply s.ldn 9 rfl | apply s.ldn 10 rfl | apply s.ldn 11 rfl); (· assumption); (· first | exact Nat.le_refl _ | decide | (simp; done)); (· rfl))) ?_)
     | (with_reducible first | refine Wp.onT (by assumption) ?_ | refine Wp.onF (by assumption) ?_ | refine Wp.spT (by assumption) ?_ | refine Wp.spF (by assumption) ?_)
     | ((with_reducible refine Wp.gbx ?_); refine Wp.box s rfl fun _p _g _p0 _F s => ?_)
     | ((with_reducible refine Wp.gal ?_); refine Wp.alo s fun _p _g _p0 _F s => ?_))
    refine Wp.bind (by43 c ok _ s.k) ?_
    rintro _ g2 ⟨rfl, F2⟩
    exact Wp.r2 rfl rfl rfl rfl ⟨by simp, (s.fr0 F2).F⟩
  · have ok : okC c = false := by simpa using ok
    rw [ok]
    repeat (first
     | ((with_reducible refine Wp.gb ?_); refine Wp.b (by first | (with_reducible first | exact fA_p (by assumption) | exact fA_o (by assumption) | exact nilC_ptr (by assumption) | exact bin_lss .. | exact bin_leq .. | exact bin_gtr .. | exact bin_geq .. | exact bin_eql .. | exact bin_neq .. | exact bin_add .. | exact bin_sub .. | exact bin_mul .. | exact str_eql .. | exact str_neq .. | exact str_lss .. | exact str_gtr .. | exact str_geq .. | exact str_leq .. | exact not_bool .. | exact lenS_str .. | assumption) | exact (show extV (.tup _) _ = some _ from rfl) | exact s.ld1 0 rfl (by assumption) _ rfl | exact s.ld1 1 rfl (by assumption) _ rfl | exact s.ld1 2 rfl (by assumption) _ rfl | exact s.ld1 3 rfl (by assumption) _ rfl | exact s.ld1 4 rfl (by assumption) _ rfl | exact s.ld1 5 rfl (by assumption) _ rfl | exact s.ld1 6 rfl (by assumption) _ rfl | exact s.ld1 7 rfl (by assumption) _ rfl | exact s.ld1 8 rfl (by assumption) _ rfl | exact s.ld1 9 rfl (by assumption) _ rfl | exact s.ld1 10 rfl (by assumption) _ rfl | exact s.ld1 11 rfl (by assumption) _ rfl | exact bload_ld1 (by assumption) _ rfl | exact bload_ldn (by assumption) _ _ (Nat.le_refl _) | exact (show bldV _ _ = some _ from rfl) | ((first | apply s.ldn 0 rfl | apply s.ldn 1 rfl | apply s.ldn 2 rfl | apply s.ldn 3 rfl | apply s.ldn 4 rfl | apply s.ldn 5 rfl | apply s.ldn 6 rfl | apply s.ldn 7 rfl | apply s.ldn 8 rfl | apply s.ldn 9 rfl | apply s.ldn 10 rfl | apply s.ldn 11 rfl); (· assumption); (· first | exact Nat.le_refl _ | decide | (simp; done)); (· rfl))) ?_)
     | (with_reducible first | refine Wp.onT (by assumption) ?_ | refine Wp.onF (by assumption) ?_ | refine Wp.spT (by assumption) ?_ | refine Wp.spF (by assumption) ?_)
     | ((with_reducible refine Wp.gbx ?_); refine Wp.box s rfl fun _p _g _p0 _F s => ?_)
     | ((with_reducible refine Wp.gal ?_); refine Wp.alo s fun _p _g _p0 _F s => ?_))
    refine Wp.onT rfl ?_
    exact Wp.r2 rfl rfl rfl rfl ⟨rfl, s.F⟩
end Go.Proofs.Ythoabddfionmoaa.AH
