/- PRINTED BY exgen.py (this session's own program): contracts of the exact laws' helpers. No condition. -/
import Derived.Test.YthoabddfionmoaaE1
set_option linter.unusedVariables false
set_option linter.unusedSimpArgs false
set_option maxRecDepth 100000
namespace Go.Proofs.Ythoabddfionmoaa.AH
open Go Go.RowKit
/-- The marks of one. -/
def mkPair (k : Nat) : Pr := ⟨mt k, mt (k + 1)⟩
/-- The marks of n of them. -/
def mkLPair : Nat → Nat → List Pr
  | _, 0 => []
  | k, n + 1 => mkPair k :: mkLPair (k + 2) n
theorem mkLPair_len : ∀ (k n : Nat), (mkLPair k n).length = n
  | _, 0 => rfl
  | k, n + 1 => by simp [mkLPair, mkLPair_len]
/-- The marks of one. -/
def mkReply (k : Nat) : Rp := ⟨((k : Nat) : Int), mt (k + 1)⟩
/-- The marks of n of them. -/
def mkLReply : Nat → Nat → List Rp
  | _, 0 => []
  | k, n + 1 => mkReply k :: mkLReply (k + 2) n
theorem mkLReply_len : ∀ (k n : Nat), (mkLReply k n).length = n
  | _, 0 => rfl
  | k, n + 1 => by simp [mkLReply, mkLReply_len]
/-- The marks of one. -/
def mkSession (k : Nat) : Se := ⟨((k : Nat) : Int), (((k + 1) : Nat) : Int), ⟨(((k + 2) : Nat) : Int), mt (k + 3)⟩⟩
/-- The marks of n of them. -/
def mkLSession : Nat → Nat → List Se
  | _, 0 => []
  | k, n + 1 => mkSession k :: mkLSession (k + 4) n
theorem mkLSession_len : ∀ (k n : Nat), (mkLSession k n).length = n
  | _, 0 => rfl
  | k, n + 1 => by simp [mkLSession, mkLSession_len]
theorem ePairS_l (v w : V) : ∀ (B B' A A' : List Pr), A.length = A'.length → B.length = B'.length → A.length + B.length ≤ 4611686018427387904 → ∀ h, Hok h → RV h v (A ++ B) → RV h w (A' ++ B') →
    Wp (S51_l4 R v w (.int .i64 A.length) h) fun r h' => r = .bool (decide (B = B')) ∧ Fr [] h h'
  | [], [], A, A', ha, hb, hn, h, hk, r, r' => by
    rw [S51_l4_eq]
    refine Wp.b r.len (Wp.b (bin_lss _ _ _ _ _) (Wp.onF (by simp) (Wp.r1 rfl rfl ⟨by simp, Fr.refl _ _⟩)))
  | x :: B, y :: B', A, A', ha, hb, hn, h, hk, r, r' => by
    rw [S51_l4_eq]
    obtain ⟨b, o, b0, bl, e1, e2⟩ := r.mid
    obtain ⟨c, p, c0, cl, f1, f2⟩ := r'.mid
    rw [← ha] at f1
    simp only [List.length_cons] at hn hb
    refine Wp.b r.len (Wp.b (bin_lss _ _ _ _ _) (Wp.onT (by simp; omega) ?_))
    have g1 := bload_ldn e2 0 2 (Nat.le_refl _)
    have g2 := bload_ldn f2 0 2 (Nat.le_refl _)
    refine Wp.b e1 (Wp.b g1 (Wp.b f1 (Wp.b g2 ?_)))
    refine Wp.bind (ePair x y h hk) ?_
    rintro _ h1 ⟨rfl, F1⟩
    refine Wp.b (not_bool _) (Wp.on (fun hc => ?_) (fun hc => ?_))
    · have : x ≠ y := by simpa using hc
      exact Wp.r1 rfl rfl ⟨by simp [this], F1⟩
    · have : x = y := by simpa using hc
      subst this
      refine Wp.b (bin_add _ _ _ _ _) ?_
      rw [inc64 (by omega)]
      have i1 := ePairS_l v w B B' (A ++ [x]) (A' ++ [x]) (by simp [ha]) (by omega) (by simp; omega) h1 (F1.ok hk) (by simpa using r.fr F1) (by simpa using r'.fr F1)
      rw [List.length_append, List.length_singleton] at i1
      exact i1.mono fun r h'' ⟨q, F'⟩ => ⟨by rw [q]; simp, F1.trans0 F'⟩
  | [], y :: B', A, A', ha, hb, hn, h, hk, r, r' => by simp at hb
  | x :: B, [], A, A', ha, hb, hn, h, hk, r, r' => by simp at hb
theorem ePairS (l m : List Pr) (hn : l.length ≤ 4611686018427387904) (hm : m.length ≤ 4611686018427387904) (v w : V) (h : H) (hk : Hok h) (r : RV h v l) (r' : RV h w m) :
    Wp (R 51 [v, w] h) fun r h' => r = .bool (decide (l = m)) ∧ Fr [] h h' := by
  refine R51 rfl ?_
  rw [S51_eq]
  refine Wp.b r.len (Wp.b r'.len (Wp.b (bin_neq _ _ _ _ _) (Wp.on (fun hc => ?_) (fun hc => ?_))))
  · have : l ≠ m := by rintro rfl; simp at hc
    exact Wp.r1 rfl rfl ⟨by simp [this], Fr.refl _ _⟩
  · have hl : l.length = m.length := by simp at hc; omega
    have := ePairS_l v w l m [] [] rfl hl (by simpa using hn) h hk (by simpa using r) (by simpa using r')
    simpa using this
theorem eReplyS_l (v w : V) : ∀ (B B' A A' : List Rp), A.length = A'.length → B.length = B'.length → A.length + B.length ≤ 4611686018427387904 → ∀ h, Hok h → RV h v (A ++ B) → RV h w (A' ++ B') →
    Wp (S25_l4 R v w (.int .i64 A.length) h) fun r h' => r = .bool (decide (B = B')) ∧ Fr [] h h'
  | [], [], A, A', ha, hb, hn, h, hk, r, r' => by
    rw [S25_l4_eq]
    refine Wp.b r.len (Wp.b (bin_lss _ _ _ _ _) (Wp.onF (by simp) (Wp.r1 rfl rfl ⟨by simp, Fr.refl _ _⟩)))
  | x :: B, y :: B', A, A', ha, hb, hn, h, hk, r, r' => by
    rw [S25_l4_eq]
    obtain ⟨b, o, b0, bl, e1, e2⟩ := r.mid
    obtain ⟨c, p, c0, cl, f1, f2⟩ := r'.mid
    rw [← ha] at f1
    simp only [List.length_cons] at hn hb
    refine Wp.b r.len (Wp.b (bin_lss _ _ _ _ _) (Wp.onT (by simp; omega) ?_))
    have g1 := bload_ldn e2 0 2 (Nat.le_refl _)
    have g2 := bload_ldn f2 0 2 (Nat.le_refl _)
    refine Wp.b e1 (Wp.b g1 (Wp.b f1 (Wp.b g2 ?_)))
    refine Wp.bind (eReply x y h hk) ?_
    rintro _ h1 ⟨rfl, F1⟩
    refine Wp.b (not_bool _) (Wp.on (fun hc => ?_) (fun hc => ?_))
    · have : x ≠ y := by simpa using hc
      exact Wp.r1 rfl rfl ⟨by simp [this], F1⟩
    · have : x = y := by simpa using hc
      subst this
      refine Wp.b (bin_add _ _ _ _ _) ?_
      rw [inc64 (by omega)]
      have i1 := eReplyS_l v w B B' (A ++ [x]) (A' ++ [x]) (by simp [ha]) (by omega) (by simp; omega) h1 (F1.ok hk) (by simpa using r.fr F1) (by simpa using r'.fr F1)
      rw [List.length_append, List.length_singleton] at i1
      exact i1.mono fun r h'' ⟨q, F'⟩ => ⟨by rw [q]; simp, F1.trans0 F'⟩
  | [], y :: B', A, A', ha, hb, hn, h, hk, r, r' => by simp at hb
  | x :: B, [], A, A', ha, hb, hn, h, hk, r, r' => by simp at hb
theorem eReplyS (l m : List Rp) (hn : l.length ≤ 4611686018427387904) (hm : m.length ≤ 4611686018427387904) (v w : V) (h : H) (hk : Hok h) (r : RV h v l) (r' : RV h w m) :
    Wp (R 25 [v, w] h) fun r h' => r = .bool (decide (l = m)) ∧ Fr [] h h' := by
  refine R25 rfl ?_
  rw [S25_eq]
  refine Wp.b r.len (Wp.b r'.len (Wp.b (bin_neq _ _ _ _ _) (Wp.on (fun hc => ?_) (fun hc => ?_))))
  · have : l ≠ m := by rintro rfl; simp at hc
    exact Wp.r1 rfl rfl ⟨by simp [this], Fr.refl _ _⟩
  · have hl : l.length = m.length := by simp at hc; omega
    have := eReplyS_l v w l m [] [] rfl hl (by simpa using hn) h hk (by simpa using r) (by simpa using r')
    simpa using this
theorem eSessionS_l (v w : V) : ∀ (B B' A A' : List Se), A.length = A'.length → B.length = B'.length → A.length + B.length ≤ 4611686018427387904 → ∀ h, Hok h → RV h v (A ++ B) → RV h w (A' ++ B') →
    Wp (S52_l4 R v w (.int .i64 A.length) h) fun r h' => r = .bool (decide (B = B')) ∧ Fr [] h h'
  | [], [], A, A', ha, hb, hn, h, hk, r, r' => by
    rw [S52_l4_eq]
    refine Wp.b r.len (Wp.b (bin_lss _ _ _ _ _) (Wp.onF (by simp) (Wp.r1 rfl rfl ⟨by simp, Fr.refl _ _⟩)))
  | x :: B, y :: B', A, A', ha, hb, hn, h, hk, r, r' => by
    rw [S52_l4_eq]
    obtain ⟨b, o, b0, bl, e1, e2⟩ := r.mid
    obtain ⟨c, p, c0, cl, f1, f2⟩ := r'.mid
    rw [← ha] at f1
    simp only [List.length_cons] at hn hb
    refine Wp.b r.len (Wp.b (bin_lss _ _ _ _ _) (Wp.onT (by simp; omega) ?_))
    have g1 := bload_ldn e2 0 4 (Nat.le_refl _)
    have g2 := bload_ldn f2 0 4 (Nat.le_refl _)
    refine Wp.b e1 (Wp.b g1 (Wp.b f1 (Wp.b g2 ?_)))
    refine Wp.bind (eSession x y h hk) ?_
    rintro _ h1 ⟨rfl, F1⟩
    refine Wp.b (not_bool _) (Wp.on (fun hc => ?_) (fun hc => ?_))
    · have : x ≠ y := by simpa using hc
      exact Wp.r1 rfl rfl ⟨by simp [this], F1⟩
    · have : x = y := by simpa using hc
      subst this
      refine Wp.b (bin_add _ _ _ _ _) ?_
      rw [inc64 (by omega)]
      have i1 := eSessionS_l v w B B' (A ++ [x]) (A' ++ [x]) (by simp [ha]) (by omega) (by simp; omega) h1 (F1.ok hk) (by simpa using r.fr F1) (by simpa using r'.fr F1)
      rw [List.length_append, List.length_singleton] at i1
      exact i1.mono fun r h'' ⟨q, F'⟩ => ⟨by rw [q]; simp, F1.trans0 F'⟩
  | [], y :: B', A, A', ha, hb, hn, h, hk, r, r' => by simp at hb
  | x :: B, [], A, A', ha, hb, hn, h, hk, r, r' => by simp at hb
theorem eSessionS (l m : List Se) (hn : l.length ≤ 4611686018427387904) (hm : m.length ≤ 4611686018427387904) (v w : V) (h : H) (hk : Hok h) (r : RV h v l) (r' : RV h w m) :
    Wp (R 52 [v, w] h) fun r h' => r = .bool (decide (l = m)) ∧ Fr [] h h' := by
  refine R52 rfl ?_
  rw [S52_eq]
  refine Wp.b r.len (Wp.b r'.len (Wp.b (bin_neq _ _ _ _ _) (Wp.on (fun hc => ?_) (fun hc => ?_))))
  · have : l ≠ m := by rintro rfl; simp at hc
    exact Wp.r1 rfl rfl ⟨by simp [this], Fr.refl _ _⟩
  · have hl : l.length = m.length := by simp at hc; omega
    have := eSessionS_l v w l m [] [] rfl hl (by simpa using hn) h hk (by simpa using r) (by simpa using r')
    simpa using this
theorem mPairS_l {h0 : H} (v : V) (ix : Nat) : ∀ (B A : List Pr) (k : Nat) (g : H) (M : List (Nat × List V)) (id : Nat), 1 ≤ k → k + 2 * B.length ≤ 1073741824 → A.length + B.length ≤ 1073741824 → Mm h0 g M → OV v (A ++ B) id → M[ix]? = some (id, flat (A ++ B)) →
    Wp (S54_l2 R v (.int .i64 k) (.int .i64 A.length) g) fun r g' => r = .int .i64 ((k + 2 * B.length : Nat) : Int) ∧ Mm h0 g' (M.set ix (id, flat (A ++ mkLPair k B.length))) ∧ OV v (A ++ mkLPair k B.length) id
  | [], A, k, g, M, id, hk1, hk, hn, s, ov, hx => by
    rw [S54_l2_eq]
    have e : M.set ix (id, flat A) = M := by
      obtain ⟨h1, h2⟩ := List.getElem?_eq_some_iff.1 hx
      rw [List.append_nil] at h2
      rw [← h2]; exact List.set_getElem_self h1
    refine Wp.b ov.len (Wp.b (bin_lss _ _ _ _ _) (Wp.onF (by simp) (Wp.r1 rfl rfl ⟨by simp, ?_, ?_⟩)))
    · simp only [List.length_nil, mkLPair, List.append_nil, e]; exact s
    · simpa only [List.length_nil, mkLPair] using ov
  | x :: B, A, k, g, M, id, hk1, hk, hn, s, ov, hx => by
    rw [S54_l2_eq]
    simp only [List.length_cons] at hk hn
    have p := ov.mid
    refine Wp.b ov.len (Wp.b (bin_lss _ _ _ _ _) (Wp.onT (by simp; omega) ?_))
    refine Wp.bind (mText k (by omega) (by omega) _ s.k) ?_
    rintro _ g0_ ⟨rfl, F0_⟩
    replace s := s.fr0 F0_
    refine Wp.b p.2 ?_
    refine Wp.b (fA_o p.1) ?_
    refine Wp.elm (n := 1) s ix ov hx ({ x with k := mt k } : Pr) 0 rfl rfl (by decide) (by first | rfl | omega) rfl ?_
    intro g0 F0 ov s
    have hx := (List.getElem?_set_self (a := (id, flat (A ++ ({ x with k := mt k } : Pr) :: B))) (List.getElem?_eq_some_iff.1 hx).1)
    refine Wp.b (bin_add _ _ _ _ _) ?_
    rw [inc64 (by omega)]
    refine Wp.bind (mText (k + 1) (by omega) (by omega) _ s.k) ?_
    rintro _ g1_ ⟨rfl, F1_⟩
    replace s := s.fr0 F1_
    refine Wp.b p.2 ?_
    refine Wp.b (fA_o p.1) ?_
    refine Wp.elm (n := 1) s ix ov hx ({ ({ x with k := mt k } : Pr) with v := mt (k + 1) } : Pr) 1 rfl rfl (by decide) (by first | rfl | omega) rfl ?_
    intro g1 F1 ov s
    have hx := (List.getElem?_set_self (a := (id, flat (A ++ ({ ({ x with k := mt k } : Pr) with v := mt (k + 1) } : Pr) :: B))) (List.getElem?_eq_some_iff.1 hx).1)
    refine Wp.b (bin_add _ _ _ _ _) ?_
    rw [inc64 (by omega)]
    refine Wp.b (bin_add _ _ _ _ _) ?_
    rw [inc64 (by omega)]
    simp only [List.set_set] at s hx
    have i1 := mPairS_l v ix B (A ++ [mkPair k]) (k + 2) _ _ id (by omega) (by omega) (by simp; omega) s (by simpa [mkPair] using ov) (by simpa [mkPair] using hx)
    rw [List.length_append, List.length_singleton] at i1
    simp only [List.set_set, List.append_assoc, List.singleton_append] at i1
    have e1 : k + 2 + 2 * B.length = k + 2 * (B.length + 1) := by omega
    rw [e1] at i1
    simp only [List.length_cons, mkLPair]
    exact i1
theorem mPairS {h0 g : H} {M : List (Nat × List V)} (s : Mm h0 g M) (ix : Nat) {v : V} {l : List Pr} {id : Nat} (ov : OV v l id) (hx : M[ix]? = some (id, flat l)) (k : Nat) (hk1 : 1 ≤ k) (hk : k + 2 * l.length ≤ 1073741824) :
    Wp (R 54 [v, .int .i64 k] g) fun r g' => r = .int .i64 ((k + 2 * l.length : Nat) : Int) ∧ Mm h0 g' (M.set ix (id, flat (mkLPair k l.length))) ∧ OV v (mkLPair k l.length) id := by
  refine R54 rfl ?_
  rw [S54_eq]
  exact mPairS_l v ix l [] k g M id hk1 hk (by simp; omega) s ov hx
theorem mReplyS_l {h0 : H} (v : V) (ix : Nat) : ∀ (B A : List Rp) (k : Nat) (g : H) (M : List (Nat × List V)) (id : Nat), 1 ≤ k → k + 2 * B.length ≤ 1073741824 → A.length + B.length ≤ 1073741824 → Mm h0 g M → OV v (A ++ B) id → M[ix]? = some (id, flat (A ++ B)) →
    Wp (S27_l2 R v (.int .i64 k) (.int .i64 A.length) g) fun r g' => r = .int .i64 ((k + 2 * B.length : Nat) : Int) ∧ Mm h0 g' (M.set ix (id, flat (A ++ mkLReply k B.length))) ∧ OV v (A ++ mkLReply k B.length) id
  | [], A, k, g, M, id, hk1, hk, hn, s, ov, hx => by
    rw [S27_l2_eq]
    have e : M.set ix (id, flat A) = M := by
      obtain ⟨h1, h2⟩ := List.getElem?_eq_some_iff.1 hx
      rw [List.append_nil] at h2
      rw [← h2]; exact List.set_getElem_self h1
    refine Wp.b ov.len (Wp.b (bin_lss _ _ _ _ _) (Wp.onF (by simp) (Wp.r1 rfl rfl ⟨by simp, ?_, ?_⟩)))
    · simp only [List.length_nil, mkLReply, List.append_nil, e]; exact s
    · simpa only [List.length_nil, mkLReply] using ov
  | x :: B, A, k, g, M, id, hk1, hk, hn, s, ov, hx => by
    rw [S27_l2_eq]
    simp only [List.length_cons] at hk hn
    have p := ov.mid
    refine Wp.b ov.len (Wp.b (bin_lss _ _ _ _ _) (Wp.onT (by simp; omega) ?_))
    refine Wp.b p.2 ?_
    refine Wp.b (fA_o p.1) ?_
    refine Wp.elm (n := 1) s ix ov hx ({ x with c := ((k : Nat) : Int) } : Rp) 0 rfl rfl (by decide) (by first | rfl | omega) rfl ?_
    intro g0 F0 ov s
    have hx := (List.getElem?_set_self (a := (id, flat (A ++ ({ x with c := ((k : Nat) : Int) } : Rp) :: B))) (List.getElem?_eq_some_iff.1 hx).1)
    refine Wp.b (bin_add _ _ _ _ _) ?_
    rw [inc64 (by omega)]
    refine Wp.bind (mText (k + 1) (by omega) (by omega) _ s.k) ?_
    rintro _ g1_ ⟨rfl, F1_⟩
    replace s := s.fr0 F1_
    refine Wp.b p.2 ?_
    refine Wp.b (fA_o p.1) ?_
    refine Wp.elm (n := 1) s ix ov hx ({ ({ x with c := ((k : Nat) : Int) } : Rp) with v := mt (k + 1) } : Rp) 1 rfl rfl (by decide) (by first | rfl | omega) rfl ?_
    intro g1 F1 ov s
    have hx := (List.getElem?_set_self (a := (id, flat (A ++ ({ ({ x with c := ((k : Nat) : Int) } : Rp) with v := mt (k + 1) } : Rp) :: B))) (List.getElem?_eq_some_iff.1 hx).1)
    refine Wp.b (bin_add _ _ _ _ _) ?_
    rw [inc64 (by omega)]
    refine Wp.b (bin_add _ _ _ _ _) ?_
    rw [inc64 (by omega)]
    simp only [List.set_set] at s hx
    have i1 := mReplyS_l v ix B (A ++ [mkReply k]) (k + 2) _ _ id (by omega) (by omega) (by simp; omega) s (by simpa [mkReply] using ov) (by simpa [mkReply] using hx)
    rw [List.length_append, List.length_singleton] at i1
    simp only [List.set_set, List.append_assoc, List.singleton_append] at i1
    have e1 : k + 2 + 2 * B.length = k + 2 * (B.length + 1) := by omega
    rw [e1] at i1
    simp only [List.length_cons, mkLReply]
    exact i1
theorem mReplyS {h0 g : H} {M : List (Nat × List V)} (s : Mm h0 g M) (ix : Nat) {v : V} {l : List Rp} {id : Nat} (ov : OV v l id) (hx : M[ix]? = some (id, flat l)) (k : Nat) (hk1 : 1 ≤ k) (hk : k + 2 * l.length ≤ 1073741824) :
    Wp (R 27 [v, .int .i64 k] g) fun r g' => r = .int .i64 ((k + 2 * l.length : Nat) : Int) ∧ Mm h0 g' (M.set ix (id, flat (mkLReply k l.length))) ∧ OV v (mkLReply k l.length) id := by
  refine R27 rfl ?_
  rw [S27_eq]
  exact mReplyS_l v ix l [] k g M id hk1 hk (by simp; omega) s ov hx
theorem mSessionS_l {h0 : H} (v : V) (ix : Nat) : ∀ (B A : List Se) (k : Nat) (g : H) (M : List (Nat × List V)) (id : Nat), 1 ≤ k → k + 4 * B.length ≤ 1073741824 → A.length + B.length ≤ 1073741824 → Mm h0 g M → OV v (A ++ B) id → M[ix]? = some (id, flat (A ++ B)) →
    Wp (S55_l2 R v (.int .i64 k) (.int .i64 A.length) g) fun r g' => r = .int .i64 ((k + 4 * B.length : Nat) : Int) ∧ Mm h0 g' (M.set ix (id, flat (A ++ mkLSession k B.length))) ∧ OV v (A ++ mkLSession k B.length) id
  | [], A, k, g, M, id, hk1, hk, hn, s, ov, hx => by
    rw [S55_l2_eq]
    have e : M.set ix (id, flat A) = M := by
      obtain ⟨h1, h2⟩ := List.getElem?_eq_some_iff.1 hx
      rw [List.append_nil] at h2
      rw [← h2]; exact List.set_getElem_self h1
    refine Wp.b ov.len (Wp.b (bin_lss _ _ _ _ _) (Wp.onF (by simp) (Wp.r1 rfl rfl ⟨by simp, ?_, ?_⟩)))
    · simp only [List.length_nil, mkLSession, List.append_nil, e]; exact s
    · simpa only [List.length_nil, mkLSession] using ov
  | x :: B, A, k, g, M, id, hk1, hk, hn, s, ov, hx => by
    rw [S55_l2_eq]
    simp only [List.length_cons] at hk hn
    have p := ov.mid
    refine Wp.b ov.len (Wp.b (bin_lss _ _ _ _ _) (Wp.onT (by simp; omega) ?_))
    refine Wp.b p.2 ?_
    refine Wp.b (fA_o p.1) ?_
    refine Wp.elm (n := 1) s ix ov hx ({ x with i := ((k : Nat) : Int) } : Se) 0 rfl rfl (by decide) (by first | rfl | omega) rfl ?_
    intro g0 F0 ov s
    have hx := (List.getElem?_set_self (a := (id, flat (A ++ ({ x with i := ((k : Nat) : Int) } : Se) :: B))) (List.getElem?_eq_some_iff.1 hx).1)
    refine Wp.b (bin_add _ _ _ _ _) ?_
    rw [inc64 (by omega)]
    refine Wp.b p.2 ?_
    refine Wp.b (fA_o p.1) ?_
    refine Wp.elm (n := 1) s ix ov hx ({ ({ x with i := ((k : Nat) : Int) } : Se) with l := (((k + 1) : Nat) : Int) } : Se) 1 rfl rfl (by decide) (by first | rfl | omega) rfl ?_
    intro g1 F1 ov s
    have hx := (List.getElem?_set_self (a := (id, flat (A ++ ({ ({ x with i := ((k : Nat) : Int) } : Se) with l := (((k + 1) : Nat) : Int) } : Se) :: B))) (List.getElem?_eq_some_iff.1 hx).1)
    refine Wp.b (bin_add _ _ _ _ _) ?_
    rw [inc64 (by omega)]
    refine Wp.b p.2 ?_
    refine Wp.b (fA_o p.1) ?_
    refine Wp.b (fA_o p.1) ?_
    refine Wp.elm (n := 1) s ix ov hx ({ ({ ({ x with i := ((k : Nat) : Int) } : Se) with l := (((k + 1) : Nat) : Int) } : Se) with r := { ({ ({ x with i := ((k : Nat) : Int) } : Se) with l := (((k + 1) : Nat) : Int) } : Se).r with c := (((k + 2) : Nat) : Int) } } : Se) 2 rfl rfl (by decide) (by first | rfl | omega) rfl ?_
    intro g2 F2 ov s
    have hx := (List.getElem?_set_self (a := (id, flat (A ++ ({ ({ ({ x with i := ((k : Nat) : Int) } : Se) with l := (((k + 1) : Nat) : Int) } : Se) with r := { ({ ({ x with i := ((k : Nat) : Int) } : Se) with l := (((k + 1) : Nat) : Int) } : Se).r with c := (((k + 2) : Nat) : Int) } } : Se) :: B))) (List.getElem?_eq_some_iff.1 hx).1)
    refine Wp.b (bin_add _ _ _ _ _) ?_
    rw [inc64 (by omega)]
    refine Wp.bind (mText (k + 3) (by omega) (by omega) _ s.k) ?_
    rintro _ g3_ ⟨rfl, F3_⟩
    replace s := s.fr0 F3_
    refine Wp.b p.2 ?_
    refine Wp.b (fA_o p.1) ?_
    refine Wp.b (fA_o p.1) ?_
    refine Wp.elm (n := 1) s ix ov hx ({ ({ ({ ({ x with i := ((k : Nat) : Int) } : Se) with l := (((k + 1) : Nat) : Int) } : Se) with r := { ({ ({ x with i := ((k : Nat) : Int) } : Se) with l := (((k + 1) : Nat) : Int) } : Se).r with c := (((k + 2) : Nat) : Int) } } : Se) with r := { ({ ({ ({ x with i := ((k : Nat) : Int) } : Se) with l := (((k + 1) : Nat) : Int) } : Se) with r := { ({ ({ x with i := ((k : Nat) : Int) } : Se) with l := (((k + 1) : Nat) : Int) } : Se).r with c := (((k + 2) : Nat) : Int) } } : Se).r with v := mt (k + 3) } } : Se) 3 rfl rfl (by decide) (by first | rfl | omega) rfl ?_
    intro g3 F3 ov s
    have hx := (List.getElem?_set_self (a := (id, flat (A ++ ({ ({ ({ ({ x with i := ((k : Nat) : Int) } : Se) with l := (((k + 1) : Nat) : Int) } : Se) with r := { ({ ({ x with i := ((k : Nat) : Int) } : Se) with l := (((k + 1) : Nat) : Int) } : Se).r with c := (((k + 2) : Nat) : Int) } } : Se) with r := { ({ ({ ({ x with i := ((k : Nat) : Int) } : Se) with l := (((k + 1) : Nat) : Int) } : Se) with r := { ({ ({ x with i := ((k : Nat) : Int) } : Se) with l := (((k + 1) : Nat) : Int) } : Se).r with c := (((k + 2) : Nat) : Int) } } : Se).r with v := mt (k + 3) } } : Se) :: B))) (List.getElem?_eq_some_iff.1 hx).1)
    refine Wp.b (bin_add _ _ _ _ _) ?_
    rw [inc64 (by omega)]
    refine Wp.b (bin_add _ _ _ _ _) ?_
    rw [inc64 (by omega)]
    simp only [List.set_set] at s hx
    have i1 := mSessionS_l v ix B (A ++ [mkSession k]) (k + 4) _ _ id (by omega) (by omega) (by simp; omega) s (by simpa [mkSession] using ov) (by simpa [mkSession] using hx)
    rw [List.length_append, List.length_singleton] at i1
    simp only [List.set_set, List.append_assoc, List.singleton_append] at i1
    have e1 : k + 4 + 4 * B.length = k + 4 * (B.length + 1) := by omega
    rw [e1] at i1
    simp only [List.length_cons, mkLSession]
    exact i1
theorem mSessionS {h0 g : H} {M : List (Nat × List V)} (s : Mm h0 g M) (ix : Nat) {v : V} {l : List Se} {id : Nat} (ov : OV v l id) (hx : M[ix]? = some (id, flat l)) (k : Nat) (hk1 : 1 ≤ k) (hk : k + 4 * l.length ≤ 1073741824) :
    Wp (R 55 [v, .int .i64 k] g) fun r g' => r = .int .i64 ((k + 4 * l.length : Nat) : Int) ∧ Mm h0 g' (M.set ix (id, flat (mkLSession k l.length))) ∧ OV v (mkLSession k l.length) id := by
  refine R55 rfl ?_
  rw [S55_eq]
  exact mSessionS_l v ix l [] k g M id hk1 hk (by simp; omega) s ov hx
theorem hPairS_l (v : V) : ∀ (n k : Nat) (A : List Pr) (g : H), 1 ≤ k → k + 2 * n ≤ 1073741824 → A.length + n ≤ 1073741824 → Hok g → RV g v (A ++ mkLPair k n) →
    Wp (S56_l2 R v (.int .i64 k) (.int .i64 A.length) g) fun r g' => r = .int .i64 ((k + 2 * n : Nat) : Int) ∧ Fr [] g g'
  | 0, k, A, g, hk1, hk, hn, ok, r => by
    rw [S56_l2_eq]
    refine Wp.b r.len (Wp.b (bin_lss _ _ _ _ _) (Wp.onF (by simp [mkLPair]) (Wp.r1 rfl rfl ⟨by simp, Fr.refl _ _⟩)))
  | n + 1, k, A, g, hk1, hk, hn, ok, r => by
    rw [S56_l2_eq]
    simp only [mkLPair] at r
    refine Wp.b r.len (Wp.b (bin_lss _ _ _ _ _) (Wp.onT (by simp; omega) ?_))
    have F := Fr.refl [] g
    obtain ⟨b, o, b0, bl, e1, e2⟩ := r.mid
    refine Wp.b e1 ?_
    refine Wp.b (fA_o b0) ?_
    have g1 : ld1 _ (.ptr b (o + 0)) = some (.str (mt k)) := bload_ld1 e2 0 rfl
    refine Wp.b g1 ?_
    refine Wp.bind (mText k (by omega) (by omega) _ ok) ?_
    rintro _ g' ⟨rfl, F'⟩
    refine Wp.pd F' b0 bl ?_
    replace F := F.trans0 F'
    replace ok := F'.ok ok
    replace r := r.fr F'
    refine Wp.b (str_neq _ _ _ _) (Wp.onF (by simp <;> omega) (Wp.b (bin_add _ _ _ _ _) ?_))
    rw [inc64 (by omega)]
    clear F' 
    clear g1 e2 e1 bl b0 b o
    obtain ⟨b, o, b0, bl, e1, e2⟩ := r.mid
    refine Wp.b e1 ?_
    refine Wp.b (fA_o b0) ?_
    have g1 : ld1 _ (.ptr b (o + 1)) = some (.str (mt (k + 1))) := bload_ld1 e2 1 rfl
    refine Wp.b g1 ?_
    refine Wp.bind (mText (k + 1) (by omega) (by omega) _ ok) ?_
    rintro _ g' ⟨rfl, F'⟩
    refine Wp.pd F' b0 bl ?_
    replace F := F.trans0 F'
    replace ok := F'.ok ok
    replace r := r.fr F'
    refine Wp.b (str_neq _ _ _ _) (Wp.onF (by simp <;> omega) (Wp.b (bin_add _ _ _ _ _) ?_))
    rw [inc64 (by omega)]
    clear F' 
    clear g1 e2 e1 bl b0 b o
    refine Wp.b (bin_add _ _ _ _ _) ?_
    rw [inc64 (by omega)]
    have i1 := hPairS_l v n (k + 2) (A ++ [mkPair k]) _ (by omega) (by omega) (by simp; omega) ok (by simpa using r)
    rw [List.length_append, List.length_singleton] at i1
    have e1 : k + 2 + 2 * n = k + 2 * (n + 1) := by omega
    rw [e1] at i1
    exact i1.mono fun r h'' ⟨q, F'⟩ => ⟨q, F.trans0 F'⟩
theorem hPairS (n k : Nat) (hk1 : 1 ≤ k) (hk : k + 2 * n ≤ 1073741824) (v : V) (g : H) (ok : Hok g) (r : RV g v (mkLPair k n)) :
    Wp (R 56 [v, .int .i64 k] g) fun r g' => r = .int .i64 ((k + 2 * n : Nat) : Int) ∧ Fr [] g g' := by
  refine R56 rfl ?_
  rw [S56_eq]
  exact hPairS_l v n k [] g hk1 hk (by simp; omega) ok r
theorem hReplyS_l (v : V) : ∀ (n k : Nat) (A : List Rp) (g : H), 1 ≤ k → k + 2 * n ≤ 1073741824 → A.length + n ≤ 1073741824 → Hok g → RV g v (A ++ mkLReply k n) →
    Wp (S29_l2 R v (.int .i64 k) (.int .i64 A.length) g) fun r g' => r = .int .i64 ((k + 2 * n : Nat) : Int) ∧ Fr [] g g'
  | 0, k, A, g, hk1, hk, hn, ok, r => by
    rw [S29_l2_eq]
    refine Wp.b r.len (Wp.b (bin_lss _ _ _ _ _) (Wp.onF (by simp [mkLReply]) (Wp.r1 rfl rfl ⟨by simp, Fr.refl _ _⟩)))
  | n + 1, k, A, g, hk1, hk, hn, ok, r => by
    rw [S29_l2_eq]
    simp only [mkLReply] at r
    refine Wp.b r.len (Wp.b (bin_lss _ _ _ _ _) (Wp.onT (by simp; omega) ?_))
    have F := Fr.refl [] g
    obtain ⟨b, o, b0, bl, e1, e2⟩ := r.mid
    refine Wp.b e1 ?_
    refine Wp.b (fA_o b0) ?_
    have g1 : ld1 _ (.ptr b (o + 0)) = some (.int .i64 ((k : Nat) : Int)) := bload_ld1 e2 0 rfl
    refine Wp.b g1 ?_
    refine Wp.b (bin_neq _ _ _ _ _) (Wp.onF (by simp <;> omega) (Wp.b (bin_add _ _ _ _ _) ?_))
    rw [inc64 (by omega)]
    clear g1 e2 e1 bl b0 b o
    obtain ⟨b, o, b0, bl, e1, e2⟩ := r.mid
    refine Wp.b e1 ?_
    refine Wp.b (fA_o b0) ?_
    have g1 : ld1 _ (.ptr b (o + 1)) = some (.str (mt (k + 1))) := bload_ld1 e2 1 rfl
    refine Wp.b g1 ?_
    refine Wp.bind (mText (k + 1) (by omega) (by omega) _ ok) ?_
    rintro _ g' ⟨rfl, F'⟩
    refine Wp.pd F' b0 bl ?_
    replace F := F.trans0 F'
    replace ok := F'.ok ok
    replace r := r.fr F'
    refine Wp.b (str_neq _ _ _ _) (Wp.onF (by simp <;> omega) (Wp.b (bin_add _ _ _ _ _) ?_))
    rw [inc64 (by omega)]
    clear F' 
    clear g1 e2 e1 bl b0 b o
    refine Wp.b (bin_add _ _ _ _ _) ?_
    rw [inc64 (by omega)]
    have i1 := hReplyS_l v n (k + 2) (A ++ [mkReply k]) _ (by omega) (by omega) (by simp; omega) ok (by simpa using r)
    rw [List.length_append, List.length_singleton] at i1
    have e1 : k + 2 + 2 * n = k + 2 * (n + 1) := by omega
    rw [e1] at i1
    exact i1.mono fun r h'' ⟨q, F'⟩ => ⟨q, F.trans0 F'⟩
theorem hReplyS (n k : Nat) (hk1 : 1 ≤ k) (hk : k + 2 * n ≤ 1073741824) (v : V) (g : H) (ok : Hok g) (r : RV g v (mkLReply k n)) :
    Wp (R 29 [v, .int .i64 k] g) fun r g' => r = .int .i64 ((k + 2 * n : Nat) : Int) ∧ Fr [] g g' := by
  refine R29 rfl ?_
  rw [S29_eq]
  exact hReplyS_l v n k [] g hk1 hk (by simp; omega) ok r
theorem hSessionS_l (v : V) : ∀ (n k : Nat) (A : List Se) (g : H), 1 ≤ k → k + 4 * n ≤ 1073741824 → A.length + n ≤ 1073741824 → Hok g → RV g v (A ++ mkLSession k n) →
    Wp (S57_l2 R v (.int .i64 k) (.int .i64 A.length) g) fun r g' => r = .int .i64 ((k + 4 * n : Nat) : Int) ∧ Fr [] g g'
  | 0, k, A, g, hk1, hk, hn, ok, r => by
    rw [S57_l2_eq]
    refine Wp.b r.len (Wp.b (bin_lss _ _ _ _ _) (Wp.onF (by simp [mkLSession]) (Wp.r1 rfl rfl ⟨by simp, Fr.refl _ _⟩)))
  | n + 1, k, A, g, hk1, hk, hn, ok, r => by
    rw [S57_l2_eq]
    simp only [mkLSession] at r
    refine Wp.b r.len (Wp.b (bin_lss _ _ _ _ _) (Wp.onT (by simp; omega) ?_))
    have F := Fr.refl [] g
    obtain ⟨b, o, b0, bl, e1, e2⟩ := r.mid
    refine Wp.b e1 ?_
    refine Wp.b (fA_o b0) ?_
    have g1 : ld1 _ (.ptr b (o + 0)) = some (.int .i64 ((k : Nat) : Int)) := bload_ld1 e2 0 rfl
    refine Wp.b g1 ?_
    refine Wp.b (bin_neq _ _ _ _ _) (Wp.onF (by simp <;> omega) (Wp.b (bin_add _ _ _ _ _) ?_))
    rw [inc64 (by omega)]
    clear g1 e2 e1 bl b0 b o
    obtain ⟨b, o, b0, bl, e1, e2⟩ := r.mid
    refine Wp.b e1 ?_
    refine Wp.b (fA_o b0) ?_
    have g1 : ld1 _ (.ptr b (o + 1)) = some (.int .i64 (((k + 1) : Nat) : Int)) := bload_ld1 e2 1 rfl
    refine Wp.b g1 ?_
    refine Wp.b (bin_neq _ _ _ _ _) (Wp.onF (by simp <;> omega) (Wp.b (bin_add _ _ _ _ _) ?_))
    rw [inc64 (by omega)]
    clear g1 e2 e1 bl b0 b o
    obtain ⟨b, o, b0, bl, e1, e2⟩ := r.mid
    refine Wp.b e1 ?_
    refine Wp.b (fA_o b0) ?_
    refine Wp.b (fA_o b0) ?_
    have g1 : ld1 _ (.ptr b (o + 2 + 0)) = some (.int .i64 (((k + 2) : Nat) : Int)) := bload_ld1 e2 2 rfl
    refine Wp.b g1 ?_
    refine Wp.b (bin_neq _ _ _ _ _) (Wp.onF (by simp <;> omega) (Wp.b (bin_add _ _ _ _ _) ?_))
    rw [inc64 (by omega)]
    clear g1 e2 e1 bl b0 b o
    obtain ⟨b, o, b0, bl, e1, e2⟩ := r.mid
    refine Wp.b e1 ?_
    refine Wp.b (fA_o b0) ?_
    refine Wp.b (fA_o b0) ?_
    have g1 : ld1 _ (.ptr b (o + 2 + 1)) = some (.str (mt (k + 3))) := bload_ld1 e2 3 rfl
    refine Wp.b g1 ?_
    refine Wp.bind (mText (k + 3) (by omega) (by omega) _ ok) ?_
    rintro _ g' ⟨rfl, F'⟩
    refine Wp.pd F' b0 bl ?_
    replace F := F.trans0 F'
    replace ok := F'.ok ok
    replace r := r.fr F'
    refine Wp.b (str_neq _ _ _ _) (Wp.onF (by simp <;> omega) (Wp.b (bin_add _ _ _ _ _) ?_))
    rw [inc64 (by omega)]
    clear F' 
    clear g1 e2 e1 bl b0 b o
    refine Wp.b (bin_add _ _ _ _ _) ?_
    rw [inc64 (by omega)]
    have i1 := hSessionS_l v n (k + 4) (A ++ [mkSession k]) _ (by omega) (by omega) (by simp; omega) ok (by simpa using r)
    rw [List.length_append, List.length_singleton] at i1
    have e1 : k + 4 + 4 * n = k + 4 * (n + 1) := by omega
    rw [e1] at i1
    exact i1.mono fun r h'' ⟨q, F'⟩ => ⟨q, F.trans0 F'⟩
theorem hSessionS (n k : Nat) (hk1 : 1 ≤ k) (hk : k + 4 * n ≤ 1073741824) (v : V) (g : H) (ok : Hok g) (r : RV g v (mkLSession k n)) :
    Wp (R 57 [v, .int .i64 k] g) fun r g' => r = .int .i64 ((k + 4 * n : Nat) : Int) ∧ Fr [] g g' := by
  refine R57 rfl ?_
  rw [S57_eq]
  exact hSessionS_l v n k [] g hk1 hk (by simp; omega) ok r
end Go.Proofs.Ythoabddfionmoaa.AH
