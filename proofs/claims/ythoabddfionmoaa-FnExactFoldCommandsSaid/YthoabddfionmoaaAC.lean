/- The evaluator without fuel: 'run', its equation, and loops' equation. No condition. -/
import Derived.Test.YthoabddfionmoaaAB
set_option linter.unusedVariables false
set_option linter.unusedSimpArgs false
namespace Go.Proofs.Ythoabddfionmoaa.AH
open Go Go.RowKit

abbrev CallF := Nat → List V → H → Option (V × H)
def LeC (c c' : CallF) : Prop := ∀ f a h r, c f a h = some r → c' f a h = some r
theorem LeC.refl (c : CallF) : LeC c c := fun _ _ _ _ h => h
theorem LeC.trans {a b c : CallF} (x : LeC a b) (y : LeC b c) : LeC a c := fun f args h r e => y f args h r (x f args h r e)

/-! ### Loops -/
theorem iterN_succ {body : Env → H → Option (X × Env × H)} : ∀ {n : Nat} {E : Env} {h : H} {r : X × Env × H}, iterN body n E h = some r → iterN body (n + 1) E h = some r
  | 0, E, h, r, e => by cases e
  | n + 1, E, h, r, e => by
    unfold iterN at e ⊢
    simp only [Option.bind_eq_some_iff] at e ⊢
    obtain ⟨q, hq, e⟩ := e
    refine ⟨q, hq, ?_⟩
    split at e
    · rename_i hx; exact iterN_succ e
    · rename_i hx; exact e
theorem iterN_le {body : Env → H → Option (X × Env × H)} {n m : Nat} (hnm : n ≤ m) {E : Env} {h : H} {r : X × Env × H} (e : iterN body n E h = some r) : iterN body m E h = some r := by
  induction hnm with
  | refl => exact e
  | step _ ih => exact iterN_succ ih
theorem iterR_of {body : Env → H → Option (X × Env × H)} {n : Nat} {E : Env} {h : H} {r : X × Env × H} (e : iterN body n E h = some r) : iterR body E h = some r := by
  cases hr : iterR body E h with
  | none => unfold iterR at hr; rw [dif_pos ⟨n, r, e⟩] at hr; cases hr
  | some q =>
    obtain ⟨m, hm⟩ := iterR_some hr
    have h1 := iterN_le (Nat.le_max_left n m) e
    have h2 := iterN_le (Nat.le_max_right n m) hm
    rw [h1] at h2; exact h2.symm
theorem iterR_eq (body : Env → H → Option (X × Env × H)) (E : Env) (h : H) : iterR body E h = (body E h).bind fun r => match r.1 with
    | .nrm => iterR body r.2.1 r.2.2
    | _ => some r := by
  have key : ∀ r, iterR body E h = some r ↔ ((body E h).bind fun r => match r.1 with | .nrm => iterR body r.2.1 r.2.2 | _ => some r) = some r := fun r => by
    constructor
    · intro e
      obtain ⟨n, hn⟩ := iterR_some e
      cases n with
      | zero => cases hn
      | succ n =>
        unfold iterN at hn
        simp only [Option.bind_eq_some_iff] at hn ⊢
        obtain ⟨q, hq, hn⟩ := hn
        refine ⟨q, hq, ?_⟩
        split at hn
        · rename_i hx; rw [hx]; exact iterR_of hn
        · rename_i hx
          split
          · rename_i hx'; exact absurd hx' hx
          · exact hn
    · intro e
      simp only [Option.bind_eq_some_iff] at e
      obtain ⟨q, hq, e⟩ := e
      split at e
      · rename_i hx
        obtain ⟨n, hn⟩ := iterR_some e
        refine iterR_of (n := n + 1) ?_
        unfold iterN
        rw [hq]; simp only [Option.bind_some, hx]; exact hn
      · rename_i hx
        refine iterR_of (n := 1) ?_
        unfold iterN
        rw [hq]; simp only [Option.bind_some]
        first
          | exact e
          | (split
             · rename_i hx'; exact absurd hx' hx
             · exact e)
  cases hl : iterR body E h with
  | some r => exact ((key r).1 hl).symm
  | none =>
    cases hr : ((body E h).bind fun r => match r.1 with | .nrm => iterR body r.2.1 r.2.2 | _ => some r) with
    | none => rfl
    | some r => rw [(key r).2 hr] at hl; cases hl

/-! ### More calls answered: more is answered -/
section
variable {P : Program}
theorem eOp_mono {c c' : CallF} (hc : LeC c c') {E : Env} {h : H} {op : Op} {r : Option V × H} (e : eOp P c E h op = some r) : eOp P c' E h op = some r := by
  unfold eOp at e ⊢
  split at e <;> (try exact e)
  rename_i cl
  split at e <;> (try exact e)
  simp only [Option.bind_eq_some_iff] at e ⊢
  obtain ⟨g, hg, e⟩ := e
  refine ⟨g, hg, ?_⟩
  split at e <;> (try exact e)
  simp only [Option.bind_eq_some_iff, Option.map_eq_some_iff] at e ⊢
  obtain ⟨vs, hvs, q, hq, e⟩ := e
  exact ⟨vs, hvs, q, hc _ _ _ _ hq, e⟩
theorem evOper_mono {c c' : CallF} (hc : LeC c c') {ops : Array Oper} {N : Nat} {o : Oper} {E : Env} {h : H} {r : Env × H} (e : evOper P c ops N o E h = some r) : evOper P c' ops N o E h = some r := by
  unfold evOper at e ⊢
  simp only [Option.bind_eq_some_iff] at e ⊢
  obtain ⟨b, hb, e⟩ := e
  refine ⟨b, hb, ?_⟩
  split at e
  · split at e
    · rename_i h1 h2; rw [if_pos h1, if_pos h2]; exact e
    · rename_i h1 h2
      rw [if_pos h1, if_neg h2]
      simp only [Option.bind_eq_some_iff] at e ⊢
      obtain ⟨q, hq, e⟩ := e
      exact ⟨q, eOp_mono hc hq, e⟩
  · rename_i h1; rw [if_neg h1]; exact e
theorem evOps_mono {c c' : CallF} (hc : LeC c c') {ops : Array Oper} {N : Nat} : ∀ {l : List Oper} {E : Env} {h : H} {r : Env × H}, evOps P c ops N l E h = some r → evOps P c' ops N l E h = some r
  | [], _, _, _, e => e
  | o :: l, E, h, r, e => by
    simp only [evOps, Option.bind_eq_some_iff] at e ⊢
    obtain ⟨q, hq, e⟩ := e
    exact ⟨q, evOper_mono hc hq, evOps_mono hc e⟩
theorem evAny_mono {c c' : CallF} (hc : LeC c c') {ops : Array Oper} {N : Nat} : ∀ {fuel : Nat} {listed : Array Bool} {L : List (Nat × Nat × Nat)} {E : Env} {h : H} {r : Env × H}, evAny P c ops N fuel listed L E h = some r → evAny P c' ops N fuel listed L E h = some r
  | 0, _, _, _, _, _, e => e
  | fuel + 1, listed, L, E, h, r, e => by
    unfold evAny at e ⊢
    split at e
    · rename_i h1; rw [if_pos h1]; exact e
    · rename_i h1; rw [if_neg h1]
      split at e
      · cases e
      · rename_i i hi
        split at e
        · cases e
        · rename_i o ho
          split at e
          · rename_i h2
            rw [if_pos h2]
            split at e
            · rename_i h3
              rw [if_pos h3]
              simp only [Option.bind_eq_some_iff] at e ⊢
              obtain ⟨b, hb, e⟩ := e
              refine ⟨b, hb, ?_⟩
              cases b with
              | true =>
                simp only [if_true, Option.bind_eq_some_iff] at e ⊢
                obtain ⟨v, hv, E', hE, e⟩ := e
                exact ⟨v, hv, E', hE, evAny_mono hc e⟩
              | false =>
                simp only [Bool.false_eq_true, if_false, Option.bind_eq_some_iff] at e ⊢
                obtain ⟨E', hE, e⟩ := e
                exact ⟨E', hE, evAny_mono hc e⟩
            · cases e
          · rename_i h2
            rw [if_neg h2]
            simp only [Option.bind_eq_some_iff] at e ⊢
            obtain ⟨q, hq, e⟩ := e
            refine ⟨q, evOper_mono hc hq, ?_⟩
            split at e
            · rename_i h3; rw [if_pos h3]; exact evAny_mono hc e
            · cases e
theorem iterN_mono {b b' : Env → H → Option (X × Env × H)} (hb : ∀ E h r, b E h = some r → b' E h = some r) : ∀ {n : Nat} {E : Env} {h : H} {r : X × Env × H}, iterN b n E h = some r → iterN b' n E h = some r
  | 0, _, _, _, e => by cases e
  | n + 1, E, h, r, e => by
    unfold iterN at e ⊢
    simp only [Option.bind_eq_some_iff] at e ⊢
    obtain ⟨q, hq, e⟩ := e
    refine ⟨q, hb _ _ _ hq, ?_⟩
    split at e
    · exact iterN_mono hb e
    · exact e
theorem evC_mono {c c' : CallF} (hc : LeC c c') (ann : Nat → List Nat) (N : Nat) : ∀ (cd : Code) (E : Env) (h : H) (r : X × Env × H), evC P c ann N cd E h = some r → evC P c' ann N cd E h = some r := by
  intro cd
  induction cd with
  | region id ops draw =>
    intro E h r e
    cases draw with
    | false =>
      simp only [evC, Option.map_eq_some_iff] at e ⊢
      obtain ⟨q, hq, e⟩ := e
      exact ⟨q, evOps_mono hc hq, e⟩
    | true =>
      simp only [evC] at e ⊢
      split at e
      · rename_i h1
        rw [if_pos h1]
        simp only [Option.map_eq_some_iff] at e ⊢
        obtain ⟨q, hq, e⟩ := e
        exact ⟨q, evAny_mono hc hq, e⟩
      · cases e
  | seq x y ihx ihy =>
    intro E h r e
    simp only [evC, Option.bind_eq_some_iff] at e ⊢
    obtain ⟨q, hq, e⟩ := e
    refine ⟨q, ihx _ _ _ hq, ?_⟩
    split at e
    · exact ihy _ _ _ e
    · exact e
  | cond k x y ihx ihy =>
    intro E h r e
    simp only [evC] at e ⊢
    split at e
    · rename_i t ht
      cases t
      · exact ihy _ _ _ e
      · exact ihx _ _ _ e
    · cases e
  | block id b ih =>
    intro E h r e
    simp only [evC, Option.bind_eq_some_iff] at e ⊢
    obtain ⟨q, hq, e⟩ := e
    exact ⟨q, ih _ _ _ hq, e⟩
  | loop b ih =>
    intro E h r e
    simp only [evC] at e ⊢
    obtain ⟨n, hn⟩ := iterR_some e
    refine iterR_of (iterN_mono (fun E h r hr => ?_) hn)
    simp only [Option.map_eq_some_iff] at hr ⊢
    obtain ⟨q, hq, hr⟩ := hr
    exact ⟨q, ih _ _ _ hq, hr⟩
  | skip => intro E h r e; exact e
  | exit id => intro E h r e; exact e
  | ret => intro E h r e; exact e
  | label l => intro E h r e; exact e
  | rangeFunc f ps x y => intro E h r e; simp only [evC] at e; cases e
  | scope b => intro E h r e; simp only [evC] at e; cases e
  | goto l => intro E h r e; simp only [evC] at e; cases e
  | refuse s => intro E h r e; simp only [evC] at e; cases e
theorem evBody_mono {c c' : CallF} (hc : LeC c c') {ann : Nat → List Nat} {fn : Func} {args : List V} {h : H} {r : V × H} (e : evBody P c ann fn args h = some r) : evBody P c' ann fn args h = some r := by
  unfold evBody at e ⊢
  split at e
  · split at e
    · rename_i h1
      rw [if_pos h1]
      simp only [Option.bind_eq_some_iff] at e ⊢
      obtain ⟨q, hq, e⟩ := e
      exact ⟨q, evC_mono hc _ _ _ _ _ _ hq, e⟩
    · cases e
  · cases e
variable {prims : Prims} {ann : Nat → Nat → List Nat}
theorem evF_succ : ∀ n, LeC (evF P prims ann n) (evF P prims ann (n + 1))
  | 0 => fun f a h r e => by cases e
  | n + 1 => fun f a h r e => by
    unfold evF at e ⊢
    split at e
    · exact e
    · split at e
      · exact evBody_mono (evF_succ n) e
      · cases e
theorem evF_le {n m : Nat} (h : n ≤ m) : LeC (evF P prims ann n) (evF P prims ann m) := by
  induction h with
  | refl => exact LeC.refl _
  | step _ ih => exact ih.trans (evF_succ _)

open Classical in
/-- What a function comes to. -/
noncomputable def run (P : Program) (prims : Prims) (ann : Nat → Nat → List Nat) (f : Nat) (args : List V) (h : H) : Option (V × H) :=
  if hx : ∃ n r, evF P prims ann n f args h = some r then some (Classical.choose (Classical.choose_spec hx)) else none
theorem run_some {f : Nat} {args : List V} {h : H} {r : V × H} (e : run P prims ann f args h = some r) : ∃ n, evF P prims ann n f args h = some r := by
  unfold run at e
  split at e
  · rename_i hx; cases e; exact ⟨_, Classical.choose_spec (Classical.choose_spec hx)⟩
  · cases e
theorem run_of {n : Nat} {f : Nat} {args : List V} {h : H} {r : V × H} (e : evF P prims ann n f args h = some r) : run P prims ann f args h = some r := by
  cases hr : run P prims ann f args h with
  | none => unfold run at hr; rw [dif_pos ⟨n, r, e⟩] at hr; cases hr
  | some q =>
    obtain ⟨m, hm⟩ := run_some hr
    have h1 := evF_le (Nat.le_max_left n m) _ _ _ _ e
    have h2 := evF_le (Nat.le_max_right n m) _ _ _ _ hm
    rw [h1] at h2; exact h2.symm

/-! ### What is answered by 'run' is answered by some count of rounds -/
theorem eOp_cont {E : Env} {h : H} {op : Op} {r : Option V × H} (e : eOp P (run P prims ann) E h op = some r) : ∃ n, eOp P (evF P prims ann n) E h op = some r := by
  unfold eOp at e ⊢
  split at e <;> (try exact ⟨0, e⟩)
  rename_i cl
  split at e <;> (try exact ⟨0, e⟩)
  simp only [Option.bind_eq_some_iff] at e ⊢
  obtain ⟨g, hg, e⟩ := e
  split at e <;> (try (exact ⟨0, g, hg, e⟩))
  · rename_i k caps
    simp only [Option.bind_eq_some_iff, Option.map_eq_some_iff] at e
    obtain ⟨vs, hvs, q, hq, e⟩ := e
    obtain ⟨n, hn⟩ := run_some hq
    refine ⟨n, _, hg, ?_⟩
    simp only [Option.bind_eq_some_iff, Option.map_eq_some_iff]
    exact ⟨vs, hvs, q, hn, e⟩
  · cases e
theorem evOper_cont {ops : Array Oper} {N : Nat} {o : Oper} {E : Env} {h : H} {r : Env × H} (e : evOper P (run P prims ann) ops N o E h = some r) : ∃ n, evOper P (evF P prims ann n) ops N o E h = some r := by
  unfold evOper at e ⊢
  simp only [Option.bind_eq_some_iff] at e ⊢
  obtain ⟨b, hb, e⟩ := e
  split at e
  · split at e
    · rename_i h1 h2; exact ⟨0, b, hb, by rw [if_pos h1, if_pos h2]; exact e⟩
    · rename_i h1 h2
      simp only [Option.bind_eq_some_iff] at e
      obtain ⟨q, hq, e⟩ := e
      obtain ⟨n, hn⟩ := eOp_cont hq
      exact ⟨n, b, hb, by rw [if_pos h1, if_neg h2, hn]; exact e⟩
  · rename_i h1; exact ⟨0, b, hb, by rw [if_neg h1]; exact e⟩
theorem evOps_cont {ops : Array Oper} {N : Nat} : ∀ {l : List Oper} {E : Env} {h : H} {r : Env × H}, evOps P (run P prims ann) ops N l E h = some r → ∃ n, evOps P (evF P prims ann n) ops N l E h = some r
  | [], _, _, _, e => ⟨0, e⟩
  | o :: l, E, h, r, e => by
    simp only [evOps, Option.bind_eq_some_iff] at e
    obtain ⟨q, hq, e⟩ := e
    obtain ⟨n, hn⟩ := evOper_cont hq
    obtain ⟨m, hm⟩ := evOps_cont e
    refine ⟨max n m, ?_⟩
    simp only [evOps, Option.bind_eq_some_iff]
    exact ⟨q, evOper_mono (evF_le (Nat.le_max_left n m)) hn, evOps_mono (evF_le (Nat.le_max_right n m)) hm⟩
theorem evAny_cont {ops : Array Oper} {N : Nat} : ∀ {fuel : Nat} {listed : Array Bool} {L : List (Nat × Nat × Nat)} {E : Env} {h : H} {r : Env × H}, evAny P (run P prims ann) ops N fuel listed L E h = some r → ∃ n, evAny P (evF P prims ann n) ops N fuel listed L E h = some r
  | 0, _, _, _, _, _, e => ⟨0, e⟩
  | fuel + 1, listed, L, E, h, r, e => by
    unfold evAny at e ⊢
    split at e
    · rename_i h1; simp only [h1, if_true]; exact ⟨0, e⟩
    · rename_i h1; simp only [h1, if_false]
      split at e
      · cases e
      · rename_i i hi
        split at e
        · cases e
        · rename_i o ho
          split at e
          · rename_i h2
            simp only [h2, if_true]
            split at e
            · rename_i h3
              simp only [h3, if_true]
              simp only [Option.bind_eq_some_iff] at e ⊢
              obtain ⟨b, hb, e⟩ := e
              cases b with
              | true =>
                simp only [if_true, Option.bind_eq_some_iff] at e
                obtain ⟨v, hv, E', hE, e⟩ := e
                obtain ⟨n, hn⟩ := evAny_cont e
                refine ⟨n, ?_⟩
                rw [hb]; simp only [Option.bind_some, if_true, hv, hE]; exact hn
              | false =>
                simp only [Bool.false_eq_true, if_false, Option.bind_eq_some_iff] at e
                obtain ⟨E', hE, e⟩ := e
                obtain ⟨n, hn⟩ := evAny_cont e
                refine ⟨n, ?_⟩
                rw [hb]; simp only [Option.bind_some, Bool.false_eq_true, if_false, hE]; exact hn
            · cases e
          · rename_i h2
            simp only [h2, if_false, Bool.false_eq_true]
            simp only [Option.bind_eq_some_iff] at e
            obtain ⟨q, hq, e⟩ := e
            split at e
            · rename_i h3
              obtain ⟨n, hn⟩ := evOper_cont hq
              obtain ⟨m, hm⟩ := evAny_cont e
              refine ⟨max n m, ?_⟩
              simp only [Option.bind_eq_some_iff]
              exact ⟨q, evOper_mono (evF_le (Nat.le_max_left n m)) hn, by rw [if_pos h3]; exact evAny_mono (evF_le (Nat.le_max_right n m)) hm⟩
            · cases e
theorem evC_cont (an : Nat → List Nat) (N : Nat) : ∀ (cd : Code) (E : Env) (h : H) (r : X × Env × H), evC P (run P prims ann) an N cd E h = some r → ∃ n, evC P (evF P prims ann n) an N cd E h = some r := by
  intro cd
  induction cd with
  | region id ops draw =>
    intro E h r e
    cases draw with
    | false =>
      simp only [evC, Option.map_eq_some_iff] at e ⊢
      obtain ⟨q, hq, e⟩ := e
      obtain ⟨n, hn⟩ := evOps_cont hq
      exact ⟨n, q, hn, e⟩
    | true =>
      simp only [evC] at e ⊢
      split at e
      · rename_i h1
        simp only [Option.map_eq_some_iff] at e
        obtain ⟨q, hq, e⟩ := e
        obtain ⟨n, hn⟩ := evAny_cont hq
        exact ⟨n, by rw [if_pos h1, hn]; simpa using e⟩
      · cases e
  | seq x y ihx ihy =>
    intro E h r e
    simp only [evC, Option.bind_eq_some_iff] at e ⊢
    obtain ⟨q, hq, e⟩ := e
    obtain ⟨n, hn⟩ := ihx _ _ _ hq
    split at e
    · rename_i hx
      obtain ⟨m, hm⟩ := ihy _ _ _ e
      exact ⟨max n m, q, evC_mono (evF_le (Nat.le_max_left n m)) _ _ _ _ _ _ hn, by simp only [hx]; exact evC_mono (evF_le (Nat.le_max_right n m)) _ _ _ _ _ _ hm⟩
    · rename_i hx; exact ⟨n, q, hn, by split <;> first | exact e | (rename_i hx'; exact absurd hx' hx)⟩
  | cond k x y ihx ihy =>
    intro E h r e
    simp only [evC] at e ⊢
    split at e
    · rename_i t ht
      cases t
      · exact ihy _ _ _ e
      · exact ihx _ _ _ e
    · cases e
  | block id b ih =>
    intro E h r e
    simp only [evC, Option.bind_eq_some_iff] at e ⊢
    obtain ⟨q, hq, e⟩ := e
    obtain ⟨n, hn⟩ := ih _ _ _ hq
    exact ⟨n, q, hn, e⟩
  | loop b ih =>
    intro E h r e
    simp only [evC] at e ⊢
    obtain ⟨m, hm⟩ := iterR_some e
    have key : ∀ (m : Nat) (E : Env) (h : H), iterN (fun E h => (evC P (run P prims ann) an N b E h).map fun r => match r.1 with | .nrm => (.nrm, keepAt an b r.2.1, r.2.2) | _ => r) m E h = some r →
        ∃ n, iterN (fun E h => (evC P (evF P prims ann n) an N b E h).map fun r => match r.1 with | .nrm => (.nrm, keepAt an b r.2.1, r.2.2) | _ => r) m E h = some r := by
      intro m
      induction m with
      | zero => intro E h e; cases e
      | succ m ihm =>
        intro E h e
        unfold iterN at e
        simp only [Option.bind_eq_some_iff, Option.map_eq_some_iff] at e
        obtain ⟨q, ⟨q1, hq1, rfl⟩, e⟩ := e
        obtain ⟨n, hn⟩ := ih _ _ _ hq1
        split at e
        · rename_i hx
          obtain ⟨n', hn'⟩ := ihm _ _ e
          refine ⟨max n n', ?_⟩
          unfold iterN
          simp only [Option.bind_eq_some_iff, Option.map_eq_some_iff]
          refine ⟨_, ⟨q1, evC_mono (evF_le (Nat.le_max_left n n')) _ _ _ _ _ _ hn, rfl⟩, ?_⟩
          simp only [hx]
          refine iterN_mono (fun E h r hr => ?_) hn'
          simp only [Option.map_eq_some_iff] at hr ⊢
          obtain ⟨z, hz, hr⟩ := hr
          exact ⟨z, evC_mono (evF_le (Nat.le_max_right n n')) _ _ _ _ _ _ hz, hr⟩
        · rename_i hx
          refine ⟨n, ?_⟩
          unfold iterN
          simp only [Option.bind_eq_some_iff, Option.map_eq_some_iff]
          refine ⟨_, ⟨q1, hn, rfl⟩, ?_⟩
          split
          · rename_i hx'; exact absurd hx' hx
          · exact e
    obtain ⟨n, hn⟩ := key m _ _ hm
    exact ⟨n, iterR_of hn⟩
  | skip => intro E h r e; exact ⟨0, e⟩
  | exit id => intro E h r e; exact ⟨0, e⟩
  | ret => intro E h r e; exact ⟨0, e⟩
  | label l => intro E h r e; exact ⟨0, e⟩
  | rangeFunc f ps x y => intro E h r e; simp only [evC] at e; cases e
  | scope b => intro E h r e; simp only [evC] at e; cases e
  | goto l => intro E h r e; simp only [evC] at e; cases e
  | refuse s => intro E h r e; simp only [evC] at e; cases e

/-- A function with a body: what its body comes to. -/
theorem run_body {f : Nat} {fn : Func} (hp : prims f = none) (hf : P.funcs[f]? = some fn) {args : List V} {h : H} {r : V × H} (e : evBody P (run P prims ann) (ann f) fn args h = some r) : run P prims ann f args h = some r := by
  have hex : ∃ n, evBody P (evF P prims ann n) (ann f) fn args h = some r := by
    unfold evBody at e ⊢
    split at e
    · rename_i c hb
      split at e
      · rename_i h1
        simp only [Option.bind_eq_some_iff] at e
        obtain ⟨q, hq, e⟩ := e
        obtain ⟨n, hn⟩ := evC_cont _ _ _ _ _ _ hq
        exact ⟨n, by rw [if_pos h1, hn]; exact e⟩
      · cases e
    · cases e
  obtain ⟨n, hn⟩ := hex
  refine run_of (n := n + 1) ?_
  unfold evF
  rw [hp]; simp only [hf]; exact hn
theorem run_prim {f : Nat} {p : List V → H → Option (V × H)} (hp : prims f = some p) {args : List V} {h : H} {r : V × H} (e : p args h = some r) : run P prims ann f args h = some r := by
  refine run_of (n := 1) ?_
  unfold evF
  rw [hp]; exact e
/-- The model's call. -/
theorem run_calls (B : Nat) (hm : P.follows .mixedOrders = true) (hprims : ∀ f p, prims f = some p → PrimOk P B f p) {f : Nat} {args : List V} {h : H} {r : V} {h' : H} (e : run P prims ann f args h = some (r, h')) {β : Bet} {w : World} {argsC : List Value} (ha : All2 (RelV β) args argsC) (hH : RelH B β h w) :
    Calls P f argsC.toArray w (Ret B β h w r h') := by
  obtain ⟨n, hn⟩ := run_some e
  exact (evF_sim B hm hprims n f args h r h' hn).2 β w argsC ha hH
end
end Go.Proofs.Ythoabddfionmoaa.AH
