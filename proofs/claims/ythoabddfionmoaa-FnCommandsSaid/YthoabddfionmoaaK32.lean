/- The evaluator without fuel: 'run', its equation, and loops' equation. The evaluator by continuations, for the printed equations; it answers what the evaluator answers. Words for the printed equations: the program's table is out of them. No condition. -/
import Derived.Test.YthoabddfionmoaaK31
set_option linter.unusedVariables false
set_option linter.unusedSimpArgs false
namespace Go.Proofs.Ythoabddfionmoaa.AH
open Go Go.RowKit

abbrev CallF := Nat → List V → H → Option (V × H)
def LeC (c c' : CallF) : Prop := ∀ f a h r, c f a h = some r → c' f a h = some r
theorem LeC.refl (c : CallF) : LeC c c := fun _ _ _ _ h => h
theorem LeC.trans {a b c : CallF} (x : LeC a b) (y : LeC b c) : LeC a c := fun f args h r e => y f args h r (x f args h r e)

/-! ### Loops -/
theorem iterN_succ {body : Env → H → Option (X × Env × H)} : ∀ {n : Nat} {E : Env} {h : H} {r : X × Env × H}, iterN body n E h = some r → iterN body (n + 1) E h = some r
  | 0, E, h, r, e => by cases e
  | n + 1, E, h, r, e => by
    unfold iterN at e ⊢
    simp only [Option.bind_eq_some_iff] at e ⊢
    obtain ⟨q, hq, e⟩ := e
    refine ⟨q, hq, ?_⟩
    split at e
    · rename_i hx; exact iterN_succ e
    · rename_i hx; exact e
theorem iterN_le {body : Env → H → Option (X × Env × H)} {n m : Nat} (hnm : n ≤ m) {E : Env} {h : H} {r : X × Env × H} (e : iterN body n E h = some r) : iterN body m E h = some r := by
  induction hnm with
  | refl => exact e
  | step _ ih => exact iterN_succ ih
theorem iterR_of {body : Env → H → Option (X × Env × H)} {n : Nat} {E : Env} {h : H} {r : X × Env × H} (e : iterN body n E h = some r) : iterR body E h = some r := by
  cases hr : iterR body E h with
  | none => unfold iterR at hr; rw [dif_pos ⟨n, r, e⟩] at hr; cases hr
  | some q =>
    obtain ⟨m, hm⟩ := iterR_some hr
    have h1 := iterN_le (Nat.le_max_left n m) e
    have h2 := iterN_le (Nat.le_max_right n m) hm
    rw [h1] at h2; exact h2.symm
theorem iterR_eq (body : Env → H → Option (X × Env × H)) (E : Env) (h : H) : iterR body E h = (body E h).bind fun r => match r.1 with
    | .nrm => iterR body r.2.1 r.2.2
    | _ => some r := by
  have key : ∀ r, iterR body E h = some r ↔ ((body E h).bind fun r => match r.1 with | .nrm => iterR body r.2.1 r.2.2 | _ => some r) = some r := fun r => by
    constructor
    · intro e
      obtain ⟨n, hn⟩ := iterR_some e
      cases n with
      | zero => cases hn
      | succ n =>
        unfold iterN at hn
        simp only [Option.bind_eq_some_iff] at hn ⊢
        obtain ⟨q, hq, hn⟩ := hn
        refine ⟨q, hq, ?_⟩
        split at hn
        · rename_i hx; rw [hx]; exact iterR_of hn
        · rename_i hx
          split
          · rename_i hx'; exact absurd hx' hx
          · exact hn
    · intro e
      simp only [Option.bind_eq_some_iff] at e
      obtain ⟨q, hq, e⟩ := e
      split at e
      · rename_i hx
        obtain ⟨n, hn⟩ := iterR_some e
        refine iterR_of (n := n + 1) ?_
        unfold iterN
        rw [hq]; simp only [Option.bind_some, hx]; exact hn
      · rename_i hx
        refine iterR_of (n := 1) ?_
        unfold iterN
        rw [hq]; simp only [Option.bind_some]
        first
          | exact e
          | (split
             · rename_i hx'; exact absurd hx' hx
             · exact e)
  cases hl : iterR body E h with
  | some r => exact ((key r).1 hl).symm
  | none =>
    cases hr : ((body E h).bind fun r => match r.1 with | .nrm => iterR body r.2.1 r.2.2 | _ => some r) with
    | none => rfl
    | some r => rw [(key r).2 hr] at hl; cases hl

/-! ### More calls answered: more is answered -/
section
variable {P : Program}
theorem eOp_mono {c c' : CallF} (hc : LeC c c') {E : Env} {h : H} {op : Op} {r : Option V × H} (e : eOp P c E h op = some r) : eOp P c' E h op = some r := by
  unfold eOp at e ⊢
  split at e <;> (try exact e)
  rename_i cl
  split at e <;> (try exact e)
  simp only [Option.bind_eq_some_iff] at e ⊢
  obtain ⟨g, hg, e⟩ := e
  refine ⟨g, hg, ?_⟩
  split at e <;> (try exact e)
  simp only [Option.bind_eq_some_iff, Option.map_eq_some_iff] at e ⊢
  obtain ⟨vs, hvs, q, hq, e⟩ := e
  exact ⟨vs, hvs, q, hc _ _ _ _ hq, e⟩
theorem evOper_mono {c c' : CallF} (hc : LeC c c') {ops : Array Oper} {N : Nat} {o : Oper} {E : Env} {h : H} {r : Env × H} (e : evOper P c ops N o E h = some r) : evOper P c' ops N o E h = some r := by
  unfold evOper at e ⊢
  simp only [Option.bind_eq_some_iff] at e ⊢
  obtain ⟨b, hb, e⟩ := e
  refine ⟨b, hb, ?_⟩
  split at e
  · split at e
    · rename_i h1 h2; rw [if_pos h1, if_pos h2]; exact e
    · rename_i h1 h2
      rw [if_pos h1, if_neg h2]
      simp only [Option.bind_eq_some_iff] at e ⊢
      obtain ⟨q, hq, e⟩ := e
      exact ⟨q, eOp_mono hc hq, e⟩
  · rename_i h1; rw [if_neg h1]; exact e
theorem evOps_mono {c c' : CallF} (hc : LeC c c') {ops : Array Oper} {N : Nat} : ∀ {l : List Oper} {E : Env} {h : H} {r : Env × H}, evOps P c ops N l E h = some r → evOps P c' ops N l E h = some r
  | [], _, _, _, e => e
  | o :: l, E, h, r, e => by
    simp only [evOps, Option.bind_eq_some_iff] at e ⊢
    obtain ⟨q, hq, e⟩ := e
    exact ⟨q, evOper_mono hc hq, evOps_mono hc e⟩
theorem pcall_mono {c c' : CallF} (hc : LeC c c') {k : Nat} {vs : List V} {v : V} (e : pcall c k vs = some v) : pcall c' k vs = some v := by
  unfold pcall at e ⊢
  split at e
  · rename_i h1
    simp only [Option.bind_eq_some_iff] at e ⊢
    obtain ⟨q, hq, e⟩ := e
    exact ⟨q, hc _ _ _ _ hq, e⟩
  · cases e
theorem pcV_mono {c c' : CallF} (hc : LeC c c') {E : Env} {op : Op} {v : V} (e : pcV c E op = some v) : pcV c' E op = some v := by
  unfold pcV at e ⊢
  split at e <;> (try cases e)
  rename_i cl
  split at e <;> (try cases e)
  simp only [Option.bind_eq_some_iff] at e ⊢
  obtain ⟨g, hg, e⟩ := e
  refine ⟨g, hg, ?_⟩
  split at e <;> (try cases e)
  simp only [Option.bind_eq_some_iff] at e ⊢
  obtain ⟨vs, hvs, e⟩ := e
  exact ⟨vs, hvs, pcall_mono hc e⟩
theorem qpV_mono {c c' : CallF} (hc : LeC c c') {E : Env} {h : H} {op : Op} {v : V} (e : qpV P c E h op = some v) : qpV P c' E h op = some v := by
  unfold qpV at e ⊢
  split at e
  · exact e
  · exact pcV_mono hc e
theorem evAny_mono {c c' : CallF} (hc : LeC c c') {ops : Array Oper} {N : Nat} : ∀ {fuel : Nat} {listed : Array Bool} {L : List (Nat × Nat × Nat)} {E : Env} {h : H} {r : Env × H}, evAny P c ops N fuel listed L E h = some r → evAny P c' ops N fuel listed L E h = some r
  | 0, _, _, _, _, _, e => e
  | fuel + 1, listed, L, E, h, r, e => by
    unfold evAny at e ⊢
    split at e
    · rename_i h1; rw [if_pos h1]; exact e
    · rename_i h1; rw [if_neg h1]
      split at e
      · cases e
      · rename_i i hi
        split at e
        · cases e
        · rename_i o ho
          split at e
          · rename_i h2
            rw [if_pos h2]
            split at e
            · rename_i h3
              rw [if_pos h3]
              simp only [Option.bind_eq_some_iff] at e ⊢
              obtain ⟨b, hb, e⟩ := e
              refine ⟨b, hb, ?_⟩
              cases b with
              | true =>
                simp only [if_true, Option.bind_eq_some_iff] at e ⊢
                obtain ⟨v, hv, E', hE, e⟩ := e
                exact ⟨v, qpV_mono hc hv, E', hE, evAny_mono hc e⟩
              | false =>
                simp only [Bool.false_eq_true, if_false, Option.bind_eq_some_iff] at e ⊢
                obtain ⟨E', hE, e⟩ := e
                exact ⟨E', hE, evAny_mono hc e⟩
            · cases e
          · rename_i h2
            rw [if_neg h2]
            simp only [Option.bind_eq_some_iff] at e ⊢
            obtain ⟨q, hq, e⟩ := e
            refine ⟨q, evOper_mono hc hq, ?_⟩
            split at e
            · rename_i h3; rw [if_pos h3]; exact evAny_mono hc e
            · cases e
theorem iterN_mono {b b' : Env → H → Option (X × Env × H)} (hb : ∀ E h r, b E h = some r → b' E h = some r) : ∀ {n : Nat} {E : Env} {h : H} {r : X × Env × H}, iterN b n E h = some r → iterN b' n E h = some r
  | 0, _, _, _, e => by cases e
  | n + 1, E, h, r, e => by
    unfold iterN at e ⊢
    simp only [Option.bind_eq_some_iff] at e ⊢
    obtain ⟨q, hq, e⟩ := e
    refine ⟨q, hb _ _ _ hq, ?_⟩
    split at e
    · exact iterN_mono hb e
    · exact e
theorem evC_mono {c c' : CallF} (hc : LeC c c') (ann : Nat → List Nat) (N : Nat) : ∀ (cd : Code) (E : Env) (h : H) (r : X × Env × H), evC P c ann N cd E h = some r → evC P c' ann N cd E h = some r := by
  intro cd
  induction cd with
  | region id ops draw =>
    intro E h r e
    cases draw with
    | false =>
      simp only [evC, Option.map_eq_some_iff] at e ⊢
      obtain ⟨q, hq, e⟩ := e
      exact ⟨q, evOps_mono hc hq, e⟩
    | true =>
      simp only [evC] at e ⊢
      split at e
      · rename_i h1
        rw [if_pos h1]
        simp only [Option.map_eq_some_iff] at e ⊢
        obtain ⟨q, hq, e⟩ := e
        exact ⟨q, evAny_mono hc hq, e⟩
      · cases e
  | seq x y ihx ihy =>
    intro E h r e
    simp only [evC, Option.bind_eq_some_iff] at e ⊢
    obtain ⟨q, hq, e⟩ := e
    refine ⟨q, ihx _ _ _ hq, ?_⟩
    split at e
    · exact ihy _ _ _ e
    · exact e
  | cond k x y ihx ihy =>
    intro E h r e
    simp only [evC] at e ⊢
    split at e
    · rename_i t ht
      cases t
      · exact ihy _ _ _ e
      · exact ihx _ _ _ e
    · cases e
  | block id b ih =>
    intro E h r e
    simp only [evC, Option.bind_eq_some_iff] at e ⊢
    obtain ⟨q, hq, e⟩ := e
    exact ⟨q, ih _ _ _ hq, e⟩
  | loop b ih =>
    intro E h r e
    simp only [evC] at e ⊢
    obtain ⟨n, hn⟩ := iterR_some e
    refine iterR_of (iterN_mono (fun E h r hr => ?_) hn)
    simp only [Option.map_eq_some_iff] at hr ⊢
    obtain ⟨q, hq, hr⟩ := hr
    exact ⟨q, ih _ _ _ hq, hr⟩
  | skip => intro E h r e; exact e
  | exit id => intro E h r e; exact e
  | ret => intro E h r e; exact e
  | label l => intro E h r e; exact e
  | rangeFunc f ps x y => intro E h r e; simp only [evC] at e; cases e
  | scope b => intro E h r e; simp only [evC] at e; cases e
  | goto l => intro E h r e; simp only [evC] at e; cases e
  | refuse s => intro E h r e; simp only [evC] at e; cases e
theorem evBody_mono {c c' : CallF} (hc : LeC c c') {ann : Nat → List Nat} {fn : Func} {args : List V} {h : H} {r : V × H} (e : evBody P c ann fn args h = some r) : evBody P c' ann fn args h = some r := by
  unfold evBody at e ⊢
  split at e
  · split at e
    · rename_i h1
      rw [if_pos h1]
      simp only [Option.bind_eq_some_iff] at e ⊢
      obtain ⟨q, hq, e⟩ := e
      exact ⟨q, evC_mono hc _ _ _ _ _ _ hq, e⟩
    · cases e
  · cases e
variable {prims : Prims} {ann : Nat → Nat → List Nat}
theorem evF_succ : ∀ n, LeC (evF P prims ann n) (evF P prims ann (n + 1))
  | 0 => fun f a h r e => by cases e
  | n + 1 => fun f a h r e => by
    unfold evF at e ⊢
    split at e
    · exact e
    · split at e
      · exact evBody_mono (evF_succ n) e
      · cases e
theorem evF_le {n m : Nat} (h : n ≤ m) : LeC (evF P prims ann n) (evF P prims ann m) := by
  induction h with
  | refl => exact LeC.refl _
  | step _ ih => exact ih.trans (evF_succ _)

open Classical in
/-- What a function comes to. -/
noncomputable def run (P : Program) (prims : Prims) (ann : Nat → Nat → List Nat) (f : Nat) (args : List V) (h : H) : Option (V × H) :=
  if hx : ∃ n r, evF P prims ann n f args h = some r then some (Classical.choose (Classical.choose_spec hx)) else none
theorem run_some {f : Nat} {args : List V} {h : H} {r : V × H} (e : run P prims ann f args h = some r) : ∃ n, evF P prims ann n f args h = some r := by
  unfold run at e
  split at e
  · rename_i hx; cases e; exact ⟨_, Classical.choose_spec (Classical.choose_spec hx)⟩
  · cases e
theorem run_of {n : Nat} {f : Nat} {args : List V} {h : H} {r : V × H} (e : evF P prims ann n f args h = some r) : run P prims ann f args h = some r := by
  cases hr : run P prims ann f args h with
  | none => unfold run at hr; rw [dif_pos ⟨n, r, e⟩] at hr; cases hr
  | some q =>
    obtain ⟨m, hm⟩ := run_some hr
    have h1 := evF_le (Nat.le_max_left n m) _ _ _ _ e
    have h2 := evF_le (Nat.le_max_right n m) _ _ _ _ hm
    rw [h1] at h2; exact h2.symm

/-! ### What is answered by 'run' is answered by some count of rounds -/
theorem eOp_cont {E : Env} {h : H} {op : Op} {r : Option V × H} (e : eOp P (run P prims ann) E h op = some r) : ∃ n, eOp P (evF P prims ann n) E h op = some r := by
  unfold eOp at e ⊢
  split at e <;> (try exact ⟨0, e⟩)
  rename_i cl
  split at e <;> (try exact ⟨0, e⟩)
  simp only [Option.bind_eq_some_iff] at e ⊢
  obtain ⟨g, hg, e⟩ := e
  split at e <;> (try (exact ⟨0, g, hg, e⟩))
  · rename_i k caps
    simp only [Option.bind_eq_some_iff, Option.map_eq_some_iff] at e
    obtain ⟨vs, hvs, q, hq, e⟩ := e
    obtain ⟨n, hn⟩ := run_some hq
    refine ⟨n, _, hg, ?_⟩
    simp only [Option.bind_eq_some_iff, Option.map_eq_some_iff]
    exact ⟨vs, hvs, q, hn, e⟩
  · cases e
theorem evOper_cont {ops : Array Oper} {N : Nat} {o : Oper} {E : Env} {h : H} {r : Env × H} (e : evOper P (run P prims ann) ops N o E h = some r) : ∃ n, evOper P (evF P prims ann n) ops N o E h = some r := by
  unfold evOper at e ⊢
  simp only [Option.bind_eq_some_iff] at e ⊢
  obtain ⟨b, hb, e⟩ := e
  split at e
  · split at e
    · rename_i h1 h2; exact ⟨0, b, hb, by rw [if_pos h1, if_pos h2]; exact e⟩
    · rename_i h1 h2
      simp only [Option.bind_eq_some_iff] at e
      obtain ⟨q, hq, e⟩ := e
      obtain ⟨n, hn⟩ := eOp_cont hq
      exact ⟨n, b, hb, by rw [if_pos h1, if_neg h2, hn]; exact e⟩
  · rename_i h1; exact ⟨0, b, hb, by rw [if_neg h1]; exact e⟩
theorem evOps_cont {ops : Array Oper} {N : Nat} : ∀ {l : List Oper} {E : Env} {h : H} {r : Env × H}, evOps P (run P prims ann) ops N l E h = some r → ∃ n, evOps P (evF P prims ann n) ops N l E h = some r
  | [], _, _, _, e => ⟨0, e⟩
  | o :: l, E, h, r, e => by
    simp only [evOps, Option.bind_eq_some_iff] at e
    obtain ⟨q, hq, e⟩ := e
    obtain ⟨n, hn⟩ := evOper_cont hq
    obtain ⟨m, hm⟩ := evOps_cont e
    refine ⟨max n m, ?_⟩
    simp only [evOps, Option.bind_eq_some_iff]
    exact ⟨q, evOper_mono (evF_le (Nat.le_max_left n m)) hn, evOps_mono (evF_le (Nat.le_max_right n m)) hm⟩
theorem pcV_cont {E : Env} {op : Op} {v : V} (e : pcV (run P prims ann) E op = some v) : ∃ n, pcV (evF P prims ann n) E op = some v := by
  unfold pcV at e ⊢
  split at e <;> (try cases e)
  rename_i cl
  split at e <;> (try cases e)
  simp only [Option.bind_eq_some_iff] at e ⊢
  obtain ⟨g, hg, e⟩ := e
  split at e <;> (try cases e)
  simp only [Option.bind_eq_some_iff] at e
  obtain ⟨vs, hvs, e⟩ := e
  unfold pcall at e
  split at e <;> (try cases e)
  rename_i hs
  simp only [Option.bind_eq_some_iff] at e
  obtain ⟨q, hq, e⟩ := e
  obtain ⟨n, hn⟩ := run_some hq
  refine ⟨n, _, hg, ?_⟩
  simp only [Option.bind_eq_some_iff]
  refine ⟨vs, hvs, ?_⟩
  unfold pcall
  simp only [hs, Option.bind_eq_some_iff]
  exact ⟨q, hn, e⟩
theorem qpV_cont {E : Env} {h : H} {op : Op} {v : V} (e : qpV P (run P prims ann) E h op = some v) : ∃ n, qpV P (evF P prims ann n) E h op = some v := by
  unfold qpV at e ⊢
  split at e
  · exact ⟨0, e⟩
  · exact pcV_cont e
theorem evAny_cont {ops : Array Oper} {N : Nat} : ∀ {fuel : Nat} {listed : Array Bool} {L : List (Nat × Nat × Nat)} {E : Env} {h : H} {r : Env × H}, evAny P (run P prims ann) ops N fuel listed L E h = some r → ∃ n, evAny P (evF P prims ann n) ops N fuel listed L E h = some r
  | 0, _, _, _, _, _, e => ⟨0, e⟩
  | fuel + 1, listed, L, E, h, r, e => by
    unfold evAny at e ⊢
    split at e
    · rename_i h1; simp only [h1, if_true]; exact ⟨0, e⟩
    · rename_i h1; simp only [h1, if_false]
      split at e
      · cases e
      · rename_i i hi
        split at e
        · cases e
        · rename_i o ho
          split at e
          · rename_i h2
            simp only [h2, if_true]
            split at e
            · rename_i h3
              simp only [h3, if_true]
              simp only [Option.bind_eq_some_iff] at e ⊢
              obtain ⟨b, hb, e⟩ := e
              cases b with
              | true =>
                simp only [if_true, Option.bind_eq_some_iff] at e
                obtain ⟨v, hv, E', hE, e⟩ := e
                obtain ⟨n, hn⟩ := evAny_cont e
                obtain ⟨m, hm⟩ := qpV_cont hv
                refine ⟨max n m, ?_⟩
                rw [hb]; simp only [Option.bind_some, if_true, qpV_mono (evF_le (Nat.le_max_right n m)) hm, hE]; exact evAny_mono (evF_le (Nat.le_max_left n m)) hn
              | false =>
                simp only [Bool.false_eq_true, if_false, Option.bind_eq_some_iff] at e
                obtain ⟨E', hE, e⟩ := e
                obtain ⟨n, hn⟩ := evAny_cont e
                refine ⟨n, ?_⟩
                rw [hb]; simp only [Option.bind_some, Bool.false_eq_true, if_false, hE]; exact hn
            · cases e
          · rename_i h2
            simp only [h2, if_false, Bool.false_eq_true]
            simp only [Option.bind_eq_some_iff] at e
            obtain ⟨q, hq, e⟩ := e
            split at e
            · rename_i h3
              obtain ⟨n, hn⟩ := evOper_cont hq
              obtain ⟨m, hm⟩ := evAny_cont e
              refine ⟨max n m, ?_⟩
              simp only [Option.bind_eq_some_iff]
              exact ⟨q, evOper_mono (evF_le (Nat.le_max_left n m)) hn, by rw [if_pos h3]; exact evAny_mono (evF_le (Nat.le_max_right n m)) hm⟩
            · cases e
theorem evC_cont (an : Nat → List Nat) (N : Nat) : ∀ (cd : Code) (E : Env) (h : H) (r : X × Env × H), evC P (run P prims ann) an N cd E h = some r → ∃ n, evC P (evF P prims ann n) an N cd E h = some r := by
  intro cd
  induction cd with
  | region id ops draw =>
    intro E h r e
    cases draw with
    | false =>
      simp only [evC, Option.map_eq_some_iff] at e ⊢
      obtain ⟨q, hq, e⟩ := e
      obtain ⟨n, hn⟩ := evOps_cont hq
      exact ⟨n, q, hn, e⟩
    | true =>
      simp only [evC] at e ⊢
      split at e
      · rename_i h1
        simp only [Option.map_eq_some_iff] at e
        obtain ⟨q, hq, e⟩ := e
        obtain ⟨n, hn⟩ := evAny_cont hq
        exact ⟨n, by rw [if_pos h1, hn]; simpa using e⟩
      · cases e
  | seq x y ihx ihy =>
    intro E h r e
    simp only [evC, Option.bind_eq_some_iff] at e ⊢
    obtain ⟨q, hq, e⟩ := e
    obtain ⟨n, hn⟩ := ihx _ _ _ hq
    split at e
    · rename_i hx
      obtain ⟨m, hm⟩ := ihy _ _ _ e
      exact ⟨max n m, q, evC_mono (evF_le (Nat.le_max_left n m)) _ _ _ _ _ _ hn, by simp only [hx]; exact evC_mono (evF_le (Nat.le_max_right n m)) _ _ _ _ _ _ hm⟩
    · rename_i hx; exact ⟨n, q, hn, by split <;> first | exact e | (rename_i hx'; exact absurd hx' hx)⟩
  | cond k x y ihx ihy =>
    intro E h r e
    simp only [evC] at e ⊢
    split at e
    · rename_i t ht
      cases t
      · exact ihy _ _ _ e
      · exact ihx _ _ _ e
    · cases e
  | block id b ih =>
    intro E h r e
    simp only [evC, Option.bind_eq_some_iff] at e ⊢
    obtain ⟨q, hq, e⟩ := e
    obtain ⟨n, hn⟩ := ih _ _ _ hq
    exact ⟨n, q, hn, e⟩
  | loop b ih =>
    intro E h r e
    simp only [evC] at e ⊢
    obtain ⟨m, hm⟩ := iterR_some e
    have key : ∀ (m : Nat) (E : Env) (h : H), iterN (fun E h => (evC P (run P prims ann) an N b E h).map fun r => match r.1 with | .nrm => (.nrm, keepAt an b r.2.1, r.2.2) | _ => r) m E h = some r →
        ∃ n, iterN (fun E h => (evC P (evF P prims ann n) an N b E h).map fun r => match r.1 with | .nrm => (.nrm, keepAt an b r.2.1, r.2.2) | _ => r) m E h = some r := by
      intro m
      induction m with
      | zero => intro E h e; cases e
      | succ m ihm =>
        intro E h e
        unfold iterN at e
        simp only [Option.bind_eq_some_iff, Option.map_eq_some_iff] at e
        obtain ⟨q, ⟨q1, hq1, rfl⟩, e⟩ := e
        obtain ⟨n, hn⟩ := ih _ _ _ hq1
        split at e
        · rename_i hx
          obtain ⟨n', hn'⟩ := ihm _ _ e
          refine ⟨max n n', ?_⟩
          unfold iterN
          simp only [Option.bind_eq_some_iff, Option.map_eq_some_iff]
          refine ⟨_, ⟨q1, evC_mono (evF_le (Nat.le_max_left n n')) _ _ _ _ _ _ hn, rfl⟩, ?_⟩
          simp only [hx]
          refine iterN_mono (fun E h r hr => ?_) hn'
          simp only [Option.map_eq_some_iff] at hr ⊢
          obtain ⟨z, hz, hr⟩ := hr
          exact ⟨z, evC_mono (evF_le (Nat.le_max_right n n')) _ _ _ _ _ _ hz, hr⟩
        · rename_i hx
          refine ⟨n, ?_⟩
          unfold iterN
          simp only [Option.bind_eq_some_iff, Option.map_eq_some_iff]
          refine ⟨_, ⟨q1, hn, rfl⟩, ?_⟩
          split
          · rename_i hx'; exact absurd hx' hx
          · exact e
    obtain ⟨n, hn⟩ := key m _ _ hm
    exact ⟨n, iterR_of hn⟩
  | skip => intro E h r e; exact ⟨0, e⟩
  | exit id => intro E h r e; exact ⟨0, e⟩
  | ret => intro E h r e; exact ⟨0, e⟩
  | label l => intro E h r e; exact ⟨0, e⟩
  | rangeFunc f ps x y => intro E h r e; simp only [evC] at e; cases e
  | scope b => intro E h r e; simp only [evC] at e; cases e
  | goto l => intro E h r e; simp only [evC] at e; cases e
  | refuse s => intro E h r e; simp only [evC] at e; cases e

/-- A function with a body: what its body comes to. -/
theorem run_body {f : Nat} {fn : Func} (hp : prims f = none) (hf : P.funcs[f]? = some fn) {args : List V} {h : H} {r : V × H} (e : evBody P (run P prims ann) (ann f) fn args h = some r) : run P prims ann f args h = some r := by
  have hex : ∃ n, evBody P (evF P prims ann n) (ann f) fn args h = some r := by
    unfold evBody at e ⊢
    split at e
    · rename_i c hb
      split at e
      · rename_i h1
        simp only [Option.bind_eq_some_iff] at e
        obtain ⟨q, hq, e⟩ := e
        obtain ⟨n, hn⟩ := evC_cont _ _ _ _ _ _ hq
        exact ⟨n, by rw [if_pos h1, hn]; exact e⟩
      · cases e
    · cases e
  obtain ⟨n, hn⟩ := hex
  refine run_of (n := n + 1) ?_
  unfold evF
  rw [hp]; simp only [hf]; exact hn
theorem run_prim {f : Nat} {p : List V → H → Option (V × H)} (hp : prims f = some p) {args : List V} {h : H} {r : V × H} (e : p args h = some r) : run P prims ann f args h = some r := by
  refine run_of (n := 1) ?_
  unfold evF
  rw [hp]; exact e
/-- The model's call. -/
theorem run_calls (B : Nat) (hm : P.follows .mixedOrders = true) (hprims : ∀ B f p, prims f = some p → PrimOk P B f p) {f : Nat} {args : List V} {h : H} {r : V} {h' : H} (e : run P prims ann f args h = some (r, h')) {β : Bet} {w : World} {argsC : List Value} (ha : All2 (RelV β) args argsC) (hH : RelH B β h w) :
    Calls P f argsC.toArray w (Ret B β h w r h') := by
  obtain ⟨n, hn⟩ := run_some e
  exact (evF_sim hm hprims n B f args h r h' hn).2 β w argsC ha hH
end
end Go.Proofs.Ythoabddfionmoaa.AH
namespace Go.Proofs.Ythoabddfionmoaa.AH
open Go Go.RowKit
variable {P : Program} {R : Type}

def putK (N : Nat) (E : Env) (d : Option Tmp) (v : V) (k : Env → Option R) : Option R :=
  match d with
  | none => k E
  | some d => if d < N then k (Env.put E d v) else none
/-- Both values of a guard. -/
def spl (g : Bool) (v : V) (k : V → Option R) : Option R :=
  match g with
  | false => k v
  | true => match v with
    | .bool true => k (.bool true)
    | .bool false => k (.bool false)
    | _ => none
/-- append, its answer told plainly. -/
def appW (P : Program) (h : H) (t tx : TypeId) (s x : V) : Option (V × H) :=
  match s with
  | .sl ez id off len => (elemOf' P t).bind fun e => (zeroOf P e.1).bind fun z => (srcV P h tx e.2.1 x).bind fun y =>
      if y.1 = 0 then some (.sl ez id off len, h) else
      if (len + y.1) * e.2.2 ≤ 140737488355328 ∧ len + y.1 ≤ 4611686018427387904 ∧ (id = 0 ∧ len = 0 ∨ (h.blk id).alive = true ∧ h.lo ≤ id ∧ id ≠ 0 ∧ ez = e.2.1) ∧ z.length = e.2.1 then
        (if len = 0 then some [] else h.load id off (len * e.2.1)).bind fun olds => some (.sl e.2.1 h.next 0 (len + y.1), (h.new (olds ++ y.2)).kill id)
      else none
  | _ => none
theorem appV_eq (h : H) (t tx : TypeId) (s x : V) : appV P h t tx s x = (appW P h t tx s x).map fun r => (some r.1, r.2) := by
  cases s <;> try rfl
  · rename_i ez id off len
    simp only [appV, appW]
    cases elemOf' P t with
    | none => rfl
    | some e =>
      simp only [Option.bind_some]
      cases zeroOf P e.1 with
      | none => rfl
      | some z =>
        simp only [Option.bind_some]
        cases srcV P h tx e.2.1 x with
        | none => rfl
        | some y =>
          simp only [Option.bind_some]
          split
          · rfl
          · split
            · generalize (if len = 0 then some [] else h.load id off (len * e.2.1)) = q
              cases q <;> rfl
            · rfl
def kE (P : Program) (call : CallF) (E : Env) (h : H) (op : Op) (k : Option V → H → Option R) : Option R :=
  match op with
  | .alloc t => (zeroOf P t).bind fun z => k (some (.ptr h.next 0)) (h.new z)
  | .box t x => (opd E x).bind fun v => (cellsV v).bind fun cs => k (some (.ptr h.next 0)) (h.new cs)
  | .store t a x => (opd E a).bind fun p => (opd E x).bind fun v => (cellsV v).bind fun vs => match p with
    | .ptr id off => (ldTy P t).bind fun y => if vs.length = y.1 then (h.store id off vs).bind fun h' => k none h' else none
    | _ => none
  | .call c => match c.callee, c.args.toList, c.argTypes.toList with
    | .builtin .append, [s, x], t :: tx :: _ => (opd E s).bind fun a => (opd E x).bind fun b => (appW P h t tx a b).bind fun r => k (some r.1) r.2
    | .value f, args, _ => (opd E f).bind fun g => match g with
      | .fn f caps => (opds E args).bind fun vs => (call f (vs ++ caps.map fun p => V.ptr p.1 p.2) h).bind fun r => k (some r.1) r.2
      | _ => none
    | _, _, _ => none
  | .buildSlice t n parts => (elemOf' P t).bind fun e => if n * e.2.1 ≤ 16777216 then (zeroOf P e.1).bind fun z =>
      if n * e.2.1 = 0 ∨ z.length = e.2.1 then
        (fillV (fun i => some (i * e.2.1, e.2.1)) E parts.toList ((List.replicate n z).flatten)).bind fun cs => k (some (.sl e.2.1 h.next 0 n)) (h.new cs)
      else none
    else none
  | .makeSlice t l c => (opd E l).bind fun a => (opd E c).bind fun b => (elemOf' P t).bind fun e => (zeroOf P e.1).bind fun z => match a, b with
    | .int _ n, .int _ m => if n = m ∧ 0 ≤ n ∧ n ≤ 4611686018427387904 ∧ (e.2.2 : Int) * n ≤ 281474976710656 ∧ z.length = e.2.1 then k (some (.sl e.2.1 h.next 0 n.toNat)) (h.new ((List.replicate n.toNat z).flatten)) else none
    | _, _ => none
  | .convert s d x => (opd E x).bind fun v => (cvtW P h s d v).bind fun r => k (some r.1) r.2
  | _ => none
theorem kE_eq (call : CallF) (E : Env) (h : H) (op : Op) (k : Option V → H → Option R) : kE P call E h op k = (eOp P call E h op).bind fun r => k r.1 r.2 := by
  unfold kE
  split
  · simp only [eOp]; cases zeroOf P _ <;> rfl
  · simp only [eOp, Option.bind_assoc]
    congr 1; funext v
    cases cellsV v <;> rfl
  · simp only [eOp, Option.bind_assoc]
    congr 1; funext p; congr 1; funext v; congr 1; funext vs
    cases p <;> try rfl
    simp only [Option.bind_assoc]
    congr 1; funext y
    split
    · cases h.store _ _ _ <;> rfl
    · rfl
  · rename_i c
    simp only [eOp]
    split
    · rename_i s x t tx ts h1 h2 h3
      simp only [h1, h2, h3]
      cases opd E s with
      | none => rfl
      | some a =>
        cases opd E x with
        | none => rfl
        | some b =>
          simp only [Option.bind_some, appV_eq]
          cases appW P h t tx a b <;> rfl
    · rename_i f h1
      simp only [h1]
      cases opd E f with
      | none => rfl
      | some g =>
        simp only [Option.bind_some]
        cases g <;> try rfl
        simp only
        cases opds E c.args.toList with
        | none => rfl
        | some vs =>
          simp only [Option.bind_some]
          cases call _ _ h <;> rfl
    · rename_i hf ha
      split
      · rename_i h1 h2 h3; exact absurd h3 (ha _ _ _ _ _ h1 h2)
      · rename_i h1; exact absurd h1 (hf _)
      · rfl
  · rename_i t n parts
    simp only [eOp]
    cases elemOf' P t with
    | none => rfl
    | some e =>
      simp only [Option.bind_some]
      split
      · cases zeroOf P e.1 with
        | none => rfl
        | some z =>
          simp only [Option.bind_some]
          split
          · cases fillV (fun i => some (i * e.2.1, e.2.1)) E parts.toList ((List.replicate n z).flatten) <;> rfl
          · rfl
      · rfl
  · rename_i t l c
    simp only [eOp]
    cases opd E l with
    | none => rfl
    | some a =>
      cases opd E c with
      | none => rfl
      | some b =>
        cases elemOf' P t with
        | none => rfl
        | some e =>
          simp only [Option.bind_some]
          cases zeroOf P e.1 with
          | none => rfl
          | some z =>
            simp only [Option.bind_some]
            cases a <;> try rfl
            cases b <;> try rfl
            simp only
            split <;> rfl
  · rename_i s d x
    simp only [eOp]
    cases opd E x with
    | none => rfl
    | some v =>
      simp only [Option.bind_some]
      cases cvtW P h s d v <;> rfl
  · rename_i h1 h2 h3 h4 h5 h6 h7
    cases op <;> first | rfl | (exfalso; first | exact h1 _ rfl | exact h2 _ _ rfl | exact h3 _ _ _ rfl | exact h4 _ rfl | exact h5 _ _ _ rfl | exact h6 _ _ _ rfl | exact h7 _ _ _ rfl)
def kOper (P : Program) (call : CallF) (ops : Array Oper) (N i : Nat) (o : Oper) (E : Env) (h : H) (k : Env → H → Option R) : Option R :=
  match wantedV ops o E with
  | none => none
  | some false => putK N E o.dst (.tup []) fun E' => k E' h
  | some true =>
    match isQ P o.op with
    | true => (qOp P E h o.op).bind fun v => spl (isGuard ops o) v fun v => putK N E o.dst v fun E' => k E' h
    | false => kE P call E h o.op fun rv h' => match rv with
      | some v => spl (isGuard ops o) v fun v => putK N E o.dst v fun E' => k E' h'
      | none => k (del1 E o.dst) h'
theorem putK_eq (N : Nat) (E : Env) (d : Option Tmp) (v : V) (k : Env → Option R) : putK N E d v k = (put1 N E d v).bind k := by
  cases d with
  | none => rfl
  | some d => simp only [putK, put1]; split <;> rfl
theorem splK_eq (ops : Array Oper) (N : Nat) (o : Oper) (E : Env) (v : V) (k : Env → Option R) : (spl (isGuard ops o) v fun v => putK N E o.dst v k) = (gput ops N o E v).bind k := by
  unfold spl gput
  cases isGuard ops o with
  | false => exact putK_eq _ _ _ _ _
  | true =>
    cases v <;> try rfl
    rename_i b
    cases b <;> exact putK_eq _ _ _ _ _
theorem kOper_eq (call : CallF) (ops : Array Oper) (N i : Nat) (o : Oper) (E : Env) (h : H) (k : Env → H → Option R) : kOper P call ops N i o E h k = (evOper P call ops N o E h).bind fun x => k x.1 x.2 := by
  unfold kOper evOper
  cases hw : wantedV ops o E with
  | none => rfl
  | some b =>
    cases b with
    | false =>
      simp only [Option.bind_some, Bool.false_eq_true, if_false, putK_eq]
      cases put1 N E o.dst (.tup []) <;> rfl
    | true =>
      simp only [Option.bind_some, if_true]
      cases hq : isQ P o.op with
      | true =>
        simp only [if_true, splK_eq]
        cases qOp P E h o.op with
        | none => rfl
        | some v => simp only [Option.bind_some]; cases gput ops N o E v <;> rfl
      | false =>
        simp only [Bool.false_eq_true, if_false, splK_eq, kE_eq]
        cases eOp P call E h o.op with
        | none => rfl
        | some r =>
          obtain ⟨rv, h'⟩ := r
          cases rv with
          | none => rfl
          | some v => simp only [Option.bind_some]; cases gput ops N o E v <;> rfl
def kOps (P : Program) (call : CallF) (ops : Array Oper) (N : Nat) : Nat → List Oper → Env → H → (Env → H → Option R) → Option R
  | _, [], E, h, k => k E h
  | i, o :: r, E, h, k => kOper P call ops N i o E h fun E h => kOps P call ops N (i + 1) r E h k
theorem kOps_eq (call : CallF) (ops : Array Oper) (N : Nat) : ∀ (i : Nat) (l : List Oper) (E : Env) (h : H) (k : Env → H → Option R), kOps P call ops N i l E h k = (evOps P call ops N l E h).bind fun x => k x.1 x.2
  | i, [], E, h, k => rfl
  | i, o :: r, E, h, k => by
    unfold kOps evOps
    rw [kOper_eq]
    cases evOper P call ops N o E h with
    | none => rfl
    | some x => simp only [Option.bind_some]; exact kOps_eq call ops N _ r _ _ k
/-- What waits, by its pointer and the heap in which it was read. -/
def rdsV : Nat × Bool × V × H → List (Nat × Nat × Nat)
  | (i, true, p, h) => match p with
    | .ptr id _ => [(i, id, (h.blk id).ver)]
    | _ => []
  | (i, false, p, h) => match p with
    | .sl _ id _ n => if n = 0 ∨ id = 0 then [] else [(i, id, (h.blk id).ver)]
    | _ => []
def readsK (E : Env) (h : H) (i : Nat) : Op → List (Nat × Bool × V × H)
  | .load _ a => match opd E a with | some p => [(i, true, p, h)] | none => []
  | .convert _ _ x => match opd E x with | some p => [(i, false, p, h)] | none => []
  | _ => []
theorem readsK_eq (E : Env) (h : H) (i : Nat) (op : Op) : (readsK E h i op).flatMap rdsV = readsOf E h i op := by
  cases op <;> try rfl
  · rename_i t a
    simp only [readsK, readsOf]
    cases opd E a with
    | none => rfl
    | some p => cases p <;> rfl
  · rename_i s d x
    simp only [readsK, readsOf]
    cases opd E x with
    | none => rfl
    | some p => cases p <;> simp [rdsV]
def pendK (h' : H) (o : Oper) : List (Nat × Bool × V × H) → Option R → Option R
  | [], k => k
  | (i, b, p, h) :: r, k => match edgeOn o i with
    | true => pendK h' o r k
    | false => match b with
      | true => match p with
        | .ptr id _ => if (h'.blk id).ver = (h.blk id).ver then pendK h' o r k else none
        | _ => pendK h' o r k
      | false => match p with
        | .sl _ id _ n => if n = 0 ∨ id = 0 then pendK h' o r k else if (h'.blk id).ver = (h.blk id).ver then pendK h' o r k else none
        | _ => pendK h' o r k
theorem pend_append (h' : H) (o : Oper) (a b : List (Nat × Nat × Nat)) : pend h' o (a ++ b) = (pend h' o a && pend h' o b) := by
  unfold pend; rw [List.all_append]
theorem pend_one (h' : H) (o : Oper) (i id ver : Nat) : pend h' o [(i, id, ver)] = (edgeOn o i || (h'.blk id).ver == ver) := by
  unfold pend; simp
theorem pendK_eq (h' : H) (o : Oper) (k : Option R) : ∀ (L : List (Nat × Bool × V × H)), pendK h' o L k = if pend h' o (L.flatMap rdsV) then k else none
  | [] => rfl
  | (i, b, p, h) :: r => by
    have h2 := pendK_eq h' o k r
    have h1 : ((i, b, p, h) :: r).flatMap rdsV = rdsV (i, b, p, h) ++ r.flatMap rdsV := rfl
    rw [h1, pend_append]
    generalize pend h' o (r.flatMap rdsV) = q at h2
    unfold pendK
    rw [h2]
    have hone : ∀ id : Nat, pend h' o [(i, id, (h.blk id).ver)] = (edgeOn o i || (h'.blk id).ver == (h.blk id).ver) := fun id => pend_one _ _ _ _ _
    by_cases he : edgeOn o i = true
    · have : pend h' o (rdsV (i, b, p, h)) = true := by
        cases b <;> cases p <;> simp only [rdsV] <;> first | rfl | (rw [hone, he]; rfl) | (split; · rfl
                                                                                           · rw [hone, he]; rfl)
      rw [this, he]; cases q <;> rfl
    · have he' : edgeOn o i = false := by simpa using he
      rw [he']
      have chk : ∀ id : Nat, (if (h'.blk id).ver = (h.blk id).ver then (if q = true then k else none) else none) = if (pend h' o [(i, id, (h.blk id).ver)] && q) = true then k else none := fun id => by
        rw [hone, he']
        by_cases e : (h'.blk id).ver = (h.blk id).ver
        · rw [if_pos e, e]; cases q <;> simp
        · have : ((h'.blk id).ver == (h.blk id).ver) = false := by simpa using e
          rw [if_neg e, this]; cases q <;> rfl
      have nil : ∀ A : List (Nat × Nat × Nat), A = [] → (if q = true then k else none) = if (pend h' o A && q) = true then k else none := fun A hA => by
        subst hA; cases q <;> rfl
      have one : ∀ (A : List (Nat × Nat × Nat)) (id : Nat), A = [(i, id, (h.blk id).ver)] → (if (h'.blk id).ver = (h.blk id).ver then (if q = true then k else none) else none) = if (pend h' o A && q) = true then k else none := fun A id hA => by
        subst hA; exact chk id
      cases b with
      | true =>
        cases p with
        | ptr id off => exact one _ id rfl
        | _ => exact nil _ rfl
      | false =>
        cases p with
        | sl e id off n =>
          by_cases hz : n = 0 ∨ id = 0
          · simp only [hz, if_true]; exact nil _ (by simp [rdsV, hz])
          · simp only [hz, if_false]; exact one _ id (by simp only [rdsV, hz, if_false])
        | _ => exact nil _ rfl
def kAny (P : Program) (call : CallF) (ops : Array Oper) (N : Nat) : Nat → Array Bool → List (Nat × Bool × V × H) → Env → H → (Env → H → Option R) → Option R
  | 0, listed, _, E, h, k => match (Region.ready .any ops listed).isEmpty with | true => k E h | false => none
  | fuel + 1, listed, L, E, h, k =>
    match (Region.ready .any ops listed).isEmpty with
    | true => k E h
    | false => match pickNext P ops listed with
      | none => none
      | some i => match ops[i]? with
        | none => none
        | some o => match isA P ops listed o with
          | true => match Region.free .any ops listed i with
            | true => match wantedV ops o E with
              | none => none
              | some true => (qpV P call E h o.op).bind fun v => spl (isGuard ops o) v fun v => putK N E o.dst v fun E' => kAny P call ops N fuel (listed.setIfInBounds i true) (readsK E h i o.op ++ L) E' h k
              | some false => putK N E o.dst (.tup []) fun E' => kAny P call ops N fuel (listed.setIfInBounds i true) L E' h k
            | false => none
          | false => kOper P call ops N i o E h fun E' h' => pendK h' o L (kAny P call ops N fuel (listed.setIfInBounds i true) L E' h' k)
theorem kAny_eq (call : CallF) (ops : Array Oper) (N : Nat) : ∀ (fuel : Nat) (listed : Array Bool) (L : List (Nat × Bool × V × H)) (E : Env) (h : H) (k : Env → H → Option R), kAny P call ops N fuel listed L E h k = (evAny P call ops N fuel listed (L.flatMap rdsV) E h).bind fun x => k x.1 x.2
  | 0, listed, L, E, h, k => by
    unfold kAny evAny
    cases (Region.ready .any ops listed).isEmpty <;> rfl
  | fuel + 1, listed, L, E, h, k => by
    unfold kAny evAny
    cases (Region.ready .any ops listed).isEmpty with
    | true => rfl
    | false =>
      simp only [Bool.false_eq_true, if_false]
      cases pickNext P ops listed with
      | none => rfl
      | some i =>
        simp only
        cases ops[i]? with
        | none => rfl
        | some o =>
          simp only
          cases isA P ops listed o with
          | true =>
            simp only [if_true]
            cases Region.free .any ops listed i with
            | false => rfl
            | true =>
              simp only [if_true]
              cases wantedV ops o E with
              | none => rfl
              | some b =>
                cases b with
                | false =>
                  simp only [Option.bind_some, Bool.false_eq_true, if_false, putK_eq]
                  cases put1 N E o.dst (.tup []) with
                  | none => rfl
                  | some E' => simp only [Option.bind_some]; exact kAny_eq call ops N fuel _ _ _ _ k
                | true =>
                  simp only [Option.bind_some, if_true, splK_eq]
                  cases qpV P call E h o.op with
                  | none => rfl
                  | some v =>
                    simp only [Option.bind_some]
                    cases gput ops N o E v with
                    | none => rfl
                    | some E' =>
                      simp only [Option.bind_some]
                      rw [kAny_eq call ops N fuel, List.flatMap_append, readsK_eq]
          | false =>
            simp only [Bool.false_eq_true, if_false, kOper_eq, pendK_eq]
            cases evOper P call ops N o E h with
            | none => rfl
            | some x =>
              simp only [Option.bind_some]
              split
              · exact kAny_eq call ops N fuel _ _ _ _ k
              · rfl

/-- A loop's body, as the evaluator iterates it. -/
noncomputable def lbody (P : Program) (call : CallF) (ann : Nat → List Nat) (N : Nat) (c : Code) : Env → H → Option (X × Env × H) :=
  fun E h => (evC P call ann N c E h).map fun r => match r.1 with | .nrm => (.nrm, keepAt ann c r.2.1, r.2.2) | _ => r
noncomputable def loopK (P : Program) (call : CallF) (ann : Nat → List Nat) (N : Nat) (c : Code) (k : X → Env → H → Option R) (E : Env) (h : H) : Option R :=
  (iterR (lbody P call ann N c) E h).bind fun r => k r.1 r.2.1 r.2.2
/-- What follows the first of two. -/
def sqK (b : X → Env → H → Option R) (k : X → Env → H → Option R) : X → Env → H → Option R
  | .nrm, E, h => b .nrm E h
  | .ex id, E, h => k (.ex id) E h
  | .ret, E, h => k .ret E h
def bkK (id : Nat) (k : X → Env → H → Option R) : X → Env → H → Option R
  | .nrm, E, h => k .nrm E h
  | .ex i, E, h => if i = id then k .nrm E h else k (.ex i) E h
  | .ret, E, h => k .ret E h
def lpK (l : Env → H → Option R) (k : X → Env → H → Option R) : X → Env → H → Option R
  | .nrm, E, h => l E h
  | .ex i, E, h => k (.ex i) E h
  | .ret, E, h => k .ret E h
noncomputable def kC (P : Program) (call : CallF) (ann : Nat → List Nat) (N : Nat) : Code → (X → Env → H → Option R) → Env → H → Option R
  | .skip, k, E, h => k .nrm E h
  | .region _ ops false, k, E, h => kOps P call ops N 0 ops.toList E h fun E h => k .nrm E h
  | .region _ ops true, k, E, h => match Region.noSelect ops with
    | true => kAny P call ops N ops.size (Array.replicate ops.size false) [] E h fun E h => k .nrm E h
    | false => none
  | .seq a b, k, E, h => kC P call ann N a (sqK (fun _ E h => kC P call ann N b k (keepAt ann b E) h) k) E h
  | .cond c a b, k, E, h => match opd E c with
    | some (.bool true) => kC P call ann N a k (keepAt ann a E) h
    | some (.bool false) => kC P call ann N b k (keepAt ann b E) h
    | _ => none
  | .block id c, k, E, h => kC P call ann N c (bkK id k) E h
  | .loop c, k, E, h => loopK P call ann N c k (keepAt ann c E) h
  | .exit id, k, E, h => k (.ex id) E h
  | .ret, k, E, h => k .ret E h
  | .label _, k, E, h => k .nrm E h
  | _, _, _, _ => none
theorem kC_eq (call : CallF) (ann : Nat → List Nat) (N : Nat) : ∀ (c : Code) (k : X → Env → H → Option R) (E : Env) (h : H), kC P call ann N c k E h = (evC P call ann N c E h).bind fun r => k r.1 r.2.1 r.2.2 := by
  intro c
  induction c with
  | region id ops draw =>
    intro k E h
    cases draw with
    | false =>
      simp only [kC, evC, kOps_eq]
      cases evOps P call ops N ops.toList E h <;> rfl
    | true =>
      simp only [kC, evC, kAny_eq, List.flatMap_nil]
      cases Region.noSelect ops with
      | false => rfl
      | true =>
        simp only [if_true]
        cases evAny P call ops N ops.size (Array.replicate ops.size false) [] E h <;> rfl
  | seq a b iha ihb =>
    intro k E h
    simp only [kC, evC, iha]
    cases evC P call ann N a E h with
    | none => rfl
    | some r =>
      obtain ⟨x, E1, h1⟩ := r
      cases x with
      | nrm => simp only [Option.bind_some, sqK, ihb]
      | ex id => rfl
      | ret => rfl
  | cond c a b iha ihb =>
    intro k E h
    simp only [kC, evC]
    cases hc : opd E c with
    | none => rfl
    | some v =>
      cases v with
      | bool t => cases t <;> simp [iha, ihb]
      | _ => rfl
  | block id c ih =>
    intro k E h
    simp only [kC, evC, ih]
    cases evC P call ann N c E h with
    | none => rfl
    | some r =>
      obtain ⟨x, E1, h1⟩ := r
      cases x with
      | nrm => rfl
      | ex i => simp only [Option.bind_some, bkK]; split <;> rfl
      | ret => rfl
  | loop c ih => intro k E h; rfl
  | skip => intro k E h; rfl
  | exit id => intro k E h; rfl
  | ret => intro k E h; rfl
  | label l => intro k E h; rfl
  | rangeFunc f ps x y => intro k E h; simp only [kC, evC]; rfl
  | scope b => intro k E h; simp only [kC, evC]; rfl
  | goto l => intro k E h; simp only [kC, evC]; rfl
  | refuse s => intro k E h; simp only [kC, evC]; rfl
theorem loopK_eq (call : CallF) (ann : Nat → List Nat) (N : Nat) (c : Code) (k : X → Env → H → Option R) (E : Env) (h : H) :
    loopK P call ann N c k E h = kC P call ann N c (lpK (fun E h => loopK P call ann N c k (keepAt ann c E) h) k) E h := by
  unfold loopK
  rw [kC_eq, iterR_eq]
  unfold lbody
  cases evC P call ann N c E h with
  | none => rfl
  | some r =>
    obtain ⟨x, E1, h1⟩ := r
    cases x with
    | nrm => rfl
    | ex id => rfl
    | ret => rfl

/-- The end of a function. -/
def finK (P : Program) (rs : List ResultVar) : X → Env → H → Option (V × H)
  | .ex _, _, _ => none
  | _, E, h => (ressV P E h rs).map fun vs => (tupOf vs, h)
noncomputable def bodyK (P : Program) (call : CallF) (ann : Nat → List Nat) (fn : Func) (c : Code) (args : List V) (h : H) : Option (V × H) :=
  kC P call ann fn.ntmps c (finK P fn.results.toList) (keepAt ann c (paramEnv 0 args)) h
variable {prims : Prims} {ann : Nat → Nat → List Nat}
theorem run_bodyK {f : Nat} {fn : Func} {c : Code} (hp : prims f = none) (hf : P.funcs[f]? = some fn) (hb : fn.body = some c) (hname : (fn.name == "runtime.NumGoroutine") = false) {args : List V} (hlen : args.length ≤ fn.ntmps) {h : H} {r : V × H}
    (e : bodyK P (run P prims ann) (ann f) fn c args h = some r) : run P prims ann f args h = some r := by
  refine run_body hp hf ?_
  unfold evBody
  rw [hb]
  simp only [hlen, hname, and_self, if_true]
  unfold bodyK at e
  rw [kC_eq] at e
  rw [← e]
  cases evC P (run P prims ann) (ann f) fn.ntmps c (keepAt (ann f) c (paramEnv 0 args)) h with
  | none => rfl
  | some q =>
    obtain ⟨x, E1, h1⟩ := q
    cases x <;> rfl
end Go.Proofs.Ythoabddfionmoaa.AH
namespace Go.Proofs.Ythoabddfionmoaa.AH
open Go Go.RowKit
variable {R : Type}

/-! Code by its place: 0, 1 the parts of two, of a test; a block's, a loop's body is 0. -/
def Code.sub : Code → Nat → Code
  | .seq a _, 0 => a
  | .seq _ b, _ => b
  | .cond _ a _, 0 => a
  | .cond _ _ b, _ => b
  | .block _ c, _ => c
  | .loop c, _ => c
  | c, _ => c
def cdAt : List Nat → Code → Code
  | [], c => c
  | i :: r, c => cdAt r (Code.sub c i)
def bodyOf (fn : Func) : Code := match fn.body with | some c => c | none => .skip

def onB (v : V) (a b : Option R) : Option R :=
  match v with
  | .bool true => a
  | .bool false => b
  | _ => none
def spB (v : V) (a b : Option R) : Option R :=
  match v with
  | .bool true => a
  | .bool false => b
  | _ => none
def pkV (c : V) (a b : Option V) : Option V :=
  match c with
  | .bool t => if t then a else b
  | _ => none
def ld1 (h : H) : V → Option V
  | .ptr id off => (h.load id off 1).bind List.head?
  | _ => none
def ldn (n : Nat) (h : H) : V → Option V
  | .ptr id off => (h.load id off n).map V.agg
  | _ => none
def fA (o : Nat) : V → Option V
  | .ptr id off => if id = 0 then none else some (.ptr id (off + o))
  | _ => none
def fP (o n : Nat) (row : Bool) : V → Option V
  | .agg cs => partV n row cs o
  | _ => none
def nilC : V → Option V
  | .ptr id off => if id = 0 then none else some (.ptr id off)
  | .fn f cs => some (.fn f cs)
  | _ => none
def iA (s : Nat) : V → V → Option V
  | .sl _ id off len, .int _ n => if 0 ≤ n ∧ n < (len : Int) then some (.ptr id (off + n.toNat * s)) else none
  | _, _ => none
def lenS : V → Option V
  | .str s => some (.int .i64 s.size)
  | _ => none
def lenL : V → Option V
  | .sl _ _ _ n => some (.int .i64 n)
  | _ => none
def cvI (k : IntKind) : V → Option V
  | .int _ n => some (.int k (k.wrap n))
  | _ => none
def cvS : V → Option V
  | .str s => some (.str s)
  | .sl _ _ _ _ => none
  | _ => none
def cvB (h : H) : V → Option V
  | .str s => some (.str s)
  | .sl _ id off len => if id = 0 then some (.str .empty) else if len = 0 then some (.str .empty) else (h.load id off len).bind fun cs => (bytesOf cs).map fun l => .str ⟨l.toArray⟩
  | _ => none
def bnd (x : Option V) (d most : Nat) : Option Nat :=
  match x with
  | none => some d
  | some v => match v with
    | .int _ n => if 0 ≤ n ∧ n ≤ (most : Int) then some n.toNat else none
    | _ => none
def slS (x : V) (lo hi : Option V) : Option V :=
  match x with
  | .str s => (bnd hi s.size s.size).bind fun h => (bnd lo 0 h).bind fun l => some (.str (s.extract l h))
  | _ => none
def slL (sz : Nat) (x : V) (lo hi mx : Option V) : Option V :=
  match x with
  | .sl z id off len => if sz = z ∨ id = 0 then (bnd mx len len).bind fun m => if mx.isSome && hi.isNone then none else (bnd hi len m).bind fun h => (bnd lo 0 h).bind fun l =>
        some (.sl z id (off + l * sz) (h - l)) else none
  | _ => none
def ixS : V → V → Option V
  | .str s, .int _ n => if 0 ≤ n then (s[n.toNat]?).map fun b => .int .u8 b.toNat else none
  | _, _ => none
def stN (n : Nat) (h : H) (p v : V) (k : H → Option R) : Option R :=
  (cellsV v).bind fun vs => match p with
    | .ptr id off => if vs.length = n then (h.store id off vs).bind k else none
    | _ => none
def alK (z : List V) (h : H) (k : V → H → Option R) : Option R := k (.ptr h.next 0) (h.new z)
def bxK (h : H) (v : V) (k : V → H → Option R) : Option R := (cellsV v).bind fun cs => k (.ptr h.next 0) (h.new cs)
def bld (z : List V) : List (Nat × Nat × V) → Option (List V)
  | [] => some z
  | (o, n, v) :: r => (cellsV v).bind fun vs => if vs.length = n then (splice z o vs).bind fun cs => bld cs r else none
def bldV (z : List V) (ps : List (Nat × Nat × V)) : Option V := (bld z ps).bind fun cs => some (.agg cs)
def bsK (sz n : Nat) (h : H) (z : List V) (ps : List (Nat × Nat × V)) (k : V → H → Option R) : Option R := (bld z ps).bind fun cs => k (.sl sz h.next 0 n) (h.new cs)
def mkK (sz bytes : Nat) (z : List V) (h : H) (l c : V) (k : V → H → Option R) : Option R :=
  match l, c with
  | .int _ n, .int _ m => if n = m ∧ 0 ≤ n ∧ n ≤ 4611686018427387904 ∧ (bytes : Int) * n ≤ 281474976710656 ∧ z.length = sz then k (.sl sz h.next 0 n.toNat) (h.new ((List.replicate n.toNat z).flatten)) else none
  | _, _ => none
def s2b (h : H) : V → Option (V × H)
  | .str b => if b.size < 4611686018427387904 then some (.sl 1 h.next 0 b.size, h.new (b.data.toList.map fun c => V.int .u8 c.toNat)) else none
  | _ => none
def srcL (h : H) (size : Nat) : V → Option (Nat × List V)
  | .sl _ id off n => if id = 0 then some (0, []) else if n * size = 0 then (if n = 0 then some (0, []) else none) else (h.load id off (n * size)).map fun cs => (n, cs)
  | .str _ => none
  | _ => none
def srcS (size : Nat) : V → Option (Nat × List V)
  | .sl _ _ _ _ => none
  | .str s => if size = 1 then some (s.size, s.data.toList.map fun b => V.int .u8 b.toNat) else none
  | _ => none
def apL (size bytes : Nat) (h : H) (s x : V) : Option (V × H) :=
  match s with
  | .sl ez id off len => (srcL h size x).bind fun y =>
      if y.1 = 0 then some (.sl ez id off len, h) else
      if (len + y.1) * bytes ≤ 140737488355328 ∧ len + y.1 ≤ 4611686018427387904 ∧ (id = 0 ∧ len = 0 ∨ (h.blk id).alive = true ∧ h.lo ≤ id ∧ id ≠ 0 ∧ ez = size) ∧ size = size then
        (if len = 0 then some [] else h.load id off (len * size)).bind fun olds => some (.sl size h.next 0 (len + y.1), (h.new (olds ++ y.2)).kill id)
      else none
  | _ => none
def apS (size bytes : Nat) (h : H) (s x : V) : Option (V × H) :=
  match s with
  | .sl ez id off len => (srcS size x).bind fun y =>
      if y.1 = 0 then some (.sl ez id off len, h) else
      if (len + y.1) * bytes ≤ 140737488355328 ∧ len + y.1 ≤ 4611686018427387904 ∧ (id = 0 ∧ len = 0 ∨ (h.blk id).alive = true ∧ h.lo ≤ id ∧ id ≠ 0 ∧ ez = size) ∧ size = size then
        (if len = 0 then some [] else h.load id off (len * size)).bind fun olds => some (.sl size h.next 0 (len + y.1), (h.new (olds ++ y.2)).kill id)
      else none
  | _ => none
def mkF (f : Nat) (caps : List V) : Option V := (capsV caps).map (V.fn f)
where capsV : List V → Option (List (Nat × Nat))
  | [] => some []
  | v :: r => match v with
    | .ptr id off => if id = 0 then none else (capsV r).map ((id, off) :: ·)
    | _ => none
def mms (mx : Bool) (v : V) : List V → Option V
  | [] => some v
  | x :: r => (mmV mx v x).bind fun u => mms mx u r
def dynK (call : CallF) (f : V) (args : List V) (h : H) (k : V × H → Option R) : Option R :=
  match f with
  | .fn f caps => (call f (args ++ caps.map fun p => V.ptr p.1 p.2) h).bind k
  | _ => none
/-- The block behind a pointer has not been written since. -/
def pdV (h' : H) (p : V) (h : H) (k : Option R) : Option R :=
  match p with
  | .ptr id _ => if (h'.blk id).ver = (h.blk id).ver then k else none
  | _ => k
def pdB (h' : H) (p : V) (h : H) (k : Option R) : Option R :=
  match p with
  | .sl _ id _ n => if n = 0 ∨ id = 0 then k else if (h'.blk id).ver = (h.blk id).ver then k else none
  | _ => k
def ress : List (Option V) → Option (List V)
  | [] => some []
  | r :: l => r.bind fun v => (ntup v).bind fun v => (ress l).map (v :: ·)
end Go.Proofs.Ythoabddfionmoaa.AH
