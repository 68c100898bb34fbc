/- Code and functions, held against the model: 'evF_sim'. Its conditions: each function whose meaning is given beside its text comes to it. -/
import Derived.Test.YthoabddfionmoaaAA
set_option linter.unusedVariables false
set_option linter.unusedSimpArgs false
namespace Go.Proofs.Ythoabddfionmoaa.AH
open Go Go.RowKit
variable {P : Program}

def CPost (B : Nat) (β0 : Bet) (h0 : H) (w0 : World) (N : Nat) (r : X × Env × H) : Exit → Act → World → Prop
  | .normal, a, w => r.1 = .nrm ∧ ∃ β, St B β0 h0 w0 N r.2.1 r.2.2 a w β
  | .exit id, a, w => r.1 = .ex id ∧ ∃ β, St B β0 h0 w0 N r.2.1 r.2.2 a w β
  | .ret, a, w => r.1 = .ret ∧ ∃ β, St B β0 h0 w0 N r.2.1 r.2.2 a w β
  | _, _, _ => False

theorem wp_loop_J {c : Code} {Q : Exit → Act → World → Prop} (J : Nat → Act → World → Prop) (h0 : ∀ a w, ¬ J 0 a w)
    (round : ∀ n a w, J (n + 1) a w → c.wp P (Exit.then (fun a' w' => J n a' w') Q) a w) (n : Nat) (a : Act) (w : World) (hJ : J n a w) : (Code.loop c).wp P Q a w := by
  intro b k cs
  have key : ∀ n a w, J n a w → ∃ e a' w', Q e a' w' ∧ Arrives P (lone (b.at a (.code c :: .inLoop c :: k)) cs w) b k cs e a' w' := by
    intro n
    induction n with
    | zero => intro a w hJ; exact absurd hJ (h0 a w)
    | succ n ih =>
      intro a w hJ
      obtain ⟨e, a₁, w₁, hq, harr⟩ := round n a w hJ b (.inLoop c :: k) cs
      cases e with
      | normal =>
        obtain ⟨e₂, a₂, w₂, hq₂, harr₂⟩ := ih a₁ w₁ hq
        exact ⟨e₂, a₂, w₂, hq₂, .of_steps (Steps.trans harr (.one step_inLoop)) harr₂⟩
      | exit id => exact ⟨_, a₁, w₁, hq, .pass (x := .inLoop c) rfl (fun _ _ => .inl (by simp)) harr⟩
      | goto l => exact ⟨_, a₁, w₁, hq, .pass (x := .inLoop c) rfl (fun _ _ => .inl (by simp)) harr⟩
      | ret => exact ⟨_, a₁, w₁, hq, .pass (x := .inLoop c) rfl (fun _ _ => .inl (by simp)) harr⟩
      | panic ch => exact ⟨_, a₁, w₁, hq, .pass (x := .inLoop c) rfl (fun _ _ => .inl (by simp)) harr⟩
      | outgrown => exact ⟨_, a₁, w₁, hq, .pass (x := .inLoop c) rfl (fun _ _ => .inl (by simp)) harr⟩
  obtain ⟨e, a', w', hq, harr⟩ := key n a w hJ
  exact ⟨e, a', w', hq, .of_steps (.one step_loop) harr⟩

theorem iterR_some {body : Env → H → Option (X × Env × H)} {E : Env} {h : H} {r : X × Env × H} (hr : iterR body E h = some r) : ∃ n, iterN body n E h = some r := by
  unfold iterR at hr
  split at hr
  · rename_i hx
    cases hr
    exact ⟨_, Classical.choose_spec (Classical.choose_spec hx)⟩
  · cases hr

theorem St.keepAt {B : Nat} {β0 β : Bet} {h0 h : H} {w0 w : World} {N : Nat} {E : Env} {a : Act} (s : St B β0 h0 w0 N E h a w β) (ann : Nat → List Nat) (c : Code) : St B β0 h0 w0 N (keepAt ann c E) h a w β :=
  ⟨s.env.keepAt ann c, s.size, s.defers, s.heap, s.ext⟩

theorem evC_sim {B : Nat} {β0 : Bet} {h0 : H} {w0 : World} {N : Nat} {call : Nat → List V → H → Option (V × H)} (hcall : CallOk P B call) (hm : P.follows .mixedOrders = true) (ann : Nat → List Nat) :
    ∀ (c : Code) (E : Env) (h : H) (r : X × Env × H), evC P call ann N c E h = some r → ∀ (a : Act) (w : World) (β : Bet), St B β0 h0 w0 N E h a w β → c.wp P (CPost B β0 h0 w0 N r) a w := by
  intro c
  induction c with
  | skip => intro E h r he a w β s; simp only [evC] at he; cases he; exact wp_skip ⟨rfl, β, s⟩
  | region id ops draw =>
    intro E h r he a w β s
    cases draw with
    | false =>
      simp only [evC, Option.map_eq_some_iff] at he
      obtain ⟨⟨E', h'⟩, he, rfl⟩ := he
      exact wp_region_list (evOps_sim hcall _ _ _ _ _ _ _ _ he s fun a' w' β' s' => ⟨rfl, β', s'⟩)
    | true =>
      simp only [evC] at he
      split at he
      · rename_i hsel
        simp only [Option.map_eq_some_iff] at he
        obtain ⟨⟨E', h'⟩, he, rfl⟩ := he
        exact region_sim hcall hm hsel (fun c a w h => h) he s fun a' w' β' s' => ⟨rfl, β', s'⟩
      · cases he
  | seq x y ihx ihy =>
    intro E h r he a w β s
    simp only [evC, Option.bind_eq_some_iff] at he
    obtain ⟨⟨x1, E1, h1⟩, he1, he⟩ := he
    refine wp_seq (Go.wp_mono (ihx _ _ _ he1 a w β s) fun e a' w' hp => ?_)
    cases e with
    | normal =>
      obtain ⟨hx, β', s'⟩ := hp
      simp only at hx; subst hx
      exact ihy _ _ _ he a' w' β' (s'.keepAt ann y)
    | exit id => obtain ⟨hx, β', s'⟩ := hp; simp only at hx; subst hx; cases he; exact ⟨rfl, β', s'⟩
    | ret => obtain ⟨hx, β', s'⟩ := hp; simp only at hx; subst hx; cases he; exact ⟨rfl, β', s'⟩
    | goto l => exact hp.elim
    | panic c => exact hp.elim
    | outgrown => exact hp.elim
  | cond c x y ihx ihy =>
    intro E h r he a w β s
    simp only [evC] at he
    split at he
    · rename_i t ht
      have hc : a.eval c = .bool t := opd_rel s.env ht
      cases t with
      | true => simp only [if_true] at he; exact wp_cond_true hc (ihx _ _ _ he a w β (s.keepAt ann x))
      | false => simp only [Bool.false_eq_true, if_false] at he; exact wp_cond_false hc (ihy _ _ _ he a w β (s.keepAt ann y))
    · cases he
  | block id c ih =>
    intro E h r he a w β s
    simp only [evC, Option.bind_eq_some_iff] at he
    obtain ⟨⟨x1, E1, h1⟩, he1, he⟩ := he
    refine wp_block (Go.wp_mono (ih _ _ _ he1 a w β s) fun e a' w' hp => ?_)
    cases e with
    | normal => obtain ⟨hx, β', s'⟩ := hp; simp only at hx; subst hx; cases he; exact ⟨rfl, β', s'⟩
    | exit id' =>
      obtain ⟨hx, β', s'⟩ := hp
      simp only at hx; subst hx
      simp only at he
      simp only [Exit.inBlock]
      split at he
      · rename_i hid; rw [if_pos hid]; cases he; exact ⟨rfl, β', s'⟩
      · rename_i hid; rw [if_neg hid]; cases he; exact ⟨rfl, β', s'⟩
    | ret => obtain ⟨hx, β', s'⟩ := hp; simp only at hx; subst hx; cases he; exact ⟨rfl, β', s'⟩
    | goto l => exact hp.elim
    | panic c => exact hp.elim
    | outgrown => exact hp.elim
  | loop c ih =>
    intro E h r he a w β s
    simp only [evC] at he
    obtain ⟨n, hn⟩ := iterR_some he
    refine wp_loop_J (fun n a w => ∃ E h β, iterN (fun E h => (evC P call ann N c E h).map fun r => match r.1 with | .nrm => (.nrm, keepAt ann c r.2.1, r.2.2) | _ => r) n E h = some r ∧ St B β0 h0 w0 N E h a w β) ?_ ?_ n a w ⟨_, h, β, hn, s.keepAt ann c⟩
    · rintro a w ⟨E, h, β, hx, _⟩
      cases hx
    · rintro m a w ⟨E, h, β, hx, s⟩
      simp only [iterN, Option.bind_eq_some_iff, Option.map_eq_some_iff] at hx
      obtain ⟨r1, ⟨⟨x1, E1, h1⟩, he1, hr1⟩, hx⟩ := hx
      refine Go.wp_mono (ih _ _ _ he1 a w β s) fun e a' w' hp => ?_
      cases e with
      | normal =>
        obtain ⟨hx1, β', s'⟩ := hp
        simp only at hx1; subst hx1
        simp only at hr1; subst hr1
        exact ⟨_, _, β', hx, s'.keepAt ann c⟩
      | exit id => obtain ⟨hx1, β', s'⟩ := hp; simp only at hx1; subst hx1; simp only at hr1; subst hr1; cases hx; exact ⟨rfl, β', s'⟩
      | ret => obtain ⟨hx1, β', s'⟩ := hp; simp only at hx1; subst hx1; simp only at hr1; subst hr1; cases hx; exact ⟨rfl, β', s'⟩
      | goto l => exact hp.elim
      | panic c => exact hp.elim
      | outgrown => exact hp.elim
  | rangeFunc f ps x y => intro E h r he; simp only [evC] at he; cases he
  | exit id => intro E h r he a w β s; simp only [evC] at he; cases he; exact wp_exit ⟨rfl, β, s⟩
  | scope c => intro E h r he; simp only [evC] at he; cases he
  | label l => intro E h r he a w β s; simp only [evC] at he; cases he; exact wp_label ⟨rfl, β, s⟩
  | goto l => intro E h r he; simp only [evC] at he; cases he
  | ret => intro E h r he a w β s; simp only [evC] at he; cases he; exact wp_ret ⟨rfl, β, s⟩
  | refuse s => intro E h r he; simp only [evC] at he; cases he

theorem paramEnv_get : ∀ (i : Nat) (args : List V) (t : Nat) (v : V), Env.get (paramEnv i args) t = some v → i ≤ t ∧ args[t - i]? = some v
  | i, [], t, v, h => by cases h
  | i, u :: r, t, v, h => by
    simp only [paramEnv, Env.get] at h
    split at h
    · rename_i e; subst e; cases h; exact ⟨Nat.le_refl _, by simp⟩
    · rename_i e
      obtain ⟨h1, h2⟩ := paramEnv_get (i + 1) r t v h
      refine ⟨by omega, ?_⟩
      rw [show t - i = (t - (i + 1)) + 1 from by omega]; simpa using h2

def resSem (tmps : Array Value) : ResultVar → Sem Value
  | .tmp t => pure (tmps.getD t undef)
  | .cell x t => do loadVar t (← asAddr (tmps.getD x undef))
theorem resV_sim {B : Nat} {β0 β : Bet} {h0 h : H} {w0 w : World} {N : Nat} {E : Env} {a : Act} (s : St B β0 h0 w0 N E h a w β) {rv : ResultVar} {v : V} (hv : resV P E h rv = some v) :
    ∃ c, RelV β v c ∧ (resSem a.tmps rv).run P w = .ok c w := by
  cases rv with
  | tmp t =>
    obtain ⟨c, h1, h2⟩ := s.env t v hv
    exact ⟨c, h2, by simp [resSem, h1]⟩
  | cell x t =>
    simp only [resV, Option.bind_eq_some_iff] at hv
    obtain ⟨p, hp, hv⟩ := hv
    obtain ⟨pc, h1, h2⟩ := s.env x p hp
    obtain ⟨c, hr, hrun⟩ := ldV_sim s.heap h2 hv E 0 (.tmp x) hp
    refine ⟨c, hr, ?_⟩
    have := hrun w (AgreeR.refl _ _ _ _)
    simp only [Instr.loadAt, Sem.run_bind] at this
    unfold ldV at hv
    split at hv
    · rename_i id off
      rcases h2 with ⟨_, _, rfl⟩ | ⟨_, l, _, rfl⟩
      · simp [Instr.sureAddr] at this
      · simpa [resSem, Instr.sureAddr, asAddr, h1] using this
    · cases hv
theorem ressV_sim {B : Nat} {β0 β : Bet} {h0 h : H} {w0 w : World} {N : Nat} {E : Env} {a : Act} (s : St B β0 h0 w0 N E h a w β) : ∀ {l : List ResultVar} {vs : List V}, ressV P E h l = some vs →
    ∃ cs, All2 (RelA β) vs cs ∧ (l.mapM (resSem a.tmps)).run P w = .ok cs w
  | [], vs, h => by simp [ressV] at h; subst h; exact ⟨[], trivial, by simp⟩
  | rv :: l, vs, h => by
    simp only [ressV, Option.bind_eq_some_iff, Option.map_eq_some_iff] at h
    obtain ⟨v, hv, v', hv', us, hus, rfl⟩ := h
    obtain ⟨c, h1, h2⟩ := resV_sim s hv
    obtain ⟨cs, h3, h4⟩ := ressV_sim s hus
    refine ⟨c :: cs, ⟨?_, h3⟩, ?_⟩
    · unfold ntup at hv'
      split at hv'
      · cases hv'
      · rename_i hne
        cases hv'
        cases v <;> first | exact h1 | exact absurd rfl (hne _)
    · rw [List.mapM_cons]
      rw [Sem.run_bind, h2]
      simp only [Result.andThen_ok, Sem.run_bind, h4, Sem.run_pure]

def PrimOk (P : Program) (B : Nat) (f : Nat) (p : List V → H → Option (V × H)) : Prop :=
  (∃ fn, P.funcs[f]? = some fn ∧ (fn.name == "runtime.NumGoroutine") = false ∧ fn.body.isNone = false) ∧
  ∀ args h r h', p args h = some (r, h') → ∀ β w argsC, All2 (RelV β) args argsC → RelH B β h w → Calls P f argsC.toArray w (Ret B β h w r h')

theorem evF_sim (B : Nat) {prims : Prims} {ann : Nat → Nat → List Nat} (hm : P.follows .mixedOrders = true) (hprims : ∀ f p, prims f = some p → PrimOk P B f p) : ∀ n, CallOk P B (evF P prims ann n)
  | 0 => fun f args h r h' he => by cases he
  | n + 1 => fun f args h r h' he => by
    unfold evF at he
    split at he
    · rename_i p hp
      obtain ⟨h1, h2⟩ := hprims f p hp
      exact ⟨h1, fun β w argsC ha hH => h2 args h r h' he β w argsC ha hH⟩
    · split at he
      · rename_i fn hfn
        unfold evBody at he
        split at he
        · rename_i c hbody
          split at he
          · rename_i hc
            obtain ⟨hlen, hname⟩ := hc
            refine ⟨⟨fn, hfn, hname, by rw [hbody]; rfl⟩, fun β w argsC ha hH => ?_⟩
            simp only [Option.bind_eq_some_iff] at he
            obtain ⟨⟨x, E1, h1⟩, he1, he⟩ := he
            have hal := ha.length
            refine calls_of_wp hfn hbody (Go.wp_mono (evC_sim (β0 := β) (h0 := h) (w0 := w) (evF_sim B hm hprims n) hm (ann f) c _ h _ he1 _ w β ⟨RelE.keepAt (fun t v hv => ?_) _ _, by simp; omega, rfl, hH, Ext.refl _ _ _ _⟩) fun e a' w' hp => ?_)
            · obtain ⟨_, hv'⟩ := paramEnv_get 0 args t v hv
              obtain ⟨cv, hcv, hr⟩ := ha.get hv'
              simp only [Nat.sub_zero] at hcv
              have hlt : t < argsC.length := (List.getElem?_eq_some_iff.1 hcv).1
              refine ⟨cv, ?_, hr⟩
              rw [Array.getElem?_append_left (by simpa using hlt)]
              simpa using hcv
            · have fin : ∀ β', St B β h w fn.ntmps E1 h1 a' w' β' → (ressV P E1 h1 fn.results.toList).map (fun vs => (tupOf vs, h1)) = some (r, h') → a'.defers = [] ∧ ∃ v, (results fn a'.tmps).run P w' = .ok v w' ∧ Ret B β h w r h' (.returned v) w' := fun β' s hres => by
                simp only [Option.map_eq_some_iff] at hres
                obtain ⟨vs, hvs, hx⟩ := hres
                cases hx
                obtain ⟨cs, hcs, hrun⟩ := ressV_sim s hvs
                refine ⟨s.defers, (if hsz : cs.toArray.size = 1 then cs.toArray[0] else .tuple cs.toArray), ?_, _, β', rfl, ?_, s.heap, s.ext⟩
                · have hres : results fn a'.tmps = (do let vs ← fn.results.mapM (resSem a'.tmps); pure (if h : vs.size = 1 then vs[0] else .tuple vs)) := by
                    unfold results
                    congr 2
                  rw [hres, Sem.run_bind, Array.mapM_eq_mapM_toList, Sem.run_map, hrun]
                  rfl
                · match vs, cs, hcs with
                  | [], [], _ => exact ⟨[], rfl, trivial⟩
                  | [v], [c], hcs => exact hcs.1.toV
                  | v :: v' :: vs, c :: c' :: cs, hcs => exact ⟨_, by simp, hcs⟩
              cases e with
              | normal => obtain ⟨hx, β', s⟩ := hp; simp only at hx; subst hx; exact fin β' s he
              | ret => obtain ⟨hx, β', s⟩ := hp; simp only at hx; subst hx; exact fin β' s he
              | exit id => obtain ⟨hx, β', s⟩ := hp; simp only at hx; subst hx; cases he
              | goto l => exact hp.elim
              | panic c => exact hp.elim
              | outgrown => exact hp.elim
          · cases he
        · cases he
      · cases he
end Go.Proofs.Ythoabddfionmoaa.AH
