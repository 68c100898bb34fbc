/- Regions, in the text's order and in a drawn order, held against the model. No condition. -/
import Derived.Test.YthoabddfionmoaaA9
set_option linter.unusedVariables false
set_option linter.unusedSimpArgs false
namespace Go.Proofs.Ythoabddfionmoaa.AH
open Go Go.RowKit
variable {P : Program}

/-- A state of a call under way, seen from where it began. -/
structure St (B : Nat) (β0 : Bet) (h0 : H) (w0 : World) (N : Nat) (E : Env) (h : H) (a : Act) (w : World) (β : Bet) : Prop where
  env : RelE β E a.tmps
  size : a.tmps.size = N
  defers : a.defers = []
  heap : RelH B β h w
  ext : Ext B β0 h0 w0 β h w

theorem wanted_sim {β : Bet} {E : Env} {a : Act} (hE : RelE β E a.tmps) {ops : Array Oper} {o : Oper} {b : Bool} (h : wantedV ops o E = some b) : Region.wanted o (yielded ops a.tmps) = b := by
  unfold wantedV at h
  unfold Region.wanted
  split at h
  · rename_i hg; cases h; rw [hg]
  · rename_i j want hg
    rw [hg]
    split at h
    · rename_i bb hb
      cases h
      simp only [Option.bind_eq_some_iff] at hb
      obtain ⟨d, hd, hv⟩ := hb
      obtain ⟨oo, ho, hdd⟩ := hd
      obtain ⟨c, hc, hr⟩ := hE d _ hv
      have : c = .bool bb := hr
      subst this
      simp [yielded, ho, hdd, hc]
    · rename_i hb
      cases h
      simp only [Option.bind_eq_some_iff] at hb
      obtain ⟨d, hd, hv⟩ := hb
      obtain ⟨oo, ho, hdd⟩ := hd
      obtain ⟨c, hc, hr⟩ := hE d _ hv
      obtain ⟨cs, rfl, hcs⟩ := hr
      simp [yielded, ho, hdd, hc]
    · cases h

theorem relV_undef (β : Bet) : RelV β (.tup []) undef := ⟨[], rfl, trivial⟩
theorem St.step {B : Nat} {β0 β β' : Bet} {h0 h h' : H} {w0 w w' : World} {N : Nat} {E E' : Env} {a a' : Act} (s : St B β0 h0 w0 N E h a w β) (hE : RelE β' E' a'.tmps) (hs : a'.tmps.size = a.tmps.size) (hd : a'.defers = a.defers) (hH : RelH B β' h' w') (hX : Ext B β h w β' h' w') : St B β0 h0 w0 N E' h' a' w' β' :=
  ⟨hE, by rw [hs]; exact s.size, by rw [hd]; exact s.defers, hH, s.ext.trans hX⟩

theorem gput_put {ops : Array Oper} {N : Nat} {o : Oper} {E E' : Env} {v : V} (h : gput ops N o E v = some E') : put1 N E o.dst v = some E' := by
  unfold gput at h
  split at h
  · split at h
    · exact h
    · cases h
  · exact h

/-- One operation of a region. -/
theorem evOper_sim {B : Nat} {β0 β : Bet} {h0 h h' : H} {w0 w : World} {N : Nat} {E E' : Env} {a : Act} {call : Nat → List V → H → Option (V × H)} (hcall : CallOk P B call) {ops : Array Oper} {o : Oper} (he : evOper P call ops N o E h = some (E', h'))
    (s : St B β0 h0 w0 N E h a w β) {K : Act → World → Prop} {Q : Exit → Act → World → Prop} (hK : ∀ a' w' β', St B β0 h0 w0 N E' h' a' w' β' → Ext B β h w β' h' w' → K a' w') :
    if Region.wanted o (yielded ops a.tmps) then o.wp P a w K Q else K (a.put o.dst undef) w := by
  unfold evOper at he
  simp only [Option.bind_eq_some_iff] at he
  obtain ⟨b, hb, he⟩ := he
  rw [wanted_sim s.env hb]
  cases b with
  | false =>
    simp only [Bool.false_eq_true, if_false, Option.map_eq_some_iff] at he
    obtain ⟨E1, hp, hx⟩ := he
    cases hx
    exact hK _ _ _ (s.step (s.env.put1 (relV_undef β) s.size hp) (put_size _ _ _) (put_defers _ _ _) s.heap (Ext.refl _ _ _ _)) (Ext.refl _ _ _ _)
  | true =>
    simp only [if_true] at he ⊢
    split at he
    · rename_i hq
      simp only [Option.bind_eq_some_iff, Option.map_eq_some_iff] at he
      obtain ⟨v, hv, E1, hp, hx⟩ := he
      cases hx
      obtain ⟨c, hr, hrun⟩ := qOp_sim s.heap s.env 0 o hv
      unfold Oper.wp
      rw [hrun w (AgreeR.refl _ _ _ _)]
      exact hK _ _ _ (s.step (s.env.put1 hr s.size (gput_put hp)) (put_size _ _ _) (put_defers _ _ _) s.heap (Ext.refl _ _ _ _)) (Ext.refl _ _ _ _)
    · simp only [Option.bind_eq_some_iff] at he
      obtain ⟨⟨rv, h1⟩, hv, he⟩ := he
      refine eOp_sim s.heap hcall s.env o hv fun β' c w' hr hH hX => ?_
      split at he
      · rename_i v hrv
        simp only [Option.map_eq_some_iff] at he
        obtain ⟨E1, hp, hx⟩ := he
        cases hx
        have hpp : (a.put o.dst c).tmps.size = a.tmps.size := put_size _ _ _
        exact hK _ _ _ (s.step ((s.env.mono hX.sub).put1 (hr v hrv) s.size (gput_put hp)) (put_size _ _ _) (put_defers _ _ _) hH hX) hX
      · cases he
        exact hK _ _ _ (s.step ((s.env.mono hX.sub).del o.dst c) (put_size _ _ _) (put_defers _ _ _) hH hX) hX

theorem evOps_sim {B : Nat} {β0 : Bet} {h0 : H} {w0 : World} {N : Nat} {call : Nat → List V → H → Option (V × H)} (hcall : CallOk P B call) {ops : Array Oper} {Q : Exit → Act → World → Prop} : ∀ (l : List Oper) (E E' : Env) (h h' : H) (a : Act) (w : World) (β : Bet), evOps P call ops N l E h = some (E', h') →
    St B β0 h0 w0 N E h a w β → (∀ a' w' β', St B β0 h0 w0 N E' h' a' w' β' → Q .normal a' w') → wpList P ops Q l a w
  | [], E, E', h, h', a, w, β, he, s, hQ => by simp [evOps] at he; obtain ⟨rfl, rfl⟩ := he; exact hQ _ _ _ s
  | o :: r, E, E', h, h', a, w, β, he, s, hQ => by
    simp only [evOps, Option.bind_eq_some_iff] at he
    obtain ⟨⟨E1, h1⟩, he1, he2⟩ := he
    have := evOper_sim (Q := Q) hcall he1 s (K := wpList P ops Q r) fun a' w' β' s' _ => evOps_sim hcall r _ _ _ _ _ _ _ he2 s' hQ
    unfold wpList
    split
    · rename_i hw; rw [if_pos hw] at this; exact .inl this
    · rename_i hw; rw [if_neg hw] at this; exact this

/-! ### A drawn order -/
def wpAnyL (P : Program) (md : Region.Mode) (ops : Array Oper) (Q : Exit → Act → World → Prop) (L : List (Nat × (World → Prop))) : Nat → Array Bool → Act → World → Prop
  | 0, listed, a, w => Region.ready md ops listed = [] ∧ Q .normal a w
  | fuel + 1, listed, a, w =>
    (Region.ready md ops listed = [] → Q .normal a w) ∧
    ∀ j ∈ Region.ready md ops listed, wpOp P ops Q j (fun a' w' => (∀ x ∈ L, (∀ oj, ops[j]? = some oj → (∀ e ∈ oj.after, Region.binds md e = true → e.on ≠ x.1)) → x.2 w → x.2 w') ∧ wpAnyL P md ops Q L fuel (listed.setIfInBounds j true) a' w') a w
theorem wpAnyL_weaken {md : Region.Mode} {ops : Array Oper} {Q : Exit → Act → World → Prop} {L L' : List (Nat × (World → Prop))} (hL : ∀ x ∈ L, x ∈ L') : ∀ (fuel : Nat) (listed : Array Bool) (a : Act) (w : World), wpAnyL P md ops Q L' fuel listed a w → wpAnyL P md ops Q L fuel listed a w
  | 0, _, _, _, h => h
  | fuel + 1, _, _, _, h => ⟨h.1, fun j hj => wpOp_mono (fun a' w' h' => ⟨fun x hx => h'.1 x (hL x hx), wpAnyL_weaken hL fuel _ a' w' h'.2⟩) (h.2 j hj)⟩
theorem wpAny_of_L {md : Region.Mode} {ops : Array Oper} {Q : Exit → Act → World → Prop} {L : List (Nat × (World → Prop))} : ∀ (fuel : Nat) (listed : Array Bool) (a : Act) (w : World), wpAnyL P md ops Q L fuel listed a w → wpAny P md ops Q fuel listed a w
  | 0, _, _, _, h => h
  | fuel + 1, _, _, _, h => ⟨h.1, fun j hj => wpOp_mono (fun a' w' h' => wpAny_of_L fuel _ a' w' h'.2) (h.2 j hj)⟩
theorem wpAnyL_first {md : Region.Mode} {ops : Array Oper} {Q : Exit → Act → World → Prop} {S : World → Prop} {i : Nat} {oi : Oper} {v : Value} (hi : ops[i]? = some oi) (hsel : ∀ (j : Nat) (o : Oper) cs b, ops[j]? = some o → o.op ≠ .select cs b)
    (hQ : ∀ c a w, ¬ Q (.panic c) a w) (L : List (Nat × (World → Prop))) :
    ∀ (fuel : Nat) (listed : Array Bool) (a : Act) (w : World),
      (∀ j oj, ops[j]? = some oj → j ≠ i → listed.getD j true = false → (∀ e ∈ oj.after, Region.binds md e = true → e.on ≠ i) → oi.apart ops oj = true) →
      i ∈ Region.ready md ops listed → YieldsIf P ops S oi v a → S w →
      wpAnyL P md ops Q ((i, S) :: L) fuel (listed.setIfInBounds i true) (a.put oi.dst v) w → wpAnyL P md ops Q L (fuel + 1) listed a w := by
  intro fuel
  induction fuel with
  | zero =>
    intro listed a w _ hr hy hS H
    refine ⟨fun h => (by rw [h] at hr; cases hr), fun j hj => ?_⟩
    by_cases hji : j = i
    · subst hji; exact hy.wpOp hi hS ⟨fun _ _ _ h => h, H⟩
    · have := ready_mono hj hji
      rw [H.1] at this
      cases this
  | succ fuel ih =>
    intro listed a w hfree hr hy hS H
    refine ⟨fun h => (by rw [h] at hr; cases hr), fun j hj => ?_⟩
    by_cases hji : j = i
    · subst hji; exact hy.wpOp hi hS ⟨fun _ _ _ h => h, wpAnyL_weaken (fun x hx => List.mem_cons_of_mem _ hx) _ _ _ _ H⟩
    · have h1 := H.2 j (ready_mono hj hji)
      obtain ⟨hjun, oj, hoj, hall⟩ := mem_ready.1 hj
      have hnot : ∀ e ∈ oj.after, Region.binds md e = true → e.on ≠ i := fun e he hb heq => by
        have h1 := hall e he hb
        have h0 := (mem_ready.1 hr).1
        rw [heq] at h1
        rcases Nat.lt_or_ge i listed.size with h' | h'
        · simp [h'] at h0 h1; rw [h0] at h1; cases h1
        · simp [Array.getElem?_eq_none h'] at h1
      have h2 := wpOp_putIf hoj (hfree j oj hoj hji hjun hnot) (fun cs b => hsel i oi cs b hi) (fun cs b => hsel j oj cs b hoj) (fun c a w h => absurd h (hQ c _ w)) hy h1
      have hfree' : ∀ k ok, ops[k]? = some ok → k ≠ i → (listed.setIfInBounds j true).getD k true = false →
          (∀ e ∈ ok.after, Region.binds md e = true → e.on ≠ i) → oi.apart ops ok = true := fun k ok hk hki hun hno => by
        refine hfree k ok hk hki ?_ hno
        by_cases hjk : j = k
        · subst hjk; exact hjun
        · rw [getD_set_ne true hjk] at hun; exact hun
      refine wpOp_mono (fun a' w' h3 => ?_) h2
      obtain ⟨hy', hpres, hrest⟩ := h3
      have hS' : S w' := hpres (i, S) (List.mem_cons_self ..) (fun oj' hoj' => by rw [hoj] at hoj'; cases hoj'; exact hnot) hS
      refine ⟨fun x hx => hpres x (List.mem_cons_of_mem _ hx), ih (listed.setIfInBounds j true) a' w' hfree' (ready_mono hr (Ne.symm hji)) hy' hS' ?_⟩
      rw [Array.setIfInBounds_comm _ _ hji]
      exact hrest

theorem pickNext_mem {ops : Array Oper} {listed : Array Bool} {i : Nat} (h : pickNext P ops listed = some i) : i ∈ Region.ready .any ops listed ∧ (Region.ready .any ops listed = [i] ∨ ∃ o, ops[i]? = some o ∧ isQ P o.op = true) := by
  unfold pickNext at h
  split at h
  · rename_i k hk
    cases h
    have h1 := List.find?_some hk
    have h2 := List.mem_of_find?_eq_some hk
    refine ⟨h2, .inr ?_⟩
    split at h1
    · rename_i o ho
      simp only [Bool.and_eq_true] at h1
      exact ⟨o, ho, h1.1⟩
    · cases h1
  · split at h
    · rename_i k hk
      cases h
      exact ⟨by rw [hk]; simp, .inl hk⟩
    · cases h

/-- What is read is alive. -/
theorem reads_alive {E : Env} {h : H} {op : Op} {v : V} (hv : qOp P E h op = some v) (i : Nat) : ∀ x ∈ readsOf E h i op, (h.blk x.2.1).alive = true ∧ x.2.2 = (h.blk x.2.1).ver ∧ x.1 = i := by
  have hload : ∀ {id off n : Nat} {cs : List V}, h.load id off n = some cs → (h.blk id).alive = true := fun hl => by
    unfold H.load at hl
    split at hl
    · rename_i hc; exact hc.1
    · cases hl
  intro x hx
  unfold readsOf at hx
  split at hx
  · rename_i t a
    simp only [qOp, Option.bind_eq_some_iff] at hv
    obtain ⟨p, hp, hv⟩ := hv
    split at hx
    · rename_i id off hop
      rw [hop] at hp; cases hp
      simp at hx; subst hx
      refine ⟨?_, rfl, rfl⟩
      simp only [ldV, Option.bind_eq_some_iff] at hv
      obtain ⟨y, _, hv⟩ := hv
      split at hv
      · simp only [Option.map_eq_some_iff] at hv; obtain ⟨cs, hl, _⟩ := hv; exact hload hl
      · simp only [Option.bind_eq_some_iff] at hv; obtain ⟨cs, hl, _⟩ := hv; exact hload hl
    · cases hx
  · rename_i s d o
    simp only [qOp, Option.bind_eq_some_iff] at hv
    obtain ⟨p, hp, hv⟩ := hv
    split at hx
    · rename_i e id off n hop
      rw [hop] at hp; cases hp
      split at hx
      · cases hx
      · rename_i hn
        simp at hx; subst hx
        refine ⟨?_, rfl, rfl⟩
        simp only [cvV] at hv
        split at hv
        · rename_i heq; cases heq
        · rename_i heq; cases heq
        · rename_i heq
          cases heq
          have hn1 : ¬ n = 0 := fun e => hn (.inl e)
          have hn2 : ¬ id = 0 := fun e => hn (.inr e)
          split at hv
          · rw [if_neg hn2, if_neg hn1] at hv
            simp only [Option.bind_eq_some_iff] at hv; obtain ⟨cs, hl, _⟩ := hv; exact hload hl
          · cases hv
        · cases hv
    · cases hx
  · cases hx

theorem edgeOn_false {o : Oper} {i : Nat} (h : ∀ e ∈ o.after, Region.binds .any e = true → e.on ≠ i) : edgeOn o i = false := by
  unfold edgeOn
  rw [Array.any_eq_false']
  intro e he
  simp only [Bool.and_eq_true, beq_iff_eq, not_and]
  exact fun hb => h e he hb

/-- What waits: each condition is kept as long as its block's version stands. -/
def PendOk (B : Nat) (β : Bet) (h : H) (w : World) (L : List (Nat × Nat × Nat)) (LC : List (Nat × (World → Prop))) : Prop :=
  ∀ x ∈ LC, (∀ w', x.2 w') ∨ ∃ y ∈ L, y.1 = x.1 ∧ ∀ β' h' w', Ext B β h w β' h' w' → (h'.blk y.2.1).ver = y.2.2 → x.2 w'
theorem PendOk.step {B : Nat} {β β' : Bet} {h h' : H} {w w' : World} {L : List (Nat × Nat × Nat)} {LC : List (Nat × (World → Prop))} (p : PendOk B β h w L LC) (hX : Ext B β h w β' h' w') : PendOk B β' h' w' L LC := fun x hx =>
  (p x hx).imp id fun ⟨y, hy, h1, h2⟩ => ⟨y, hy, h1, fun β'' h'' w'' hX' hv => h2 β'' h'' w'' (hX.trans hX') hv⟩

theorem evAny_sim {B : Nat} {β0 : Bet} {h0 : H} {w0 : World} {N : Nat} {call : Nat → List V → H → Option (V × H)} (hcall : CallOk P B call) {ops : Array Oper} (hsel : Region.noSelect ops = true) {Q : Exit → Act → World → Prop} (hQp : ∀ c a w, ¬ Q (.panic c) a w) :
    ∀ (fuel : Nat) (listed : Array Bool) (L : List (Nat × Nat × Nat)) (LC : List (Nat × (World → Prop))) (E E' : Env) (h h' : H) (a : Act) (w : World) (β : Bet), evAny P call ops N fuel listed L E h = some (E', h') →
    St B β0 h0 w0 N E h a w β → PendOk B β h w L LC → (∀ a' w' β', St B β0 h0 w0 N E' h' a' w' β' → Q .normal a' w') → wpAnyL P .any ops Q LC fuel listed a w := by
  intro fuel
  induction fuel with
  | zero =>
    intro listed L LC E E' h h' a w β he s hp hQ
    unfold evAny at he
    split at he
    · rename_i hr
      cases he
      exact ⟨by simpa using hr, hQ _ _ _ s⟩
    · cases he
  | succ fuel ih =>
    intro listed L LC E E' h h' a w β he s hp hQ
    unfold evAny at he
    split at he
    · rename_i hr
      cases he
      have hr' : Region.ready .any ops listed = [] := by simpa using hr
      exact ⟨fun _ => hQ _ _ _ s, fun j hj => by rw [hr'] at hj; cases hj⟩
    · rename_i hr
      split at he
      · cases he
      · rename_i i hi
        obtain ⟨hmem, hkind⟩ := pickNext_mem hi
        split at he
        · cases he
        · rename_i o ho
          split at he
          · rename_i hq
            split at he
            · rename_i hfree
              simp only [Option.bind_eq_some_iff] at he
              obtain ⟨b, hb, he⟩ := he
              have hw := wanted_sim s.env hb
              cases b with
              | true =>
                simp only [if_true, Option.bind_eq_some_iff] at he
                obtain ⟨v, hv, E1, hp1, he⟩ := he
                obtain ⟨c, hrv, hrun⟩ := qOp_sim s.heap s.env i o hv
                have hal := reads_alive hv i
                refine wpAnyL_first (S := fun w' => AgreeR β h w w' (readsOf E h i o.op)) (v := c) ho (Region.noSelect_spec hsel) hQp LC fuel listed a w (Region.free_spec ho hfree) hmem (.inl ⟨hw, fun w' hS => hrun w' hS⟩) (AgreeR.refl _ _ _ _) ?_
                refine ih _ _ _ _ _ _ _ _ _ β he (s.step (s.env.put1 hrv s.size (gput_put hp1)) (put_size _ _ _) (put_defers _ _ _) s.heap (Ext.refl _ _ _ _)) ?_ hQ
                intro x hx
                rcases List.mem_cons.1 hx with rfl | hx
                · -- the condition of what has just been read
                  rcases hrd : readsOf E h i o.op with _ | ⟨y, r⟩
                  · exact .inl fun w' z hz => by simp [hrd] at hz
                  · refine .inr ⟨y, by simp, ?_, ?_⟩
                    · have := (hal y (by rw [hrd]; simp)).2.2; exact this
                    · intro β' h'' w' hX hver z hz l hl k hk
                      have hone : r = [] := by
                        unfold readsOf at hrd
                        split at hrd
                        · split at hrd
                          · cases hrd; rfl
                          · cases hrd
                        · split at hrd
                          · split at hrd
                            · cases hrd
                            · cases hrd; rfl
                          · cases hrd
                        · cases hrd
                      subst hone
                      simp at hz; subst hz
                      obtain ⟨ha1, ha2, _⟩ := hal z (by rw [hrd]; simp)
                      exact (hX.same z.2.1 (s.heap.lt ha1) ha1 (by rw [hver, ha2])).2.2 l hl k hk
                · exact (hp x hx).imp id fun ⟨y, hy, h1, h2⟩ => ⟨y, List.mem_append_right _ hy, h1, h2⟩
              | false =>
                simp only [Bool.false_eq_true, if_false, Option.bind_eq_some_iff] at he
                obtain ⟨E1, hp1, he⟩ := he
                refine wpAnyL_first (S := fun _ => True) (v := undef) ho (Region.noSelect_spec hsel) hQp LC fuel listed a w (Region.free_spec ho hfree) hmem (.inr ⟨hw, rfl⟩) trivial ?_
                refine ih _ _ _ _ _ _ _ _ _ β he (s.step (s.env.put1 (relV_undef β) s.size hp1) (put_size _ _ _) (put_defers _ _ _) s.heap (Ext.refl _ _ _ _)) ?_ hQ
                intro x hx
                rcases List.mem_cons.1 hx with rfl | hx
                · exact .inl fun _ => trivial
                · exact hp x hx
            · cases he
          · rename_i hq
            have hone : Region.ready .any ops listed = [i] := by
              rcases hkind with h1 | ⟨o', ho', hq'⟩
              · exact h1
              · rw [ho] at ho'; cases ho'; exact absurd hq' hq
            simp only [Option.bind_eq_some_iff] at he
            obtain ⟨⟨E1, h1⟩, he1, he⟩ := he
            split at he
            · rename_i hpend
              refine ⟨fun h0 => (by rw [hone] at h0; cases h0), fun j hj => ?_⟩
              rw [hone] at hj
              simp at hj; subst hj
              have := evOper_sim (Q := Q) hcall he1 s (K := fun a' w' => (∀ x ∈ LC, (∀ oj, ops[j]? = some oj → (∀ e ∈ oj.after, Region.binds .any e = true → e.on ≠ x.1)) → x.2 w → x.2 w') ∧ wpAnyL P .any ops Q LC fuel (listed.setIfInBounds j true) a' w') fun a' w' β' s' hX => ?_
              · unfold wpOp
                simp only [ho] at this ⊢
                split
                · rename_i hw; rw [if_pos hw] at this; exact .inl this
                · rename_i hw; rw [if_neg hw] at this; exact this
              · refine ⟨fun x hx hno _ => ?_, ih _ _ _ _ _ _ _ _ _ β' he s' (hp.step hX) hQ⟩
                rcases hp x hx with hall | ⟨y, hy, h2, h3⟩
                · exact hall w'
                · refine h3 β' h1 w' hX ?_
                  have := List.all_eq_true.1 hpend y hy
                  rw [h2, edgeOn_false (hno o ho)] at this
                  simpa using this
            · cases he

theorem region_sim {B : Nat} {β0 β : Bet} {h0 h h' : H} {w0 w : World} {N : Nat} {E E' : Env} {a : Act} {call : Nat → List V → H → Option (V × H)} (hcall : CallOk P B call) (hm : P.follows .mixedOrders = true) {id : Nat} {ops : Array Oper} (hsel : Region.noSelect ops = true) {Q : Exit → Act → World → Prop} (hQp : ∀ c a w, ¬ Q (.panic c) a w)
    (he : evAny P call ops N ops.size (Array.replicate ops.size false) [] E h = some (E', h')) (s : St B β0 h0 w0 N E h a w β) (hQ : ∀ a' w' β', St B β0 h0 w0 N E' h' a' w' β' → Q .normal a' w') : (Code.region id ops true).wp P Q a w := by
  refine wp_region_any hm (wpAny_of_L (L := []) _ _ _ _ ?_)
  refine evAny_sim hcall hsel hQp _ _ [] [] E E' h h' a _ β he (s.step s.env rfl rfl s.heap.drew (Ext.drew _ _ _ _)) ?_ hQ
  intro x hx; cases hx
end Go.Proofs.Ythoabddfionmoaa.AH
