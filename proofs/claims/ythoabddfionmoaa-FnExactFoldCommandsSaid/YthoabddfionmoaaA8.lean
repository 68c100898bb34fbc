/- The operations that make or write memory, or call, held against the model. No condition. -/
import Derived.Test.YthoabddfionmoaaA7
import Derived.Deep.Upon
set_option linter.unusedVariables false
set_option linter.unusedSimpArgs false
namespace Go.Proofs.Ythoabddfionmoaa.AH
open Go Go.RowKit
variable {P : Program}

/-- How a call ends. -/
def Ret (B : Nat) (β : Bet) (h : H) (w : World) (r : V) (h' : H) : Ending → World → Prop := fun e w' => ∃ c β', e = .returned c ∧ RelV β' r c ∧ RelH B β' h' w' ∧ Ext B β h w β' h' w'
def CallOk (P : Program) (B : Nat) (call : Nat → List V → H → Option (V × H)) : Prop := ∀ f args h r h', call f args h = some (r, h') →
  (∃ fn, P.funcs[f]? = some fn ∧ (fn.name == "runtime.NumGoroutine") = false ∧ fn.body.isNone = false) ∧
  ∀ β w argsC, All2 (RelV β) args argsC → RelH B β h w → Calls P f argsC.toArray w (Ret B β h w r h')

theorem flatten_get {α : Type} (z : List α) (hz : 0 < z.length) : ∀ (n i : Nat), ((List.replicate n z).flatten)[i]? = if i < n * z.length then z[i % z.length]? else none
  | 0, i => by simp
  | n + 1, i => by
    rw [List.replicate_succ, List.flatten_cons, List.getElem?_append]
    by_cases h : i < z.length
    · rw [if_pos h, if_pos (by rw [Nat.add_mul]; omega), Nat.mod_eq_of_lt h]
    · rw [if_neg h, flatten_get z hz n]
      have hmod : (i - z.length) % z.length = i % z.length := by
        conv => rhs; rw [show i = (i - z.length) + z.length from by omega]
        rw [Nat.add_mod_right]
      rw [hmod, Nat.add_mul, Nat.one_mul]
      by_cases h2 : i - z.length < n * z.length
      · rw [if_pos h2, if_pos (by omega)]
      · rw [if_neg h2, if_neg (by omega)]
theorem flatten_len {α : Type} (z : List α) : ∀ (n : Nat), ((List.replicate n z).flatten).length = n * z.length
  | 0 => by simp
  | n + 1 => by rw [List.replicate_succ, List.flatten_cons, List.length_append, flatten_len z n, Nat.add_mul]; omega
theorem rep_rel {β : Bet} {z : List V} {z' : List Value} (hr : All2 (RelC β) z z') (hz : 0 < z.length) (n : Nat) :
    All2 (RelC β) ((List.replicate n z).flatten) ((Array.range (n * z.length)).map (fun i => z'.toArray[i % z'.toArray.size]!)).toList := by
  refine All2.of_get ?_ fun i x y hx hy => ?_
  · rw [flatten_len]; simp
  · rw [flatten_get z hz] at hx
    split at hx
    · rename_i hi
      obtain ⟨c, hc, hrc⟩ := hr.get hx
      have hl := hr.length
      simp [hi] at hy
      rw [← hl, hc] at hy
      simp at hy; subst hy; exact hrc
    · cases hx

theorem srcV_sim {B : Nat} {β : Bet} {h : H} {w : World} (hH : RelH B β h w) {t : TypeId} {size : Nat} {x : V} {c : Value} {n : Nat} {cs : List V} (hx : RelV β x c) (hs : srcV P h t size x = some (n, cs)) (hsz : 0 < size) :
    ∃ news, Src P size t c n news w ∧ All2 (RelC β) cs news := by
  unfold srcV at hs
  split at hs
  · rename_i e id off m
    split at hs
    · rename_i e' hu
      split at hs
      · rename_i h0; subst h0
        cases hs
        rcases hx with ⟨_, _, rfl, rfl⟩ | ⟨hne, _⟩
        · exact ⟨[], Src.ofNil w hu 0, trivial⟩
        · exact absurd rfl hne
      · rename_i h0
        rcases hx with ⟨h0', _⟩ | ⟨_, l, a, cap, hb, rfl, hcap, ha, hstr⟩
        · exact absurd h0' h0
        · split at hs
          · rename_i hz
            split at hs
            · rename_i hm; subst hm; cases hs
              exact ⟨[], Src.ofSlice w hu a 0 cap [] (by simp) (fun j u hj => by simp at hj) (fun u hu => by cases hu), trivial⟩
            · cases hs
          · rename_i hz
            simp only [Option.map_eq_some_iff] at hs
            obtain ⟨cs1, hl, he⟩ := hs
            cases he
            obtain ⟨hlen, l', cs', hb', hne, hrange, hrel, hag⟩ := load_rel hH hl
            rw [hb] at hb'; cases hb'
            have hn0 : 0 < n := by rcases Nat.eq_zero_or_pos n with e | e; · subst e; simp at hz
                                   · exact e
            obtain ⟨rfl, _⟩ := ha (by omega)
            exact ⟨cs', Src.ofSlice w hu _ n cap cs' (by rw [← hrel.length, hlen]) (fun j u hj => by rw [Addr.add_mid]; exact hrange j u hj) (hrel.right (p := fun u => u.oneCell' = true) fun _ _ hh => hh.one), hrel⟩
    · cases hs
  · rename_i s
    split at hs
    · rename_i hu
      split at hs
      · rename_i h1; subst h1
        cases hs; cases hx
        refine ⟨byteCells s, Src.ofString w hu s, ?_⟩
        unfold byteCells
        exact All2.of_get (by simp) fun i x y hx hy => by
          simp only [List.getElem?_map, Option.map_eq_some_iff] at hx hy
          obtain ⟨b, hb, rfl⟩ := hx
          obtain ⟨b', hb', rfl⟩ := hy
          rw [hb] at hb'; cases hb'; rfl
      · cases hs
    · cases hs
  · cases hs

theorem appV_sim {B : Nat} {β : Bet} {h : H} {w : World} (hH : RelH B β h w) {t tx ty : TypeId} {s x : V} {cs cx : Value} {rv : Option V} {h' : H} (hs : RelV β s cs) (hx : RelV β x cx) (hv : appV P h t tx s x = some (rv, h')) :
    ∃ c β' w' v, (Builtin.append_ #[t, tx] ty #[cs, cx]).run P w = .ok c w' ∧ rv = some v ∧ RelV β' v c ∧ RelH B β' h' w' ∧ Ext B β h w β' h' w' := by
  unfold appV at hv
  split at hv
  · rename_i ez id off len
    simp only [Option.bind_eq_some_iff] at hv
    obtain ⟨e, he, z, hz, y, hy, hv⟩ := hv
    obtain ⟨i, hu, hi, hsize, hbytes, hpos⟩ := elemOf_some he
    obtain ⟨i', zv, hi', hzv, hzc⟩ := zeroOf_some hz
    rw [hi] at hi'; cases hi'
    obtain ⟨n, ys⟩ := y
    obtain ⟨news, hsrc, hnews⟩ := srcV_sim hH hx hy hpos
    split at hv
    · rename_i hn0
      cases hv
      simp only at hn0; subst hn0
      have hnil : news = [] := List.eq_nil_of_length_eq_zero (by have := hsrc.newsLen; simpa using this)
      subst hnil
      have hle : ∃ base cap, cs = .slice base len cap ∧ len ≤ cap := by
        rcases hs with ⟨_, _, rfl, rfl⟩ | ⟨_, l, a, cap, _, rfl, hcap, _⟩
        · exact ⟨_, _, rfl, Nat.le_refl _⟩
        · exact ⟨_, _, rfl, hcap⟩
      obtain ⟨base, cap, rfl, hcap⟩ := hle
      refine ⟨_, β, w, _, run_append_nothing w t tx ty e.1 i hu hi base len cap hcap cx (by rw [hsize]; exact hsrc), rfl, hs, hH, Ext.refl _ _ _ _⟩
    · rename_i hn0
      simp only at hn0
      split at hv
      · rename_i hc
        obtain ⟨hb1, hb2, hown, hzl⟩ := hc
        simp only [Option.bind_eq_some_iff] at hv
        obtain ⟨olds, holds, hv⟩ := hv
        cases hv
        simp only at hb1 hb2 hzl
        have hnl := hsrc.newsLen
        -- the concrete slice
        have hgrow : ∀ (base : Option Addr) (cap : Nat) (olds' : List Value), All2 (RelC β) olds olds' → cs = .slice base len cap → cap < len + n → (Builtin.firstCells i.size len (.slice base len cap)).run P w.drew = .ok olds'.toArray w.drew → olds.length = len * e.2.1 →
            ∃ c β' w' v, (Builtin.append_ #[t, tx] ty #[cs, cx]).run P w = .ok c w' ∧ some (V.sl e.2.1 h.next 0 (len + n)) = some v ∧ RelV β' v c ∧ RelH B β' ((h.new (olds ++ ys)).kill id) w' ∧ Ext B β h w β' ((h.new (olds ++ ys)).kill id) w' := by
          intro base cap olds' hro hcs hcap hfirst hol
          subst hcs
          have hfit := growslice_fits (bytes := i.bytes) hcap (by rw [hbytes]; exact hb1)
          have hrun := run_append_grow_src w t tx ty e.1 i zv hu hi hzv base len cap olds' hfirst cx n news (by rw [hsize]; exact hsrc) hcap (by omega) hfit
          have hcapge : len + n ≤ grownCap w (len + n) cap e.1 := by unfold grownCap Question.cut; simp only; omega
          have hzlen : zv.cells.size = e.2.1 := by have := (ofCs_rel β hzc).length; simp at this; omega
          have hC : ((olds' ++ news).toArray ++ Builtin.zeroCells zv.cells (grownCap w (len + n) cap e.1 - (len + n))).size = grownCap w (len + n) cap e.1 * e.2.1 := by
            simp only [Array.size_append, List.size_toArray, List.length_append, Builtin.zeroCells, Array.size_map, Array.size_range, ← hro.length, hol, hnl, hzlen]
            rw [← Nat.add_mul, ← Nat.add_mul]
            congr 1; omega
          have hlen2 : (olds ++ ys).length = (len + n) * e.2.1 := by rw [List.length_append, hol, hnews.length, hnl, Nat.add_mul]
          have hrel2 : All2 (RelC β) (olds ++ ys) (olds' ++ news) := hro.append hnews
          obtain ⟨hR, hX⟩ := new_rel (hH.drew) (cs := olds ++ ys) ((olds' ++ news).toArray ++ Builtin.zeroCells zv.cells (grownCap w (len + n) cap e.1 - (len + n))) e.1 (0, 0) false (by simp)
            (by rw [hC, hlen2]; exact Nat.mul_le_mul_right _ hcapge) (by
              rw [Array.toList_append, List.take_append_of_le_length (by rw [hrel2.length]; simp), List.take_of_length_le (by rw [hrel2.length]; simp)]
              simpa using hrel2) (fun j _ => by omega)
          obtain ⟨hR2, hX2⟩ := kill_rel hR id
          have hne : h.next ≠ 0 := by have := hH.pos; omega
          refine ⟨_, _, _, _, hrun, rfl, .inr ⟨hne, ⟨w.drew.heap.size, 0, _, false⟩, _, _, Bet.set_same _ _ _, rfl, hcapge, fun _ => ⟨by simp, by rw [hC]; simp⟩, fun _ => rfl⟩, hR2, (Ext.drew B β h w).trans (hX.trans hX2)⟩
        have holds' : (len = 0 ∧ olds = []) ∨ h.load id off (len * e.2.1) = some olds := by
          split at holds
          · rename_i hl0; cases holds; exact .inl ⟨hl0, rfl⟩
          · exact .inr holds
        rcases hs with ⟨h0, hoff, hlen0, rfl⟩ | ⟨hne, l, a, cap, hb, rfl, hcap, ha, hstr⟩
        · subst hlen0
          have : olds = [] := by rcases holds' with ⟨_, h1⟩ | h1; · exact h1
                                 · rw [h0] at h1; unfold H.load at h1; rw [hH.zero] at h1; simp at h1
          subst this
          exact hgrow none 0 [] trivial rfl (by omega) (run_firstCells_none w.drew i.size 0 0 0) (by simp)
        · obtain ⟨hal, hlo, _, hez⟩ : (h.blk id).alive = true ∧ h.lo ≤ id ∧ id ≠ 0 ∧ ez = e.2.1 := hown.resolve_left fun ⟨h1, _⟩ => hne h1
          by_cases hroom : len + n ≤ cap
          · obtain ⟨rfl, hrm⟩ := ha (by omega)
            rw [hez] at hrm
            have hsum : len * e.2.1 + n * e.2.1 ≤ cap * e.2.1 := by rw [← Nat.add_mul]; exact Nat.mul_le_mul_right _ hroom
            obtain ⟨hth, hR, hX⟩ := grow_rel hH (n := len * e.2.1) (off := off) (olds := olds) hal hlo hb (holds'.imp (fun ⟨h1, h2⟩ => ⟨by rw [h1]; simp, h2⟩) (fun x => x)) hnews (by rw [hnl]; omega)
            refine ⟨_, _, _, _, run_append_room_src w t tx ty e.1 i hu hi l.b (l.base + off) len cap cx n news (by rw [hsize]; exact hsrc) hroom (fun j hj => by rw [hsize]; exact (hth j hj).1) (fun j hj => by rw [hsize]; exact (hth j hj).2), rfl, ?_, by rw [hsize]; exact hR, by rw [hsize]; exact hX⟩
            have hne' : h.next ≠ 0 := by have := hH.pos; omega
            exact .inr ⟨hne', ⟨l.b, l.base + off, l.room - off, l.str⟩, _, cap, Bet.set_same _ _ _, rfl, hroom, fun _ => ⟨by simp, by simp only; omega⟩, fun hz => hstr (by rw [hez]; exact hz)⟩
          · rcases holds' with ⟨h1, h2⟩ | hl
            · subst h1 h2
              refine hgrow (some a) cap [] trivial rfl (by omega) ?_ (by simp)
              exact run_firstCells_some w.drew i.size 0 a 0 cap [] (by simp) (fun j v hj => by simp at hj)
            · obtain ⟨hll, l', cs', hb', _, hrange, hrel, hag⟩ := load_rel hH hl
              rw [hb] at hb'; cases hb'
              refine hgrow (some a) cap cs' hrel rfl (by omega) ?_ hll
              refine run_firstCells_some w.drew i.size len a len cap cs' (by rw [← hrel.length, hll, hsize]) (fun j v hj => ?_)
              have hpos2 : 0 < len := by
                rcases Nat.eq_zero_or_pos len with e0 | e0
                · subst e0; have : cs'.length = 0 := by rw [← hrel.length, hll]; simp
                  have hj' := (List.getElem?_eq_some_iff.1 hj).1; omega
                · exact e0
              obtain ⟨rfl, _⟩ := ha (by omega)
              rw [Addr.add_mid]
              exact hrange j v hj
      · cases hv
  · cases hv
end Go.Proofs.Ythoabddfionmoaa.AH
