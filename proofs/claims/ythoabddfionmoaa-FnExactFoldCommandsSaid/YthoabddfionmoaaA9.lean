/- One operation, held against the model. No condition. -/
import Derived.Test.YthoabddfionmoaaA8
set_option linter.unusedVariables false
set_option linter.unusedSimpArgs false
namespace Go.Proofs.Ythoabddfionmoaa.AH
open Go Go.RowKit
variable {P : Program}

theorem opds_rel {β : Bet} {E : Env} {a : Act} (hE : RelE β E a.tmps) : ∀ {l : List Operand} {vs : List V}, opds E l = some vs → All2 (RelV β) vs (l.map a.eval)
  | [], vs, h => by simp [opds] at h; subst h; trivial
  | o :: r, vs, h => by
    simp only [opds, Option.bind_eq_some_iff, Option.map_eq_some_iff] at h
    obtain ⟨v, hv, us, hus, rfl⟩ := h
    exact ⟨opd_rel hE hv, opds_rel hE hus⟩
theorem caps_rel {β : Bet} : ∀ {caps : List (Nat × Nat)} {cs : List Value}, All2 (RelP β) caps cs → All2 (RelV β) (caps.map fun p => V.ptr p.1 p.2) cs
  | [], [], _ => trivial
  | p :: r, c :: cs, h => by
    obtain ⟨⟨l, h1, h2, h3⟩, ht⟩ := h
    exact ⟨.inr ⟨h2, l, h1, h3⟩, caps_rel ht⟩
  | [], _ :: _, h => h.elim
  | _ :: _, [], h => h.elim

/-- What comes behind one operation that made or wrote memory, or called. -/
def After (B : Nat) (β : Bet) (h : H) (w : World) (rv : Option V) (h' : H) (o : Oper) (a : Act) (next : Act → World → Prop) : Prop :=
  ∀ β' c w', (∀ v, rv = some v → RelV β' v c) → RelH B β' h' w' → Ext B β h w β' h' w' → next (a.put o.dst c) w'

theorem alloc_cells {B : Nat} {β : Bet} {h : H} {w : World} (hH : RelH B β h w) {cs : List V} {C : Array Value} (e : TypeId) (hr : All2 (RelC β) cs C.toList) :
    RelH B (β.set h.next ⟨w.heap.size, 0, C.size, false⟩) (h.new cs) (w.alloc (.cells C e)) ∧ Ext B β h w (β.set h.next ⟨w.heap.size, 0, C.size, false⟩) (h.new cs) (w.alloc (.cells C e)) ∧ h.next ≠ 0 := by
  have hl := hr.length
  obtain ⟨h1, h2⟩ := new_rel hH (cs := cs) C e (0, 0) false (by simp) (by simp at hl; omega) (by rw [List.take_of_length_le (by omega)]; exact hr) (fun _ _ => by omega)
  exact ⟨h1, h2, by have := hH.pos; omega⟩

theorem eOp_sim {B : Nat} {β : Bet} {h : H} {w : World} (hH : RelH B β h w) {call : Nat → List V → H → Option (V × H)} (hcall : CallOk P B call) {E : Env} {a : Act} (hE : RelE β E a.tmps) (o : Oper) {rv : Option V} {h' : H}
    (hv : eOp P call E h o.op = some (rv, h')) {next : Act → World → Prop} {Q : Exit → Act → World → Prop} (hn : After B β h w rv h' o a next) : o.wp P a w next Q := by
  have fin : ∀ {c : Value} {w' : World}, (execOp a.eval o).run P w = .ok (.value c) w' → next (a.put o.dst c) w' → o.wp P a w next Q := fun hr hk => by
    unfold Oper.wp; rw [hr]; exact hk
  have fin' : ∀ {w' : World}, (execOp a.eval o).run P w = .ok .skip w' → next (a.put o.dst undef) w' → o.wp P a w next Q := fun hr hk => by
    unfold Oper.wp; rw [hr]; exact hk
  unfold eOp at hv
  split at hv
  · rename_i t ho
    simp only [Option.map_eq_some_iff] at hv
    obtain ⟨z, hz, he⟩ := hv
    cases he
    obtain ⟨i, zv, hi, hzv, hzc⟩ := zeroOf_some hz
    obtain ⟨hR, hX, hne⟩ := alloc_cells hH t (ofCs_rel β hzc)
    refine fin (c := .pointer (some ⟨w.heap.size, 0, none⟩)) ?_ (hn _ _ _ (fun v hv => by cases hv; exact .inr ⟨hne, _, Bet.set_same _ _ _, rfl⟩) hR hX)
    unfold execOp; rw [ho]
    simp [Instr.alloc, zeroValue, typeInfo, hi, hzv, newVar, newRow]
  · rename_i t x ho
    simp only [Option.bind_eq_some_iff, Option.map_eq_some_iff] at hv
    obtain ⟨u, hu, cs, hcs, he⟩ := hv
    cases he
    obtain ⟨hR, hX, hne⟩ := alloc_cells hH t (cellsV_rel (opd_rel hE hu) hcs)
    refine fin (c := .pointer (some ⟨w.heap.size, 0, none⟩)) ?_ (hn _ _ _ (fun v hv => by cases hv; exact .inr ⟨hne, _, Bet.set_same _ _ _, rfl⟩) hR hX)
    unfold execOp; rw [ho]
    simp [Instr.box, newVar, newRow]
  · rename_i t n parts ho
    simp only [Option.bind_eq_some_iff] at hv
    obtain ⟨e, he, hv⟩ := hv
    obtain ⟨i, hu, hi, hsize, hbytes, hpos⟩ := elemOf_some he
    split at hv
    · rename_i hsm
      simp only [Option.bind_eq_some_iff] at hv
      obtain ⟨z, hz, hv⟩ := hv
      obtain ⟨i', zv, hi', hzv, hzc⟩ := zeroOf_some hz
      rw [hi] at hi'; cases hi'
      split at hv
      · rename_i hzl
        simp only [Option.map_eq_some_iff] at hv
        obtain ⟨cs, hf, hh⟩ := hv
        cases hh
        have hzr := ofCs_rel β hzc
        have hrun : ∀ (C : Array Value), Instr.fill (fun i => some (i * e.2.1, e.2.1)) ((Array.range (n * e.2.1)).map (fun i => (if n * e.2.1 = 0 then #[] else zv.cells)[i % (if n * e.2.1 = 0 then #[] else zv.cells).size]!)) (parts.toList.map fun x => (x.1, a.eval x.2)) = some C →
            (execOp a.eval o).run P w = .ok (.value (.slice (some ⟨w.heap.size, 0, none⟩) n n)) (w.alloc (.cells C e.1)) := fun C hC => by
          unfold execOp; rw [ho]
          have e1 : (parts.map fun (i, x) => (i, a.eval x)).toList = parts.toList.map fun x => (x.1, a.eval x.2) := by simp
          have hsm' : ¬ (16777216 < n * e.2.1) := by omega
          by_cases h0 : n * e.2.1 = 0
          · have hn0 : n = 0 := by rcases Nat.mul_eq_zero.1 h0 with h1 | h1; · exact h1
                                   · omega
            subst hn0
            have hC' : Instr.fill (fun i => some (i * e.2.1, e.2.1)) #[] (parts.toList.map fun x => (x.1, a.eval x.2)) = some C := by
              rw [← hC]; congr 1; simp
            simp [Instr.buildSlice, run_underlying hu, sizeOf, typeInfo, hi, hsize, Array.range_zero', hC', newRow]
          · simp only [h0, if_false] at hC
            simp [Instr.buildSlice, run_underlying hu, sizeOf, typeInfo, zeroValue, hi, hsize, hzv, h0, hC, newRow, hsm']
        have hr0 : All2 (RelC β) ((List.replicate n z).flatten) ((Array.range (n * e.2.1)).map (fun i => (if n * e.2.1 = 0 then #[] else zv.cells)[i % (if n * e.2.1 = 0 then #[] else zv.cells).size]!)).toList := by
          by_cases h0 : n * e.2.1 = 0
          · have : n = 0 := by rcases Nat.mul_eq_zero.1 h0 with h1 | h1; · exact h1
                               · omega
            subst this; simp [All2]
          · have hzl' := hzl.resolve_left h0
            simp only [h0, if_false]
            have := rep_rel hzr (by omega) n
            rw [hzl'] at this; simpa using this
        obtain ⟨C', hfill, hrC⟩ := fill_sim hE (place' := fun i => some (i * e.2.1, e.2.1)) (fun _ _ h => h) hr0 hf
        obtain ⟨hR, hX, hne⟩ := alloc_cells hH (C := C'.toArray) e.1 (by simpa using hrC)
        refine fin (hrun C'.toArray (by rw [Array.toArray_toList] at hfill; exact hfill)) (hn _ _ _ (fun v hv => by
          cases hv
          refine .inr ⟨hne, _, _, n, Bet.set_same _ _ _, rfl, Nat.le_refl _, fun _ => ⟨by simp, ?_⟩, fun _ => rfl⟩
          have h1 := hrC.length
          have h2 : cs.length = n * e.2.1 := by
            have hfl : ∀ {parts : List (Nat × Operand)} {c1 c2 : List V}, fillV (fun i => some (i * e.2.1, e.2.1)) E parts c1 = some c2 → c2.length = c1.length := by
              intro parts
              induction parts with
              | nil => intro c1 c2 h; simp [fillV] at h; rw [h]
              | cons p r ih =>
                intro c1 c2 h
                obtain ⟨j, q⟩ := p
                simp only [fillV, Option.bind_eq_some_iff] at h
                obtain ⟨v, _, vs, _, pp, _, h⟩ := h
                split at h
                · simp only [Option.bind_eq_some_iff] at h
                  obtain ⟨c3, h3, h⟩ := h
                  rw [ih h]
                  unfold splice at h3
                  split at h3
                  · cases h3; simp; omega
                  · cases h3
                · cases h
            rw [hfl hf, flatten_len]
            rcases hzl with h0 | h0
            · have : n = 0 := by rcases Nat.mul_eq_zero.1 h0 with h1 | h1; · exact h1
                                 · omega
              subst this; simp
            · rw [h0]
          simp only [Nat.zero_add, List.size_toArray]; omega) hR hX)
      · cases hv
    · cases hv
  · rename_i t x y ho
    simp only [Option.bind_eq_some_iff] at hv
    obtain ⟨p, hp, u, hu, vs, hvs, hv⟩ := hv
    split at hv
    · rename_i id off
      simp only [Option.bind_eq_some_iff] at hv
      obtain ⟨ty, hty, hv⟩ := hv
      split at hv
      · rename_i hlen
        simp only [Option.map_eq_some_iff] at hv
        obtain ⟨h1, hst, he⟩ := hv
        cases he
        obtain ⟨n, row⟩ := ty
        obtain ⟨d, ti, htu, hti, rfl, rfl⟩ := ldTy_some hty
        have hrv := cellsV_rel (opd_rel hE hu) hvs
        obtain ⟨l, hb, hne, hth, hR, hX⟩ := store_rel hH hst hrv
        have hpc : a.eval x = .pointer (some ⟨l.b, l.base + off, none⟩) := by
          rcases opd_rel hE hp with ⟨h0, _⟩ | ⟨_, l', hb', he⟩
          · exact absurd h0 hne
          · rw [hb] at hb'; cases hb'; exact he
        refine fin' ?_ (hn _ _ _ (fun v hv => by cases hv) hR hX)
        unfold execOp; rw [ho]
        have hsc := run_storeCells_cells (P := P) l.b (l.base + off) (a.eval y).cells.toList 0 w (fun j hj => by simpa using (hth j hj).1) (fun j hj => by simpa using (hth j hj).2) (hrv.right (p := fun u => u.oneCell' = true) fun _ _ hh => hh.one)
        simp only [Nat.add_zero] at hsc
        have hcs : (a.eval y).cells.size = ti.size := by have := hrv.length; simp at this hlen; omega
        simp [Instr.storeAt, hpc, Instr.sureAddr, storeVar, sizeOf, typeInfo, hti, hcs, hsc]
      · cases hv
    · cases hv
  · rename_i t x y ho
    simp only [Option.bind_eq_some_iff] at hv
    obtain ⟨p, hp, q, hq, e, he, z, hz, hv⟩ := hv
    obtain ⟨i, hu, hi, hsize, hbytes, hpos⟩ := elemOf_some he
    obtain ⟨i', zv, hi', hzv, hzc⟩ := zeroOf_some hz
    rw [hi] at hi'; cases hi'
    split at hv
    · rename_i k n k' m
      split at hv
      · rename_i hc
        obtain ⟨rfl, h0, h1, h2, hzl⟩ := hc
        cases hv
        have hzr := ofCs_rel β hzc
        have hpx : a.eval x = .int k n := opd_rel hE hp
        have hqy : a.eval y = .int k' n := opd_rel hE hq
        have hrun := run_make (P := P) w t e.1 i zv hu hi hzv k k' n n h0 (Int.le_refl _) (by rw [hbytes]; exact h2) (by omega)
        have hr := rep_rel hzr (by omega) n.toNat
        rw [hzl] at hr
        obtain ⟨hR, hX, hne⟩ := alloc_cells hH (C := madeCells zv.cells (n.toNat * e.2.1)) e.1 (by unfold madeCells; simpa using hr)
        refine fin (c := .slice (some ⟨w.heap.size, 0, none⟩) n.toNat n.toNat) ?_ (hn _ _ _ (fun v hv => by
          cases hv
          refine .inr ⟨hne, _, _, n.toNat, Bet.set_same _ _ _, rfl, Nat.le_refl _, fun _ => ⟨by simp, ?_⟩, fun _ => rfl⟩
          simp [size_madeCells]) hR hX)
        unfold execOp; rw [ho]
        rw [hsize] at hrun
        simp [hpx, hqy, hrun]
      · cases hv
    · cases hv
  · rename_i s d x ho
    simp only [Option.bind_eq_some_iff, Option.map_eq_some_iff] at hv
    obtain ⟨u, hu, r0, hv, hx0⟩ := hv
    unfold cvtW at hv
    split at hv
    · rename_i e b hstr hd
      split at hv
      · rename_i hue
        split at hv
        · rename_i hsz
          cases hv; cases hx0
          have hxc : a.eval x = .string b := opd_rel hE hu
          have hrun := run_bytes_of_string (P := P) w s d e b hstr hd hue
          have hcapge : b.size ≤ grownCap w b.size 0 e := by unfold grownCap Question.cut; simp only; omega
          have hC : (bytesRow b (grownCap w b.size 0 e)).size = grownCap w b.size 0 e := by
            unfold bytesRow; simp; have : b.data.size = b.size := rfl; omega
          have hl : (b.data.toList.map fun c => V.int .u8 c.toNat).length = b.size := by simp
          obtain ⟨hR, hX⟩ := new_rel (hH.drew) (cs := b.data.toList.map fun c => V.int .u8 c.toNat) (bytesRow b (grownCap w b.size 0 e)) e ((bytesRow b (grownCap w b.size 0 e)).size, (bytesRow b (grownCap w b.size 0 e)).size + 1) true (by simp)
            (by rw [hl, hC]; exact hcapge) (All2.of_get (by rw [List.length_take, hl]; simp only [Array.length_toList, hC]; omega) fun j x y hx hy => by
              have hj : j < b.size := by have := (List.getElem?_eq_some_iff.1 hx).1; rw [hl] at this; exact this
              rw [hl, List.getElem?_take_of_lt hj, Array.getElem?_toList, bytesRow_at b _ j hj] at hy
              cases hy
              simp only [List.getElem?_map, Option.map_eq_some_iff] at hx
              obtain ⟨b', hb', rfl⟩ := hx
              rw [Array.getElem?_toList, Array.getElem?_eq_getElem hj] at hb'
              cases hb'; rfl) (fun j hj => by simp only; omega)
          have hne : h.next ≠ 0 := by have := hH.pos; omega
          refine fin (c := .slice (some ⟨w.heap.size, 0, none⟩) b.size (grownCap w b.size 0 e)) ?_ (hn _ _ _ (fun v hv => by
            cases hv
            refine .inr ⟨hne, _, _, _, Bet.set_same _ _ _, rfl, hcapge, fun _ => ⟨by simp, ?_⟩, fun hz => absurd rfl hz⟩
            simp only [hC]; omega) hR ((Ext.drew B β h w).trans hX))
          unfold execOp; rw [ho]
          simp [hxc, hrun]
        · cases hv
      · cases hv
    · cases hv
  · rename_i c ho
    split at hv
    · rename_i s x t tx ts hcal hargs htys
      simp only [Option.bind_eq_some_iff] at hv
      obtain ⟨u, hu, y, hy, hv⟩ := hv
      have e1 : c.args = #[s, x] := by rw [← Array.toArray_toList (xs := c.args), hargs]
      obtain ⟨cv, β', w', v, hrun, rfl, hrel, hR, hX⟩ := appV_sim (ty := o.type) hH (opd_rel hE hu) (opd_rel hE hy) hv
      refine fin (c := cv) ?_ (hn _ _ _ (fun v' hv' => by cases hv'; exact hrel) hR hX)
      unfold execOp; rw [ho]
      have e2 : ∀ w, (Builtin.append_ c.argTypes o.type #[a.eval s, a.eval x]).run P w = (Builtin.append_ #[t, tx] o.type #[a.eval s, a.eval x]).run P w := fun w => by
        have : c.argTypes = (t :: tx :: ts).toArray := by rw [← Array.toArray_toList (xs := c.argTypes), htys]
        rw [this]; simp [Builtin.append_]
      simp [resolve, hcal, invoke, builtin, e1, e2, hrun]
    · rename_i f hcal
      simp only [Option.bind_eq_some_iff] at hv
      obtain ⟨g, hg, hv⟩ := hv
      split at hv
      · rename_i k caps
        simp only [Option.bind_eq_some_iff, Option.map_eq_some_iff] at hv
        obtain ⟨vs, hvs, ⟨r, h1⟩, hcl, he⟩ := hv
        cases he
        obtain ⟨cs, hfc, hcs⟩ := opd_rel hE hg
        obtain ⟨⟨fn, hfn, hname, hbody⟩, hok⟩ := hcall _ _ _ _ _ hcl
        have hcalls := hok β w (c.args.toList.map a.eval ++ cs) ((opds_rel hE hvs).append (caps_rel hcs)) hH
        have hrun : (execOp a.eval o).run P w = .ok (.enter k (c.args.toList.map a.eval ++ cs).toArray) w := by
          unfold execOp; rw [ho]
          have e3 : c.args.map a.eval ++ cs.toArray = (c.args.toList.map a.eval ++ cs).toArray := by apply Array.ext'; simp
          have hname' : ¬ (fn.name = "runtime.NumGoroutine") := by simpa using hname
          have hbody' : ¬ (fn.body = none) := by intro hb; rw [hb] at hbody; cases hbody
          simp [resolve, hcal, hfc, Deferred.ofValue, invoke, callFunc, hfn, hname', hbody']
        unfold Oper.wp
        rw [hrun]
        refine Calls.mono hcalls fun e w' hret => ?_
        obtain ⟨cv, β', rfl, hrel, hR, hX⟩ := hret
        exact hn _ _ _ (fun v hv => by cases hv; exact hrel) hR hX
      · cases hv
    · cases hv
  · cases hv
end Go.Proofs.Ythoabddfionmoaa.AH
