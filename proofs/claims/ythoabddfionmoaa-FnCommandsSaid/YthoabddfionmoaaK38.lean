/- The words insP and delP are what slices.Insert and slices.Delete do. Their conditions: the walks over these. PRINTED BY insdel.py (this session's own program): slices.Insert and slices.Delete over the model. The row of the law FnCommands: for every input it answers true, and what came in reads as it did. PRINTED BY lawrow.py (this session's own program). No condition. -/
import Derived.Test.YthoabddfionmoaaK37
import Derived.Laws.LoneSync
import Derived.Test.YthoabddfionmoaaProg
import Derived.WalkKit
import Derived.Shelf.Spec.SlicesInsert
import Derived.Test.YthoabddfionmoaaRows
import Derived.Test.YthoabddfionmoaaK31
import Derived.Test.YthoabddfionmoaaK32
import Derived.Test.YthoabddfionmoaaK3St
import Derived.Test.YthoabddfionmoaaK34
import Derived.Test.YthoabddfionmoaaK35
import Derived.Test.YthoabddfionmoaaK36
set_option linter.unusedVariables false
set_option linter.unusedSimpArgs false
set_option maxRecDepth 100000
namespace Go.Proofs.Ythoabddfionmoaa.AH
open Go Go.RowKit Go.Lib
theorem insP_ok {P : Program} {B f ov : Nat} {tS tE tI : TypeId} {sz bytes : Nat} (W : InsWalk P f ov tS tE tI sz) (hI : P.underlying tI = some (.int .i64)) (he : elemOf' P tS = some (tE, sz, bytes)) (hz : ∃ z, zeroOf P tE = some z ∧ z.length = sz)
    (hov : ∀ (w : World) (a b : Addr) (la ca lb cb : Nat), a.block ≠ b.block → ∀ (tA tB : TypeId) (kA kB : Nat), w.shape? a.block = some (tA, kA) → w.shape? b.block = some (tB, kB) → kB ≠ 0 → w.frozen? a = false → w.frozen? { block := a.block, off := kA } = false →
      (callFunc ov #[.slice (some a) la ca, .slice (some b) lb cb]).run P w = .ok (.value (.bool false)) w) : PrimOk P B f (insP sz bytes) := by
  refine ⟨W.fn, fun args h r h' hv β w argsC hargs hH => ?_⟩
  obtain ⟨it, hu, hi, hsize, hbytes, hpos⟩ := elemOf_some he
  obtain ⟨z, hz, hzl⟩ := hz
  obtain ⟨it', zv, hi', hzv, hzc⟩ := zeroOf_some hz
  rw [hi] at hi'; cases hi'
  simp only at hu hi hsize hbytes hpos
  unfold insP at hv
  split at hv
  · rename_i s iv x
    split at hv
    · rename_i ez id off len i xz xid xoff xlen
      simp only [Option.bind_eq_some_iff] at hv
      obtain ⟨y, hy, hv⟩ := hv
      match argsC, hargs with
      | [c0, c1, c2], hargs =>
        obtain ⟨r0, r1, r2, _⟩ := hargs
        have r1 : c1 = .int .i64 i := r1
        subst r1
        have r0 : RelC β (.sl ez id off len) c0 := r0
        have r2 : RelC β (.sl xz xid xoff xlen) c2 := r2
        split at hv
        · rename_i hib
          obtain ⟨k, rfl⟩ : ∃ k : Nat, i = (k : Int) := ⟨i.toNat, by omega⟩
          have hk : k ≤ len := by omega
          have sl0 : ∃ a cap, c0 = .slice a len cap ∧ len ≤ cap := by
            rcases r0 with ⟨_, _, rfl, rfl⟩ | ⟨_, l, a, cap, _, rfl, hc, _⟩
            · exact ⟨none, 0, rfl, Nat.le_refl _⟩
            · exact ⟨some a, cap, rfl, hc⟩
          have sl2 : ∃ a cap, c2 = .slice a xlen cap := by
            rcases r2 with ⟨_, _, rfl, rfl⟩ | ⟨_, l, a, cap, _, rfl, hc, _⟩
            · exact ⟨none, 0, rfl⟩
            · exact ⟨some a, cap, rfl⟩
          split at hv
          · rename_i hx0; subst hx0
            cases hv
            obtain ⟨a, cap, rfl, hcap⟩ := sl0
            obtain ⟨a2, cap2, rfl⟩ := sl2
            refine (W.non w a a2 len cap k cap2 hk hcap).mono ?_
            rintro e w' ⟨rfl, rfl⟩
            exact ⟨_, β, rfl, r0, hH, Ext.refl _ _ _ _⟩
          · rename_i hx0
            split at hv
            · rename_i hc
              obtain ⟨hxid, hxlo, hxne, hxz, hs1, hb1, hb2, hown⟩ := hc
              replace hxz := hxz.symm
              subst hxz
              simp only [Option.bind_eq_some_iff] at hv
              obtain ⟨olds, holds, hv⟩ := hv
              cases hv
              have hxm : ¬ xlen * sz = 0 := Nat.ne_of_gt (Nat.mul_pos (by omega) hpos)
              simp only [srcL, if_neg hxne, if_neg hxm, Option.map_eq_some_iff] at hy
              obtain ⟨ys, hyl, rfl⟩ := hy
              simp only at hb1 hb2 ⊢
              have hxpos : 0 < xlen := by omega
              by_cases hkl : k = len
              · -- at the end: an append
                subst hkl
                have hol : olds.length = k * sz := by
                  split at holds
                  · rename_i h0; cases holds; subst h0; simp
                  · exact bload_len holds
                have hap : appV P h tS tS (.sl ez id off k) (.sl sz xid xoff xlen) = some (some (.sl sz h.next 0 (k + xlen)), (h.new (olds ++ ys)).kill id) := by
                  simp only [appV, he, Option.bind_some, hz, srcV, hu, if_neg hxne, if_neg hxm, hyl, Option.map_some, if_neg hx0]
                  rw [if_pos ⟨hb1, hb2, hown, hzl⟩, holds]
                  rfl
                have happ := fun ty => appV_sim (ty := ty) hH (s := .sl ez id off k) (x := .sl sz xid xoff xlen) (cs := c0) (cx := c2) r0.toV r2.toV hap
                obtain ⟨cv, β', w', v, hrun, hv', hrel, hR, hX⟩ := happ 0
                obtain ⟨a, cap, rfl, hcap⟩ := sl0
                obtain ⟨a2, cap2, rfl⟩ := sl2
                refine (W.app w w' a a2 k cap xlen cap2 cv hcap hxpos (fun ty => ?_)).mono ?_
                · have : ∀ ty, (Builtin.append_ #[tS, tS] ty #[.slice a k cap, .slice a2 xlen cap2]).run P w = (Builtin.append_ #[tS, tS] 0 #[.slice a k cap, .slice a2 xlen cap2]).run P w := fun ty => by simp [Builtin.append_]
                  rw [this ty]; exact hrun
                · rintro e w'' ⟨rfl, rfl⟩
                  cases hv'
                  have e3 : olds.take (((k : Nat) : Int).toNat * sz) ++ ys ++ olds.drop (((k : Nat) : Int).toNat * sz) = olds ++ ys := by
                    rw [Int.toNat_natCast, ← hol]; simp
                  rw [e3]
                  exact ⟨cv, β', rfl, hrel, hR, hX⟩
              · have hlt : k < len := by omega
                have hl0 : ¬ len = 0 := by omega
                rw [if_neg hl0] at holds
                have hid0 : id ≠ 0 := by
                  intro e; subst e
                  rcases hown with hown | hown
                  · omega
                  · exact hown.2.2.1 rfl
                obtain ⟨hal, hlo, _, hez⟩ := hown.resolve_left fun q => hid0 q.1
                rw [hez] at r0
                obtain ⟨_, l, a, cap, hb, rfl, hcap, hca, hstr⟩ := r0.resolve_left fun q => hid0 q.1
                obtain ⟨rfl, hrm⟩ := hca (by omega)
                obtain ⟨_, lx, ax, capx, hbx, rfl, hcapx, hcax, hstrx⟩ := r2.resolve_left fun q => hxne q.1
                obtain ⟨rfl, hrmx⟩ := hcax (by omega)
                obtain ⟨hol, l1, cs, hb', _, hrange, hrel, hag⟩ := load_rel hH holds
                rw [hb] at hb'; cases hb'
                obtain ⟨hyl2, l2, vs, hbx', _, hrangex, hrelx, _⟩ := load_rel hH hyl
                rw [hbx] at hbx'; cases hbx'
                have hvl : vs.length = xlen * sz := by rw [← hrelx.length, hyl2]
                have hcl : cs.length = len * sz := by rw [← hrel.length, hol]
                have h1c : ∀ v ∈ cs, v.oneCell' = true := hrel.right (p := fun u => u.oneCell' = true) fun _ _ q => q.one
                have h1v : ∀ v ∈ vs, v.oneCell' = true := hrelx.right (p := fun u => u.oneCell' = true) fun _ _ q => q.one
                have hxal : (h.blk xid).alive = true := (bload_alive hyl).1
                have hbne : lx.b ≠ l.b := (hH.inj id xid l lx hal hxal (Ne.symm hxid) hlo hb hbx).symm
                obtain ⟨l3, q1, hroomL, _, q4⟩ := hH.cell id hal
                rw [hb] at q1; cases q1
                obtain ⟨⟨hBl, _⟩, hwr⟩ := q4 hlo
                obtain ⟨l4, q5, hroomX, _, q8⟩ := hH.cell xid hxal
                rw [hbx] at q5; cases q5
                obtain ⟨⟨hBx, hnm⟩, hwrx⟩ := q8 hxlo
                have hsz : (P.info? tE).map (·.size) = some sz := by rw [hi]; simp [hsize]
                have hmul : (k + xlen) * sz = k * sz + xlen * sz := Nat.add_mul _ _ _
                have hmul2 : (len + xlen) * sz = len * sz + xlen * sz := Nat.add_mul _ _ _
                have hks : k * sz ≤ len * sz := Nat.mul_le_mul_right _ hk
                have hks1 : k * sz + sz ≤ len * sz := by have := Nat.mul_le_mul_right sz hlt; rwa [Nat.succ_mul] at this
                have hsub : (len - k) * sz = len * sz - k * sz := Nat.sub_mul _ _ _
                have hdl : (cs.drop (k * sz)).length = (len - k) * sz := by rw [List.length_drop, hcl, hsub]
                have hrdrop : ∀ j v, (cs.drop (k * sz))[j]? = some v → w.cell? ⟨l.b, l.base + off + k * sz + j, none⟩ = some v := fun j v hj => by
                  rw [Nat.add_assoc]; exact hrange (k * sz + j) v (by rwa [List.getElem?_drop] at hj)
                have hlw : l.b < w.heap.size := hH.blt id l hb
                have hxw : lx.b < w.heap.size := hH.blt xid lx hbx
                have hmin : Nat.min (len - k) (len + xlen - (k + xlen)) = len - k := by simp only [Nat.min_def]; split <;> omega
                have hmin1 : Nat.min (len + xlen - k) (len + xlen - (k + xlen)) = len - k := by simp only [Nat.min_def]; split <;> omega
                have hmin2 : Nat.min xlen (len + xlen - k) = xlen := by simp only [Nat.min_def]; split <;> omega
                have hkt : ((k : Nat) : Int).toNat = k := Int.toNat_natCast k
                rw [hkt]
                by_cases hroom : len + xlen ≤ cap
                · -- in place
                  have hcs : (len + xlen) * sz ≤ cap * sz := Nat.mul_le_mul_right _ hroom
                  obtain ⟨hR, hX⟩ := shift_rel hH (i := k) hal hlo hb holds hrel hrelx hvl hk (by omega)
                  have hth : ∀ j, off + j < l.room → (w.cell? ⟨l.b, l.base + off + j, none⟩).isSome = true ∧ w.frozen? ⟨l.b, l.base + off + j, none⟩ = false := fun j hj => by
                    have := hwr (off + j) hj
                    rwa [← Nat.add_assoc] at this
                  refine (W.shift w (w.drew.setCells l.b (l.base + off + (k + xlen) * sz) (cs.drop (k * sz))) _ l.b (l.base + off) len cap k lx.b (lx.base + xoff) xlen capx hlt hxpos hroom (by omega) (fun lb cb => ?_)
                    (fun ty dc sc => run_copyN w.drew tS tS ty tE sz l.b (l.base + off + (k + xlen) * sz) _ dc (ad l.b (l.base + off + k * sz)) _ sc (len - k) (cs.drop (k * sz)) hu hsz hmin1 hdl ?_ ?_ ?_ ?_)
                    (fun ty dc => run_copyN _ tS tS ty tE sz l.b (l.base + off + k * sz) _ dc (ad lx.b (lx.base + xoff)) _ capx xlen vs hu hsz hmin2 hvl ?_ ?_ ?_ h1v)).mono ?_
                  · obtain ⟨tA, kA, hsa, hfe⟩ := hnm (hstrx hs1)
                    have hcell := (hth ((k + xlen) * sz) (by rw [hmul]; rw [hmul2] at hcs; omega)).1
                    obtain ⟨cv, hcv⟩ := Option.isSome_iff_exists.1 hcell
                    obtain ⟨tB, kB, hsb, hkb, _⟩ := World.shape?_of_cell? hcv
                    have hx0' := hwrx xoff (by have : 0 < xlen * sz := Nat.pos_of_ne_zero hxm
                                               have hh : xlen * sz ≤ capx * sz := Nat.mul_le_mul_right _ hcapx
                                               omega)
                    exact hov w _ _ _ _ _ _ hbne tA tB kA kB hsa hsb (by omega) hx0'.2 hfe
                  · intro j v hj
                    rw [Addr.add_mid]; exact hrdrop j v hj
                  · intro j hj
                    rw [hdl, hsub] at hj
                    rw [Nat.add_assoc]
                    exact (hth ((k + xlen) * sz + j) (by rw [hmul]; omega)).1
                  · intro j hj
                    rw [hdl, hsub] at hj
                    rw [Nat.add_assoc]
                    exact (hth ((k + xlen) * sz + j) (by rw [hmul]; omega)).2
                  · exact fun v hv => h1c v (List.mem_of_mem_drop hv)
                  · intro j v hj
                    rw [Addr.add_mid, World.cell?_setCells_out _ _ _ _ _ (fun q _ => absurd q hbne)]
                    exact hrangex j v hj
                  · intro j hj
                    rw [hvl] at hj
                    exact World.isSome_setCells _ _ _ _ _ (by rw [Nat.add_assoc]; exact (hth (k * sz + j) (by omega)).1)
                  · intro j hj
                    rw [hvl] at hj
                    rw [World.frozen?_setCells, Nat.add_assoc]; exact (hth (k * sz + j) (by omega)).2
                  · rintro e w' ⟨rfl, rfl⟩
                    have hne' : h.next ≠ 0 := by have := hH.pos; omega
                    refine ⟨_, _, rfl, ?_, hR, hX⟩
                    exact .inr ⟨hne', _, _, cap, Bet.set_same _ _ _, rfl, hroom, fun _ => ⟨by simp, by simp only; omega⟩, fun hzz => hstr hzz⟩
                · -- a new row
                  have hcl2 : cap < len + xlen := by omega
                  have hGn : len + xlen ≤ grownCap w (len + xlen) cap tE := by unfold grownCap Question.cut; simp only; omega
                  have hkk : (len : Int) + (xlen : Int) - (k : Int) = ((len + xlen - k : Nat) : Int) := by omega
                  have hik : k + (len + xlen - k) = len + xlen := by omega
                  have hzs : zv.cells.size = sz := by have := (ofCs_rel β hzc).length; rw [hzl] at this; simpa using this.symm
                  have hfit := growslice_fits (bytes := it.bytes) hcl2 (by rw [hbytes]; exact hb1)
                  have hold : (Builtin.firstCells it.size k (.slice (some (ad l.b (l.base + off))) k cap)).run P w.drew = .ok (cs.take (k * sz)).toArray w.drew := by
                    rw [hsize]
                    exact run_firstCells_some w.drew sz k (ad l.b (l.base + off)) k cap (cs.take (k * sz)) (by rw [List.length_take, hcl]; omega) (fun j v hj => by
                      rw [Addr.add_mid]
                      rw [List.getElem?_take] at hj
                      split at hj
                      · exact hrange j v hj
                      · cases hj)
                  have hbb : (len + xlen - k) * it.bytes ≤ 281474976710656 := by
                    have : (len + xlen - k) * it.bytes ≤ (len + xlen) * it.bytes := Nat.mul_le_mul_right _ (by omega)
                    rw [hbytes] at this ⊢; omega
                  have hrz : ∀ ty, _ := fun ty => Lib.run_append_grow_zeros (P := P) w tS tI ty tE it zv .i64 .i64 hu hI hi hzv (some (ad l.b (l.base + off))) k cap (cs.take (k * sz)) hold (len + xlen - k) (by omega) (by rw [hsize]; exact hpos) (by omega) (by omega) hbb (by rw [hik]; exact hfit)
                  rw [hik, ← hkk] at hrz
                  generalize hG : grownCap w (len + xlen) cap tE = G at hrz hGn
                  generalize hC : ((cs.take (k * sz)).toArray ++ Builtin.zeroCells zv.cells (len + xlen - k) ++ Builtin.zeroCells zv.cells (G - (len + xlen))) = C at hrz
                  have hCs : C.size = G * sz := by
                    rw [← hC]
                    simp only [Array.size_append, List.size_toArray, Builtin.zeroCells, Array.size_map, Array.size_range, hzs, List.length_take, hcl, Nat.min_eq_left hks]
                    rw [← Nat.add_mul, ← Nat.add_mul]
                    congr 1; omega
                  have hGs : (len + xlen) * sz ≤ G * sz := Nat.mul_le_mul_right _ hGn
                  have hCt : C.toList.take (cs.take (k * sz)).length = cs.take (k * sz) := by
                    rw [← hC]
                    simp only [Array.toList_append, List.append_assoc]
                    rw [List.take_append_of_le_length (by simp)]
                    exact List.take_of_length_le (by simp)
                  have htl : (cs.take (k * sz)).length = k * sz := by rw [List.length_take, hcl]; omega
                  obtain ⟨hR, hX, hne'⟩ := fresh_rel hH (C := C) (e := tE) (i0 := 0) (o1 := k * sz) (o2 := (k + xlen) * sz) (hrel.take (k * sz)) hrelx (hrel.drop (k * sz)) hCt htl.symm (by rw [htl, hvl, hmul]) (by rw [htl, hvl, hdl, hCs, hsub]; omega) id _ _ _ rfl rfl rfl
                  have hNc : ∀ j, j < C.size → ((w.drew.alloc (.cells C tE)).cell? ⟨w.heap.size, j, none⟩).isSome = true := fun j hj => by
                    show ((w.drew.alloc (.cells C tE (0, 0))).cell? ⟨w.drew.heap.size, j, none⟩).isSome = true
                    rw [World.cell?_alloc_mark]; simpa using hj
                  have hNf : ∀ j, (w.drew.alloc (.cells C tE)).frozen? ⟨w.heap.size, j, none⟩ = false := fun j => by
                    show (w.drew.alloc (.cells C tE (0, 0))).frozen? ⟨w.drew.heap.size, j, none⟩ = false
                    rw [World.frozen?_alloc_mark]; simp
                  refine (W.grow w (w.drew.alloc (.cells C tE)) ((w.drew.alloc (.cells C tE)).setCells w.heap.size (k * sz) vs) (((w.drew.alloc (.cells C tE)).setCells w.heap.size (k * sz) vs).drew.setCells w.heap.size ((k + xlen) * sz) (cs.drop (k * sz))) l.b (l.base + off) len cap k lx.b (lx.base + xoff) xlen capx w.heap.size G hlt hxpos hcap hcl2 hGn (by omega) hrz
                    (fun ty dc => run_copyN _ tS tS ty tE sz w.heap.size (k * sz) _ dc (ad lx.b (lx.base + xoff)) _ capx xlen vs hu hsz hmin2 hvl ?_ ?_ ?_ h1v)
                    (fun ty dc sc => run_copyN _ tS tS ty tE sz w.heap.size ((k + xlen) * sz) _ dc (ad l.b (l.base + off + k * sz)) _ sc (len - k) (cs.drop (k * sz)) hu hsz hmin hdl ?_ ?_ ?_ (fun v hv => h1c v (List.mem_of_mem_drop hv)))).mono ?_
                  · intro j v hj
                    rw [Addr.add_mid, World.cell?_alloc_lt _ _ _ (show lx.b < w.drew.heap.size from hxw)]
                    exact hrangex j v hj
                  · intro j hj
                    rw [hvl] at hj
                    exact hNc _ (by omega)
                  · intro j hj; exact hNf _
                  · intro j v hj
                    rw [Addr.add_mid]
                    show ((w.drew.alloc (.cells C tE)).setCells w.heap.size (k * sz) vs).cell? _ = some v
                    rw [World.cell?_setCells_out _ _ _ _ _ (fun q _ => absurd q (Nat.ne_of_lt hlw)), World.cell?_alloc_lt _ _ _ (show l.b < w.drew.heap.size from hlw)]
                    exact hrdrop j v hj
                  · intro j hj
                    rw [hdl, hsub] at hj
                    show (((w.drew.alloc (.cells C tE)).setCells w.heap.size (k * sz) vs).cell? _).isSome = true
                    exact World.isSome_setCells _ _ _ _ _ (hNc _ (by rw [hmul]; omega))
                  · intro j hj
                    show ((w.drew.alloc (.cells C tE)).setCells w.heap.size (k * sz) vs).frozen? _ = false
                    rw [World.frozen?_setCells]; exact hNf _
                  · rintro e w' ⟨rfl, rfl⟩
                    refine ⟨_, _, rfl, ?_, hR, hX⟩
                    exact .inr ⟨hne', _, _, G, Bet.set_same _ _ _, rfl, hGn, fun _ => ⟨by simp, by simp only [hCs]; omega⟩, fun _ => rfl⟩
            · cases hv
        · cases hv
    · cases hv
  · cases hv
theorem delP_ok {P : Program} {B f : Nat} {tS tE : TypeId} {sz bytes : Nat} (W : DelWalk P f tS tE sz) (he : elemOf' P tS = some (tE, sz, bytes)) (hz : ∃ z, zeroOf P tE = some z ∧ z.length = sz) : PrimOk P B f (delP sz) := by
  refine ⟨W.fn, fun args h r h' hv β w argsC hargs hH => ?_⟩
  obtain ⟨it, hu, hi, hsize, hbytes, hpos⟩ := elemOf_some he
  obtain ⟨z, hz, hzl⟩ := hz
  obtain ⟨it', zv, hi', hzv, hzc⟩ := zeroOf_some hz
  rw [hi] at hi'; cases hi'
  simp only at hu hi hsize hbytes hpos
  unfold delP at hv
  split at hv
  · rename_i s iv jv
    split at hv
    · rename_i ez id off len i j
      match argsC, hargs with
      | [c0, c1, c2], hargs =>
        obtain ⟨r0, r1, r2, _⟩ := hargs
        have r1 : c1 = .int .i64 i := r1
        have r2 : c2 = .int .i64 j := r2
        subst r1 r2
        have r0 : RelC β (.sl ez id off len) c0 := r0
        split at hv
        · rename_i hib
          obtain ⟨k, rfl⟩ : ∃ k : Nat, i = (k : Int) := ⟨i.toNat, by omega⟩
          obtain ⟨m, rfl⟩ : ∃ m : Nat, j = (m : Int) := ⟨j.toNat, by omega⟩
          have hkm : k ≤ m := by omega
          have hm : m ≤ len := by omega
          split at hv
          · rename_i hij
            have hij : m = k := by omega
            subst hij
            cases hv
            have sl0 : ∃ a cap, c0 = .slice a len cap ∧ len ≤ cap := by
              rcases r0 with ⟨_, _, rfl, rfl⟩ | ⟨_, l, a, cap, _, rfl, hc, _⟩
              · exact ⟨none, 0, rfl, Nat.le_refl _⟩
              · exact ⟨some a, cap, rfl, hc⟩
            obtain ⟨a, cap, rfl, hcap⟩ := sl0
            refine (W.non w a len cap m hm hcap).mono ?_
            rintro e w' ⟨rfl, rfl⟩
            exact ⟨_, β, rfl, r0, hH, Ext.refl _ _ _ _⟩
          · rename_i hij
            have hlt : k < m := by omega
            split at hv
            · rename_i hown
              obtain ⟨hal, hlo, hid0, hez⟩ := hown
              replace hez := hez.symm
              subst hez
              simp only [Option.bind_eq_some_iff] at hv
              obtain ⟨olds, holds, hv⟩ := hv
              cases hv
              obtain ⟨_, l, a, cap, hb, rfl, hcap, hca, hstr⟩ := r0.resolve_left fun q => hid0 q.1
              obtain ⟨rfl, hrm⟩ := hca (by omega)
              obtain ⟨hol, l1, cs, hb', _, hrange, hrel, hag⟩ := load_rel hH holds
              rw [hb] at hb'; cases hb'
              have hcl : cs.length = len * sz := by rw [← hrel.length, hol]
              have h1c : ∀ v ∈ cs, v.oneCell' = true := hrel.right (p := fun u => u.oneCell' = true) fun _ _ q => q.one
              obtain ⟨l3, q1, hroomL, _, q4⟩ := hH.cell id hal
              rw [hb] at q1; cases q1
              obtain ⟨⟨hBl, _⟩, hwr⟩ := q4 hlo
              have hks : k * sz + sz ≤ m * sz := by have := Nat.mul_le_mul_right sz hlt; rwa [Nat.succ_mul] at this
              have hms : m * sz ≤ len * sz := Nat.mul_le_mul_right _ hm
              have hsub : (len - m) * sz = len * sz - m * sz := Nat.sub_mul _ _ _
              have hadd : (k + (len - m)) * sz = k * sz + (len - m) * sz := Nat.add_mul _ _ _
              have hcs : len * sz ≤ cap * sz := Nat.mul_le_mul_right _ hcap
              have hdl : (cs.drop (m * sz)).length = (len - m) * sz := by rw [List.length_drop, hcl, hsub]
              have hth : ∀ j, off + j < l.room → (w.cell? ⟨l.b, l.base + off + j, none⟩).isSome = true ∧ w.frozen? ⟨l.b, l.base + off + j, none⟩ = false := fun j hj => by
                have := hwr (off + j) hj
                rwa [← Nat.add_assoc] at this
              have hl2 : h.load id off (k * sz) = some (olds.take (k * sz)) := by
                have := bload_sub holds 0 (k * sz) (by omega)
                simpa using this
              obtain ⟨_, hR, hX⟩ := grow_rel hH.drew (olds := olds.take (k * sz)) (news := olds.drop (m * sz)) (news' := cs.drop (m * sz)) hal hlo hb (.inr hl2) (hrel.drop _) (by rw [hdl, hsub]; omega)
              have hne' : h.next ≠ 0 := by have := hH.pos; omega
              have hidn : h.next ≠ id := by have := hH.lt hal; omega
              have hzs : zv.cells.size = sz := by have := (ofCs_rel β hzc).length; rw [hzl] at this; simpa using this.symm
              have hz1 : ∀ v ∈ zv.cells.toList, v.oneCell' = true := (ofCs_rel β hzc).right (p := fun u => u.oneCell' = true) fun _ _ q => q.one
              have hblk : ((h.new (olds.take (k * sz) ++ olds.drop (m * sz))).kill id).blk h.next = ⟨olds.take (k * sz) ++ olds.drop (m * sz), (h.blk h.next).ver, true⟩ := by
                rw [blk_kill, if_neg hidn, blk_new, if_pos rfl]
              have hbl : (olds.take (k * sz) ++ olds.drop (m * sz)).length = (k + (len - m)) * sz := by
                rw [List.length_append, List.length_take, List.length_drop, hol, hadd, hsub]; omega
              have hnum : len - (k + (len - m)) = m - k := by omega
              have hmk : (m - k) * sz = m * sz - k * sz := Nat.sub_mul _ _ _
              have hzl2 : (Builtin.zeroCells zv.cells (m - k)).toList.length = (m - k) * sz := by simp [Builtin.zeroCells, hzs]
              obtain ⟨hR2, hX2⟩ := spare_rel hR (id := h.next) (l := ⟨l.b, l.base + off, l.room - off, l.str⟩) (o := (k + (len - m)) * sz) (vs := (Builtin.zeroCells zv.cells (m - k)).toList) (by rw [hblk]) hH.lo (Bet.set_same _ _ _) (by rw [hblk]; exact Nat.le_of_eq hbl) (by rw [hzl2]; show _ ≤ l.room - off; omega)
              refine (W.del w (w.drew.setCells l.b (l.base + off + k * sz) (cs.drop (m * sz))) ((w.drew.setCells l.b (l.base + off + k * sz) (cs.drop (m * sz))).setCells l.b (l.base + off + (k + (len - m)) * sz) (Builtin.zeroCells zv.cells (m - k)).toList) l.b (l.base + off) len cap k m hlt hm hcap (fun ty => ?_) (fun ty => ?_)).mono ?_
              · have hsrc : Src P it.size tS (.slice (some (if cap = m then ad l.b (l.base + off) else ad l.b (l.base + off + m * sz))) (len - m) (cap - m)) (len - m) (cs.drop (m * sz)) w.drew := by
                  rw [hsize]
                  refine Src.ofSlice w.drew hu _ (len - m) (cap - m) _ hdl (fun t u ht => ?_) (fun u hu => h1c u (List.mem_of_mem_drop hu))
                  by_cases hc : cap = m
                  · have : (cs.drop (m * sz)).length = 0 := by rw [hdl, hsub]; have : len = m := by omega
                                                               rw [this]; omega
                    rw [List.length_eq_zero_iff.1 this] at ht; simp at ht
                  · rw [if_neg hc, Addr.add_mid]
                    rw [List.getElem?_drop] at ht
                    rw [Nat.add_assoc]
                    exact hrange _ u ht
                have := run_append_room_src (P := P) w.drew tS tS ty tE it hu hi l.b (l.base + off) k cap _ (len - m) (cs.drop (m * sz)) hsrc (by omega) (fun j hj => by
                  rw [hdl, hsub] at hj
                  rw [hsize, Nat.add_assoc]
                  exact (hth (k * sz + j) (by omega)).1) (fun j hj => by
                  rw [hdl, hsub] at hj
                  rw [hsize, Nat.add_assoc]
                  exact (hth (k * sz + j) (by omega)).2)
                rw [hsize] at this
                exact this
              · rw [hnum]
                refine run_clearN _ tS tE ty zv hu it hi hzv hz1 l.b (l.base + off + (k + (len - m)) * sz) (m - k) _ (by omega) (fun j hj => ?_) (fun j hj => ?_)
                · rw [hzs] at hj
                  refine World.isSome_setCells _ _ _ _ _ ?_
                  rw [Nat.add_assoc]
                  exact (hth ((k + (len - m)) * sz + j) (by omega)).1
                · rw [hzs] at hj
                  rw [World.frozen?_setCells, Nat.add_assoc]
                  exact (hth ((k + (len - m)) * sz + j) (by omega)).2
              · rintro e w' ⟨rfl, rfl⟩
                refine ⟨_, _, rfl, ?_, by simpa using hR2, by simpa using (Ext.drew B β h w).trans (hX.trans hX2)⟩
                have e1 : len - (((m : Nat) : Int).toNat - ((k : Nat) : Int).toNat) = k + (len - m) := by simp only [Int.toNat_natCast]; omega
                rw [e1]
                exact .inr ⟨hne', _, _, cap, Bet.set_same _ _ _, rfl, by omega, fun _ => ⟨by simp, by simp only; omega⟩, fun hzz => hstr hzz⟩
            · cases hv
        · cases hv
    · cases hv
  · cases hv
end Go.Proofs.Ythoabddfionmoaa.AH
namespace Go.Proofs.Ythoabddfionmoaa.AH
open Go Go.RowKit Go.Lib
set_option maxHeartbeats 4000000 in
set_option maxRecDepth 100000 in
theorem i74_non (w : World) (a x : Option Addr) (n c i vc : Nat) (h1 : i ≤ n) (h2 : n ≤ c) : Calls Try.prog 74 #[.slice a n c, .int .i64 i, .slice x 0 vc] w fun e w' => e = .returned (.slice a n c) ∧ w' = w := by
  have mixed : Try.prog.follows .mixedOrders = true := by kernel_rfl
  go_enter Try.func74, Try.ntmps74
  go_wp2
  all_goals (go_ret; exact ⟨rfl, rfl⟩)
set_option maxHeartbeats 4000000 in
set_option maxRecDepth 100000 in
theorem i74_app (w w1 : World) (a x : Option Addr) (n c m vc : Nat) (r : Value) (h1 : n ≤ c) (h3 : 0 < m) (hr : ∀ ty, (Builtin.append_ #[44, 44] ty #[.slice a n c, .slice x m vc]).run Try.prog w = .ok r w1) :
    Calls Try.prog 74 #[.slice a n c, .int .i64 n, .slice x m vc] w fun e w' => e = .returned r ∧ w' = w1 := by
  have hz1 : ¬ ((m : Int) = 0) := by omega
  have mixed : Try.prog.follows .mixedOrders = true := by kernel_rfl
  go_enter Try.func74, Try.ntmps74
  go_wp2_with (at_builtin; refine Lib.wpList_append_run _ rfl _ _ _ _ rfl _ _ rfl rfl _ _ (hr _) ?_)
  all_goals (go_ret; exact ⟨rfl, rfl⟩)
set_option maxHeartbeats 4000000 in
set_option maxRecDepth 100000 in
theorem i74_shift (w W1 W2 : World) (b off n c i vb voff m vc : Nat) (hi : i < n) (hm : 0 < m) (hroom : n + m ≤ c) (hc63 : n + m ≤ 9223372036854775807)
    (hov : ∀ lb cb, (callFunc 90 #[.slice (some (ad vb voff)) m vc, .slice (some (ad b (off + (i + m) * 4))) lb cb]).run Try.prog w = .ok (.value (.bool false)) w)
    (hcp1 : ∀ ty dc sc, (Builtin.copy_ #[44, 44] ty #[.slice (some (ad b (off + (i + m) * 4))) (n + m - (i + m)) dc, .slice (some (ad b (off + i * 4))) (n + m - i) sc]).run Try.prog w.drew = .ok (goInt ((n - i : Nat) : Int)) W1)
    (hcp2 : ∀ ty dc, (Builtin.copy_ #[44, 44] ty #[.slice (some (ad b (off + i * 4))) (n + m - i) dc, .slice (some (ad vb voff)) m vc]).run Try.prog W1 = .ok (goInt (m : Int)) W2) :
    Calls Try.prog 74 #[.slice (some (ad b off)) n c, .int .i64 i, .slice (some (ad vb voff)) m vc] w fun e w' => e = .returned (.slice (some (ad b off)) (n + m) c) ∧ w' = W2 := by
  have hz1 : ¬ ((m : Int) = 0) := by omega
  have hz2 : ¬ ((i : Int) = (n : Int)) := by omega
  have hw1 : IntKind.i64.wrap ((i : Int) + (m : Int)) = (i : Int) + (m : Int) := by rw [IntKind.wrap_i64]; omega
  have hb1 : (0 : Int) ≤ (i : Int) + (m : Int) := by omega
  have hin : i ≤ n := by omega
  have htn : ((i : Int) + (m : Int)).toNat = i + m := by omega
  have hb2 : ¬ (c = i + m) := by omega
  have hb3 : (i : Int) ≤ (n : Int) + (m : Int) := by omega
  have hb4 : ¬ (c = i) := by omega
  have mixed : Try.prog.follows .mixedOrders = true := by kernel_rfl
  go_enter Try.func74, Try.ntmps74
  go_wp2_with (simp only [hov])
  go_region_law_o (refine step_copy_runI rfl _ _ 44 44 rfl _ _ (by simp [Act.eval, Act.put]) (by simp [Act.eval, Act.put]) (hcp1 _ _ _) ?_)
  go_wp2_with (at_builtin; refine wpList_copy_runI _ rfl _ _ 44 44 rfl _ _ rfl rfl (hcp2 _ _) ?_)
  go_ret
  exact ⟨rfl, rfl⟩
set_option maxHeartbeats 4000000 in
set_option maxRecDepth 100000 in
theorem i74_grow (w W1 W2 W3 : World) (b off n c i vb voff m vc N G : Nat) (hi : i < n) (hm : 0 < m) (hnc : n ≤ c) (hroom : c < n + m) (hGn : n + m ≤ G) (hc63 : n + m ≤ 9223372036854775807)
    (hrz : ∀ ty, (Builtin.append_ #[44, 3] ty #[.slice (some (ad b off)) i c, .int .i64 ((n : Int) + (m : Int) - (i : Int))]).run Try.prog w = .ok (.slice (some (ad N 0)) (n + m) G) W1)
    (hcpA : ∀ ty dc, (Builtin.copy_ #[44, 44] ty #[.slice (some (ad N (i * 4))) (n + m - i) dc, .slice (some (ad vb voff)) m vc]).run Try.prog W1 = .ok (goInt (m : Int)) W2)
    (hcpB : ∀ ty dc sc, (Builtin.copy_ #[44, 44] ty #[.slice (some (ad N ((i + m) * 4))) (n + m - (i + m)) dc, .slice (some (ad b (off + i * 4))) (n - i) sc]).run Try.prog W2.drew = .ok (goInt ((n - i : Nat) : Int)) W3) :
    Calls Try.prog 74 #[.slice (some (ad b off)) n c, .int .i64 i, .slice (some (ad vb voff)) m vc] w fun e w' => e = .returned (.slice (some (ad N 0)) (n + m) G) ∧ w' = W3 := by
  have hz1 : ¬ ((m : Int) = 0) := by omega
  have hz2 : ¬ ((i : Int) = (n : Int)) := by omega
  have hz3 : (c : Int) < (n : Int) + (m : Int) := by omega
  have hGi : ¬ (G = i) := by omega
  have hGim : ¬ (G = i + m) := by omega
  have hci : ¬ (c = i) := by omega
  have hw1 : IntKind.i64.wrap ((i : Int) + (m : Int)) = (i : Int) + (m : Int) := by rw [IntKind.wrap_i64]; omega
  have hb1 : (0 : Int) ≤ (i : Int) + (m : Int) := by omega
  have hin : i ≤ n := by omega
  have htn : ((i : Int) + (m : Int)).toNat = i + m := by omega
  have hb3 : (i : Int) ≤ (n : Int) := by omega
  have mixed : Try.prog.follows .mixedOrders = true := by kernel_rfl
  go_enter Try.func74, Try.ntmps74
  go_wp2_with (first
    | (at_builtin; refine Lib.wpList_append_run _ rfl _ _ _ _ rfl _ _ rfl rfl _ _ (hrz _) ?_)
    | (at_builtin; refine wpList_copy_runI _ rfl _ _ 44 44 rfl _ _ rfl rfl (hcpA _ _) ?_))
  go_region_law_o (refine step_copy_runI rfl _ _ 44 44 rfl _ _ (by simp [Act.eval, Act.put]) (by simp [Act.eval, Act.put]) (hcpB _ _ _) ?_)
  go_wp2
  go_ret
  exact ⟨rfl, rfl⟩
theorem i74_walk : InsWalk Try.prog 74 90 44 86 3 4 :=
  ⟨⟨_, (by kernel_rfl : Try.prog.funcs[74]? = some Try.f74), by kernel_rfl, by kernel_rfl⟩, fun w a x n c i vc => i74_non w a x n c i vc, fun w w1 a x n c m vc r => i74_app w w1 a x n c m vc r, fun w W1 W2 b off n c i vb voff m vc => i74_shift w W1 W2 b off n c i vb voff m vc, fun w W1 W2 W3 b off n c i vb voff m vc N G => i74_grow w W1 W2 W3 b off n c i vb voff m vc N G⟩
theorem p74_ok (B : Nat) : PrimOk Try.prog B 74 (insP 4 40) :=
  insP_ok (tE := 86) i74_walk (by kernel_rfl) (by kernel_rfl) ⟨(zeroOf Try.prog 86).getD [], by kernel_rfl, by kernel_rfl⟩
    fun w a b la ca lb cb hne tA tB kA kB hsa hsb hkb hfa hfe => by
      have hs : ((Try.prog.info? 86).getD default).size = 4 := by kernel_rfl
      have hz : ∀ w, (Go.sizeOf 86).run Try.prog w = .ok 4 w := fun w => by rw [← hs]; exact sizeOf_run (by kernel_rfl : Try.prog.info? 86 = some ((Try.prog.info? 86).getD default)) w
      rw [run_callFunc_extern (by kernel_rfl : Try.prog.funcs[90]? = some Try.f90) (by kernel_rfl) (by kernel_rfl) (by kernel_rfl) (e := Extern.SlicesOverlaps.overlaps #[44, 44] #[4]) (by kernel_rfl),
        Lib.run_overlaps_apart w 44 4 86 (by kernel_rfl) 4 hz a b la ca lb cb hne tA tB kA kB hsa hsb hkb hfa hfe]
      rfl
set_option maxHeartbeats 4000000 in
set_option maxRecDepth 100000 in
theorem i92_non (w : World) (a x : Option Addr) (n c i vc : Nat) (h1 : i ≤ n) (h2 : n ≤ c) : Calls Try.prog 92 #[.slice a n c, .int .i64 i, .slice x 0 vc] w fun e w' => e = .returned (.slice a n c) ∧ w' = w := by
  have mixed : Try.prog.follows .mixedOrders = true := by kernel_rfl
  go_enter Try.func92, Try.ntmps92
  go_wp2
  all_goals (go_ret; exact ⟨rfl, rfl⟩)
set_option maxHeartbeats 4000000 in
set_option maxRecDepth 100000 in
theorem i92_app (w w1 : World) (a x : Option Addr) (n c m vc : Nat) (r : Value) (h1 : n ≤ c) (h3 : 0 < m) (hr : ∀ ty, (Builtin.append_ #[43, 43] ty #[.slice a n c, .slice x m vc]).run Try.prog w = .ok r w1) :
    Calls Try.prog 92 #[.slice a n c, .int .i64 n, .slice x m vc] w fun e w' => e = .returned r ∧ w' = w1 := by
  have hz1 : ¬ ((m : Int) = 0) := by omega
  have mixed : Try.prog.follows .mixedOrders = true := by kernel_rfl
  go_enter Try.func92, Try.ntmps92
  go_wp2_with (at_builtin; refine Lib.wpList_append_run _ rfl _ _ _ _ rfl _ _ rfl rfl _ _ (hr _) ?_)
  all_goals (go_ret; exact ⟨rfl, rfl⟩)
set_option maxHeartbeats 4000000 in
set_option maxRecDepth 100000 in
theorem i92_shift (w W1 W2 : World) (b off n c i vb voff m vc : Nat) (hi : i < n) (hm : 0 < m) (hroom : n + m ≤ c) (hc63 : n + m ≤ 9223372036854775807)
    (hov : ∀ lb cb, (callFunc 97 #[.slice (some (ad vb voff)) m vc, .slice (some (ad b (off + (i + m) * 2))) lb cb]).run Try.prog w = .ok (.value (.bool false)) w)
    (hcp1 : ∀ ty dc sc, (Builtin.copy_ #[43, 43] ty #[.slice (some (ad b (off + (i + m) * 2))) (n + m - (i + m)) dc, .slice (some (ad b (off + i * 2))) (n + m - i) sc]).run Try.prog w.drew = .ok (goInt ((n - i : Nat) : Int)) W1)
    (hcp2 : ∀ ty dc, (Builtin.copy_ #[43, 43] ty #[.slice (some (ad b (off + i * 2))) (n + m - i) dc, .slice (some (ad vb voff)) m vc]).run Try.prog W1 = .ok (goInt (m : Int)) W2) :
    Calls Try.prog 92 #[.slice (some (ad b off)) n c, .int .i64 i, .slice (some (ad vb voff)) m vc] w fun e w' => e = .returned (.slice (some (ad b off)) (n + m) c) ∧ w' = W2 := by
  have hz1 : ¬ ((m : Int) = 0) := by omega
  have hz2 : ¬ ((i : Int) = (n : Int)) := by omega
  have hw1 : IntKind.i64.wrap ((i : Int) + (m : Int)) = (i : Int) + (m : Int) := by rw [IntKind.wrap_i64]; omega
  have hb1 : (0 : Int) ≤ (i : Int) + (m : Int) := by omega
  have hin : i ≤ n := by omega
  have htn : ((i : Int) + (m : Int)).toNat = i + m := by omega
  have hb2 : ¬ (c = i + m) := by omega
  have hb3 : (i : Int) ≤ (n : Int) + (m : Int) := by omega
  have hb4 : ¬ (c = i) := by omega
  have mixed : Try.prog.follows .mixedOrders = true := by kernel_rfl
  go_enter Try.func92, Try.ntmps92
  go_wp2_with (simp only [hov])
  go_region_law_o (refine step_copy_runI rfl _ _ 43 43 rfl _ _ (by simp [Act.eval, Act.put]) (by simp [Act.eval, Act.put]) (hcp1 _ _ _) ?_)
  go_wp2_with (at_builtin; refine wpList_copy_runI _ rfl _ _ 43 43 rfl _ _ rfl rfl (hcp2 _ _) ?_)
  go_ret
  exact ⟨rfl, rfl⟩
set_option maxHeartbeats 4000000 in
set_option maxRecDepth 100000 in
theorem i92_grow (w W1 W2 W3 : World) (b off n c i vb voff m vc N G : Nat) (hi : i < n) (hm : 0 < m) (hnc : n ≤ c) (hroom : c < n + m) (hGn : n + m ≤ G) (hc63 : n + m ≤ 9223372036854775807)
    (hrz : ∀ ty, (Builtin.append_ #[43, 3] ty #[.slice (some (ad b off)) i c, .int .i64 ((n : Int) + (m : Int) - (i : Int))]).run Try.prog w = .ok (.slice (some (ad N 0)) (n + m) G) W1)
    (hcpA : ∀ ty dc, (Builtin.copy_ #[43, 43] ty #[.slice (some (ad N (i * 2))) (n + m - i) dc, .slice (some (ad vb voff)) m vc]).run Try.prog W1 = .ok (goInt (m : Int)) W2)
    (hcpB : ∀ ty dc sc, (Builtin.copy_ #[43, 43] ty #[.slice (some (ad N ((i + m) * 2))) (n + m - (i + m)) dc, .slice (some (ad b (off + i * 2))) (n - i) sc]).run Try.prog W2.drew = .ok (goInt ((n - i : Nat) : Int)) W3) :
    Calls Try.prog 92 #[.slice (some (ad b off)) n c, .int .i64 i, .slice (some (ad vb voff)) m vc] w fun e w' => e = .returned (.slice (some (ad N 0)) (n + m) G) ∧ w' = W3 := by
  have hz1 : ¬ ((m : Int) = 0) := by omega
  have hz2 : ¬ ((i : Int) = (n : Int)) := by omega
  have hz3 : (c : Int) < (n : Int) + (m : Int) := by omega
  have hGi : ¬ (G = i) := by omega
  have hGim : ¬ (G = i + m) := by omega
  have hci : ¬ (c = i) := by omega
  have hw1 : IntKind.i64.wrap ((i : Int) + (m : Int)) = (i : Int) + (m : Int) := by rw [IntKind.wrap_i64]; omega
  have hb1 : (0 : Int) ≤ (i : Int) + (m : Int) := by omega
  have hin : i ≤ n := by omega
  have htn : ((i : Int) + (m : Int)).toNat = i + m := by omega
  have hb3 : (i : Int) ≤ (n : Int) := by omega
  have mixed : Try.prog.follows .mixedOrders = true := by kernel_rfl
  go_enter Try.func92, Try.ntmps92
  go_wp2_with (first
    | (at_builtin; refine Lib.wpList_append_run _ rfl _ _ _ _ rfl _ _ rfl rfl _ _ (hrz _) ?_)
    | (at_builtin; refine wpList_copy_runI _ rfl _ _ 43 43 rfl _ _ rfl rfl (hcpA _ _) ?_))
  go_region_law_o (refine step_copy_runI rfl _ _ 43 43 rfl _ _ (by simp [Act.eval, Act.put]) (by simp [Act.eval, Act.put]) (hcpB _ _ _) ?_)
  go_wp2
  go_ret
  exact ⟨rfl, rfl⟩
theorem i92_walk : InsWalk Try.prog 92 97 43 88 3 2 :=
  ⟨⟨_, (by kernel_rfl : Try.prog.funcs[92]? = some Try.f92), by kernel_rfl, by kernel_rfl⟩, fun w a x n c i vc => i92_non w a x n c i vc, fun w w1 a x n c m vc r => i92_app w w1 a x n c m vc r, fun w W1 W2 b off n c i vb voff m vc => i92_shift w W1 W2 b off n c i vb voff m vc, fun w W1 W2 W3 b off n c i vb voff m vc N G => i92_grow w W1 W2 W3 b off n c i vb voff m vc N G⟩
theorem p92_ok (B : Nat) : PrimOk Try.prog B 92 (insP 2 32) :=
  insP_ok (tE := 88) i92_walk (by kernel_rfl) (by kernel_rfl) ⟨(zeroOf Try.prog 88).getD [], by kernel_rfl, by kernel_rfl⟩
    fun w a b la ca lb cb hne tA tB kA kB hsa hsb hkb hfa hfe => by
      have hs : ((Try.prog.info? 88).getD default).size = 2 := by kernel_rfl
      have hz : ∀ w, (Go.sizeOf 88).run Try.prog w = .ok 2 w := fun w => by rw [← hs]; exact sizeOf_run (by kernel_rfl : Try.prog.info? 88 = some ((Try.prog.info? 88).getD default)) w
      rw [run_callFunc_extern (by kernel_rfl : Try.prog.funcs[97]? = some Try.f97) (by kernel_rfl) (by kernel_rfl) (by kernel_rfl) (e := Extern.SlicesOverlaps.overlaps #[43, 43] #[4]) (by kernel_rfl),
        Lib.run_overlaps_apart w 43 4 88 (by kernel_rfl) 2 hz a b la ca lb cb hne tA tB kA kB hsa hsb hkb hfa hfe]
      rfl
set_option maxHeartbeats 4000000 in
set_option maxRecDepth 100000 in
theorem d93_non (w : World) (a : Option Addr) (n c i : Nat) (h1 : i ≤ n) (h2 : n ≤ c) : Calls Try.prog 93 #[.slice a n c, .int .i64 i, .int .i64 i] w fun e w' => e = .returned (.slice a n c) ∧ w' = w := by
  have mixed : Try.prog.follows .mixedOrders = true := by kernel_rfl
  go_enter Try.func93, Try.ntmps93
  go_wp2
  all_goals (go_ret; exact ⟨rfl, rfl⟩)
set_option maxHeartbeats 4000000 in
set_option maxRecDepth 100000 in
theorem d93_del (w W1 W2 : World) (b off n c i j : Nat) (hij : i < j) (hj : j ≤ n) (hnc : n ≤ c)
    (hap : ∀ ty, (Builtin.append_ #[43, 43] ty #[.slice (some (ad b off)) i c, .slice (some (if c = j then ad b off else ad b (off + j * 2))) (n - j) (c - j)]).run Try.prog w.drew = .ok (.slice (some (ad b off)) (i + (n - j)) c) W1)
    (hcl : ∀ ty, (Builtin.clear_ #[43] ty #[.slice (some (ad b (off + (i + (n - j)) * 2))) (n - (i + (n - j))) (c - (i + (n - j)))]).run Try.prog W1 = .ok (.tuple #[]) W2) :
    Calls Try.prog 93 #[.slice (some (ad b off)) n c, .int .i64 i, .int .i64 j] w fun e w' => e = .returned (.slice (some (ad b off)) (i + (n - j)) c) ∧ w' = W2 := by
  have hz1 : ¬ ((i : Int) = (j : Int)) := by omega
  have hic : i ≤ c := by omega
  have hjc : j ≤ c := by omega
  have hij' : i ≤ j := by omega
  have hcn : ¬ (c = i + (n - j)) := by omega
  have hin : i + (n - j) ≤ n := by omega
  have hin2 : i + (n - j) ≤ c := by omega
  have hapA : ∀ ty, (Builtin.append_ #[43, 43] ty #[.slice (some (ad b off)) i c, .slice (if c = j then some (ad b off) else some (ad b (off + j * 2))) (n - j) (c - j)]).run Try.prog w.drew = .ok (.slice (some (ad b off)) (i + (n - j)) c) W1 := by
    intro ty
    have := hap ty
    by_cases h : c = j <;> simpa [h] using this
  clear hap
  have mixed : Try.prog.follows .mixedOrders = true := by kernel_rfl
  go_enter Try.func93, Try.ntmps93
  go_wp2_with fail
  go_region_law_o (refine step_append_runI rfl _ _ 43 43 rfl _ _ (by simp [Act.eval, Act.put]) (by simp [Act.eval, Act.put]) (hapA _) ?_)
  go_wp2
  all_goals (go_ret; exact ⟨rfl, rfl⟩)
theorem d93_walk : DelWalk Try.prog 93 43 88 2 :=
  ⟨⟨_, (by kernel_rfl : Try.prog.funcs[93]? = some Try.f93), by kernel_rfl, by kernel_rfl⟩, fun w a n c i => d93_non w a n c i, fun w W1 W2 b off n c i j => d93_del w W1 W2 b off n c i j⟩
theorem p93_ok (B : Nat) : PrimOk Try.prog B 93 (delP 2) :=
  delP_ok (bytes := 32) (tE := 88) d93_walk (by kernel_rfl) ⟨(zeroOf Try.prog 88).getD [], by kernel_rfl, by kernel_rfl⟩
end Go.Proofs.Ythoabddfionmoaa.AH
namespace Go.Proofs.Ythoabddfionmoaa.fnCommands
open Go Go.RowKit Go.ChangeShapes Go.WideShapes
open Go.ChangeMaps (open_string shut_string)
open Go.Proofs.Ythoabddfionmoaa.AH (primT annT)
theorem own : ownKnob Try.prog.godebug = none := by kernel_rfl
theorem laidOut : laidOutB Try.prog = true := by kernel_rfl
theorem prims (B f : Nat) (p : List AH.V → AH.H → Option (AH.V × AH.H)) (h : primT f = some p) : AH.PrimOk Try.prog B f p := by
  unfold primT at h
  split at h
  · cases h; exact AH.p74_ok B
  · cases h; exact AH.p92_ok B
  · cases h; exact AH.p93_ok B
  · cases h
theorem lifted (os : Os) (started : os.Started) (H : Type) (enc : TypeId × Value → H) :
    ReturnsInHanded {} Try.checked os 4 .any (Rows.fnCommandsSpec.pre6 enc Try.prog Try.f4 Rows.fnCommandsRow.domain false) (Rows.fnCommandsSpec.post enc Try.prog Try.f4 false true false false) := by
  refine AH.returns_law (C := Try.checked) own started (by kernel_rfl) Try.func4
    (ChangeSpec.witness6 (enc := enc) (C := Try.checked) false ⟨#[], #[.slice none 0 0, .slice none 0 0], []⟩ 8 (by kernel_rfl) (by kernel_rfl) (by kernel_rfl) (by kernel_rfl)) (by kernel_rfl) (by kernel_rfl) ?_
  intro W base args ds gs before hpos hval hW hsz0
  have hsz : (DataW.weightsEach Try.prog (Try.f4.params.toList ++ Rows.fnCommandsSpec.plain.varTypes Try.prog) (ds ++ gs)).all (· ≤ reachBytes) = true := hsz0
  have hW' := hW
  obtain ⟨p, q, hA0, hV, rfl, hfz, hnd⟩ := hW
  have hA : DataW.TrodAll enc Try.prog W 0 (fun _ => true) true Try.f4.params.toList args.toList ds p := hA0
  rw [Try.params4] at hA hval hsz
  obtain ⟨rfl, rfl⟩ := trodVars_none hV
  have hlen := AH.trodAll_len hA
  have hwt : ∀ m ∈ DataW.weightsEach Try.prog [34,34] ds, m ≤ reachBytes := fun m hm => by
    have e : [34,34] ++ Rows.fnCommandsSpec.plain.varTypes Try.prog = [34,34] := rfl
    simp only [List.append_nil] at hsz
    have := List.all_eq_true.1 hsz m hm
    simpa using this
  refine (AH.law_calls (P := Try.prog) (prims := primT) (ann := annT) (ts := [34,34]) (by kernel_rfl) prims (by kernel_rfl) hpos hA (fun j t v h1 h2 => hval j t v (by simpa using h1) (by simpa using h2)) hwt AH.commands_run).mono fun e W' ⟨he, bel⟩ => ?_
  subst he
  have hB := AH.trodAll_below laidOut bel (by kernel_rfl) hA
  match ds, hlen with
  | [d0, d1], _ => exact ⟨_, rfl, _, _, _, [], _, [], hW', trodAll_mk1 (shut_bool Try.underlying4 _), hB, rfl, bel.frame _, fun h => by cases h⟩
theorem over : Rows.fnCommandsRow.holds Try.pinned (OpenSpec.ofChange Rows.fnCommandsSpec) :=
  OpenClaim.holds_of_wide 4 Try.f4 rfl rfl rfl rfl rfl rfl rfl ⟨rfl, rfl, rfl, rfl, rfl⟩ rfl rfl rfl rfl rfl (by kernel_rfl) Try.func4 (by kernel_rfl)
    (of_decide_eq_true (by kernel_rfl)) (by unfold Func.isWrapper; first | (rw [if_pos (by decide +kernel)]; kernel_rfl) | (rw [if_neg (by decide +kernel)]; exact ⟨rfl, rfl⟩))
    (fun os started H enc _ => lifted os started H enc)
theorem proved : Rows.FnCommandsSaid := over
end Go.Proofs.Ythoabddfionmoaa.fnCommands
namespace Go.Proofs.Ythoabddfionmoaa
theorem fnCommands_holds : Rows.FnCommandsSaid := fnCommands.proved
#print axioms fnCommands_holds
end Go.Proofs.Ythoabddfionmoaa
