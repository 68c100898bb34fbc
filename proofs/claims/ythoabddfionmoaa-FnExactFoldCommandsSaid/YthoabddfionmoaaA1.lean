/- The relation between the abstract heap and the model's world, and the operations that write nothing. No condition. -/
import Derived.Test.YthoabddfionmoaaA0
set_option linter.unusedVariables false
set_option linter.unusedSimpArgs false
namespace Go.Proofs.Ythoabddfionmoaa.AH
open Go Go.RowKit

structure Loc where
  b : Nat
  base : Nat
  room : Nat
  /-- Made of a string's bytes: a mark stands behind its last cell. -/
  str : Bool

def All2 {α β : Type} (R : α → β → Prop) : List α → List β → Prop
  | [], [] => True
  | x :: xs, y :: ys => R x y ∧ All2 R xs ys
  | _, _ => False

theorem All2.length {α β : Type} {R : α → β → Prop} : ∀ {xs : List α} {ys : List β}, All2 R xs ys → xs.length = ys.length
  | [], [], _ => rfl
  | _ :: _, _ :: _, h => by simp [All2.length h.2]
  | [], _ :: _, h => h.elim
  | _ :: _, [], h => h.elim
theorem All2.mono {α β : Type} {R S : α → β → Prop} (hi : ∀ x y, R x y → S x y) : ∀ {xs : List α} {ys : List β}, All2 R xs ys → All2 S xs ys
  | [], [], _ => trivial
  | _ :: _, _ :: _, h => ⟨hi _ _ h.1, All2.mono hi h.2⟩
  | [], _ :: _, h => h.elim
  | _ :: _, [], h => h.elim
theorem All2.append {α β : Type} {R : α → β → Prop} : ∀ {xs : List α} {ys : List β} {xs' : List α} {ys' : List β}, All2 R xs ys → All2 R xs' ys' → All2 R (xs ++ xs') (ys ++ ys')
  | [], [], _, _, _, h => h
  | _ :: _, _ :: _, _, _, h, h' => ⟨h.1, All2.append h.2 h'⟩
  | [], _ :: _, _, _, h, _ => h.elim
  | _ :: _, [], _, _, h, _ => h.elim
theorem All2.get {α β : Type} {R : α → β → Prop} : ∀ {xs : List α} {ys : List β}, All2 R xs ys → ∀ {i : Nat} {x : α}, xs[i]? = some x → ∃ y, ys[i]? = some y ∧ R x y
  | [], [], _, _, _, h => by simp at h
  | a :: xs, b :: ys, h, 0, x, hx => by
    simp at hx; subst hx; exact ⟨b, by simp, h.1⟩
  | a :: xs, b :: ys, h, i + 1, x, hx => by
    simp at hx; obtain ⟨y, hy, hr⟩ := All2.get h.2 hx; exact ⟨y, by simpa using hy, hr⟩
  | [], _ :: _, h, _, _, _ => h.elim
  | _ :: _, [], h, _, _, _ => h.elim
theorem All2.of_get {α β : Type} {R : α → β → Prop} : ∀ {xs : List α} {ys : List β}, xs.length = ys.length → (∀ (i : Nat) (x : α) (y : β), xs[i]? = some x → ys[i]? = some y → R x y) → All2 R xs ys
  | [], [], _, _ => trivial
  | a :: xs, b :: ys, hl, h => ⟨h 0 a b (by simp) (by simp), All2.of_get (by simpa using hl) fun i x y hx hy => h (i + 1) x y (by simpa using hx) (by simpa using hy)⟩
  | [], _ :: _, hl, _ => by simp at hl
  | _ :: _, [], hl, _ => by simp at hl
theorem All2.take {α β : Type} {R : α → β → Prop} {xs : List α} {ys : List β} (h : All2 R xs ys) (n : Nat) : All2 R (xs.take n) (ys.take n) :=
  All2.of_get (by simp [h.length]) fun i x y hx hy => by
    by_cases hi : i < n
    · rw [List.getElem?_take_of_lt hi] at hx hy
      obtain ⟨y', hy', hr⟩ := h.get hx
      rw [hy] at hy'; cases hy'; exact hr
    · rw [List.getElem?_eq_none (by simp; omega)] at hx; cases hx
theorem All2.drop {α β : Type} {R : α → β → Prop} {xs : List α} {ys : List β} (h : All2 R xs ys) (n : Nat) : All2 R (xs.drop n) (ys.drop n) :=
  All2.of_get (by simp [h.length]) fun i x y hx hy => by
    rw [List.getElem?_drop] at hx hy
    obtain ⟨y', hy', hr⟩ := h.get hx
    rw [hy] at hy'; cases hy'; exact hr
theorem All2.right {α β : Type} {R : α → β → Prop} {p : β → Prop} (hp : ∀ x y, R x y → p y) : ∀ {xs : List α} {ys : List β}, All2 R xs ys → ∀ y ∈ ys, p y
  | [], [], _, y, hy => by cases hy
  | a :: xs, b :: ys, h, y, hy => by
    rcases List.mem_cons.1 hy with rfl | hy
    · exact hp _ _ h.1
    · exact All2.right hp h.2 y hy
  | [], _ :: _, h, _, _ => h.elim
  | _ :: _, [], h, _, _ => h.elim

abbrev Bet := Nat → Option Loc
def RelP (β : Bet) (p : Nat × Nat) (c : Value) : Prop := ∃ l, β p.1 = some l ∧ p.1 ≠ 0 ∧ c = .pointer (some ⟨l.b, l.base + p.2, none⟩)
def RelC (β : Bet) : V → Value → Prop
  | .int k n, c => c = .int k n
  | .bool b, c => c = .bool b
  | .str s, c => c = .string s
  | .ptr id off, c => (id = 0 ∧ off = 0 ∧ c = .pointer none) ∨ (id ≠ 0 ∧ ∃ l, β id = some l ∧ c = .pointer (some ⟨l.b, l.base + off, none⟩))
  | .sl e id off len, c => (id = 0 ∧ off = 0 ∧ len = 0 ∧ c = .slice none 0 0) ∨
      (id ≠ 0 ∧ ∃ l a cap, β id = some l ∧ c = .slice (some a) len cap ∧ len ≤ cap ∧ (0 < cap → a = ⟨l.b, l.base + off, none⟩ ∧ off + cap * e ≤ l.room) ∧ (e ≠ 1 → l.str = false))
  | .fn f caps, c => ∃ cs : List Value, c = .func (.func f) #[] cs.toArray ∧ All2 (RelP β) caps cs
  | .agg _, _ => False
  | .tup _, _ => False
def RelA (β : Bet) : V → Value → Prop
  | .agg cs, c => ∃ cs' : List Value, c = .agg cs'.toArray ∧ All2 (RelC β) cs cs'
  | v, c => RelC β v c
def RelV (β : Bet) : V → Value → Prop
  | .tup vs, c => ∃ cs' : List Value, c = .tuple cs'.toArray ∧ All2 (RelA β) vs cs'
  | v, c => RelA β v c

theorem RelC.one {β : Bet} {v : V} {c : Value} (h : RelC β v c) : c.oneCell' = true := by
  cases v <;> simp only [RelC] at h
  case ptr => rcases h with ⟨_, _, rfl⟩ | ⟨_, l, _, rfl⟩ <;> rfl
  case sl => rcases h with ⟨_, _, _, rfl⟩ | ⟨_, l, a, cap, _, rfl, _⟩ <;> rfl
  case fn => obtain ⟨cs, rfl, _⟩ := h; rfl
  all_goals (subst h; rfl)
theorem RelC.vone {β : Bet} {v : V} {c : Value} (h : RelC β v c) : v.one = true := by
  cases v <;> simp_all [RelC, V.one]
theorem RelC.toA {β : Bet} {v : V} {c : Value} (h : RelC β v c) : RelA β v c := by
  cases v <;> first | exact h | exact h.elim
theorem RelA.toV {β : Bet} {v : V} {c : Value} (h : RelA β v c) : RelV β v c := by
  cases v <;> first | exact h | exact (show False from h).elim
theorem RelC.toV {β : Bet} {v : V} {c : Value} (h : RelC β v c) : RelV β v c := h.toA.toV

def Sub (β β' : Bet) : Prop := ∀ id l, β id = some l → β' id = some l
theorem Sub.refl (β : Bet) : Sub β β := fun _ _ h => h
theorem Sub.trans {a b c : Bet} (h : Sub a b) (k : Sub b c) : Sub a c := fun id l x => k id l (h id l x)
theorem RelP.mono {β β' : Bet} (hs : Sub β β') (p : Nat × Nat) (c : Value) (h : RelP β p c) : RelP β' p c := by
  obtain ⟨l, h1, h2⟩ := h; exact ⟨l, hs _ _ h1, h2⟩
theorem RelC.mono {β β' : Bet} (hs : Sub β β') (v : V) (c : Value) (h : RelC β v c) : RelC β' v c := by
  cases v <;> simp only [RelC] at h ⊢ <;> try exact h
  case ptr => exact h.imp id fun ⟨h0, l, h1, h2⟩ => ⟨h0, l, hs _ _ h1, h2⟩
  case sl => exact h.imp id fun ⟨h0, l, a, cap, h1, h2⟩ => ⟨h0, l, a, cap, hs _ _ h1, h2⟩
  case fn => obtain ⟨cs, h1, h2⟩ := h; exact ⟨cs, h1, h2.mono (RelP.mono hs)⟩
theorem RelA.mono {β β' : Bet} (hs : Sub β β') (v : V) (c : Value) (h : RelA β v c) : RelA β' v c := by
  cases v <;> simp only [RelA] at h ⊢
  case agg => obtain ⟨cs, h1, h2⟩ := h; exact ⟨cs, h1, h2.mono (RelC.mono hs)⟩
  all_goals exact RelC.mono hs _ _ h
theorem RelV.mono {β β' : Bet} (hs : Sub β β') (v : V) (c : Value) (h : RelV β v c) : RelV β' v c := by
  cases v <;> simp only [RelV] at h ⊢
  case tup => obtain ⟨cs, h1, h2⟩ := h; exact ⟨cs, h1, h2.mono (RelA.mono hs)⟩
  all_goals exact RelA.mono hs _ _ h

/-! ### Environments -/
def RelE (β : Bet) (E : Env) (tmps : Array Value) : Prop := ∀ t v, Env.get E t = some v → ∃ c, tmps[t]? = some c ∧ RelV β v c
theorem Env.get_put : ∀ (E : Env) (d t : Nat) (v : V), Env.get (Env.put E d v) t = if d = t then some v else Env.get E t
  | [], d, t, v => by simp [Env.put, Env.get]
  | (k, u) :: r, d, t, v => by
    by_cases hk : k = d
    · subst hk
      simp only [Env.put, if_true, Env.get]
      by_cases h : k = t <;> simp [h]
    · simp only [Env.put, hk, if_false, Env.get]
      by_cases h : k = t
      · subst h
        simp [Ne.symm hk]
      · simp only [h, if_false]; exact Env.get_put r d t v
theorem Env.get_del : ∀ (E : Env) (d t : Nat), Env.get (Env.del E d) t = if d = t then none else Env.get E t
  | [], d, t => by simp [Env.del, Env.get]
  | (k, u) :: r, d, t => by
    by_cases hk : k = d
    · subst hk
      simp only [Env.del, if_true]
      rw [Env.get_del r k t]
      by_cases h : k = t <;> simp [h, Env.get]
    · simp only [Env.del, hk, if_false, Env.get]
      by_cases h : k = t
      · subst h
        simp [Ne.symm hk]
      · simp only [h, if_false]; exact Env.get_del r d t
theorem Env.get_keep : ∀ (ks : List Nat) (E : Env) (t : Nat) (v : V), Env.get (Env.keep ks E) t = some v → Env.get E t = some v
  | [], E, t, v, h => by simp [Env.keep, Env.get] at h
  | k :: ks, E, t, v, h => by
    unfold Env.keep at h
    rw [List.filterMap_cons] at h
    cases hk : Env.get E k with
    | none => rw [hk] at h; exact Env.get_keep ks E t v h
    | some u =>
      rw [hk] at h
      simp only [Option.map_some, Env.get] at h
      by_cases e : k = t
      · subst e; rw [if_pos rfl] at h; rw [hk]; exact h
      · rw [if_neg e] at h; exact Env.get_keep ks E t v h
theorem RelE.mono {β β' : Bet} (hs : Sub β β') {E : Env} {t : Array Value} (h : RelE β E t) : RelE β' E t := fun i v hv => by
  obtain ⟨c, h1, h2⟩ := h i v hv; exact ⟨c, h1, h2.mono hs⟩
theorem RelE.keep {β : Bet} {E : Env} {t : Array Value} (h : RelE β E t) (ks : List Nat) : RelE β (Env.keep ks E) t := fun i v hv => h i v (Env.get_keep ks E i v hv)
theorem RelE.keepAt {β : Bet} {E : Env} {t : Array Value} (h : RelE β E t) (ann : Nat → List Nat) (c : Code) : RelE β (keepAt ann c E) t := by
  unfold AH.keepAt; split
  · exact h.keep _
  · exact h
theorem RelE.put {β : Bet} {E : Env} {a : Act} (h : RelE β E a.tmps) {d : Tmp} {v : V} {c : Value} (hv : RelV β v c) (hd : d < a.tmps.size) : RelE β (Env.put E d v) (a.put (some d) c).tmps := fun i u hu => by
  rw [Env.get_put] at hu
  by_cases e : d = i
  · subst e; rw [if_pos rfl] at hu; cases hu; exact ⟨c, by simp [Act.put, hd], hv⟩
  · rw [if_neg e] at hu; obtain ⟨c', h1, h2⟩ := h i u hu
    exact ⟨c', by simp [Act.put, Array.getElem?_setIfInBounds_ne e, h1], h2⟩
theorem RelE.del {β : Bet} {E : Env} {a : Act} (h : RelE β E a.tmps) (d : Option Tmp) (c : Value) : RelE β (del1 E d) (a.put d c).tmps := by
  cases d with
  | none => exact h
  | some d => intro i u hu
              simp only [del1] at hu
              rw [Env.get_del] at hu
              by_cases e : d = i
              · rw [if_pos e] at hu; cases hu
              · rw [if_neg e] at hu; obtain ⟨c', h1, h2⟩ := h i u hu
                exact ⟨c', by simp [Act.put, Array.getElem?_setIfInBounds_ne e, h1], h2⟩
theorem put_size (a : Act) (d : Option Tmp) (c : Value) : (a.put d c).tmps.size = a.tmps.size := by cases d <;> simp [Act.put]
theorem put_defers (a : Act) (d : Option Tmp) (c : Value) : (a.put d c).defers = a.defers := by cases d <;> rfl
theorem RelE.put1 {β : Bet} {E E' : Env} {a : Act} {N : Nat} (h : RelE β E a.tmps) {d : Option Tmp} {v : V} {c : Value} (hv : RelV β v c) (hN : a.tmps.size = N) (hp : put1 N E d v = some E') : RelE β E' (a.put d c).tmps := by
  cases d with
  | none => simp only [AH.put1] at hp; cases hp; exact h
  | some d =>
    simp only [AH.put1] at hp
    split at hp
    · rename_i hlt; cases hp; exact h.put hv (by rw [hN]; exact hlt)
    · cases hp

/-! ### The heap -/
/-- No mark stands behind a block's last cell. -/
def NoMark (w : World) (b : Nat) : Prop := ∃ t n, w.shape? b = some (t, n) ∧ w.frozen? ⟨b, n, none⟩ = false
theorem shape?_setCell (w : World) (a : Addr) (v : Value) (k : Nat) : (w.setCell a v).shape? k = w.shape? k := by
  unfold World.shape? World.setCell
  simp only [Array.getElem?_modify]
  by_cases h : a.block = k
  · rw [if_pos h]
    cases hk : w.heap[k]? with
    | none => rfl
    | some o =>
      cases o with
      | cells c e f => by_cases hs : a.spot.isSome = true <;> simp [hs]
      | _ => simp
  · rw [if_neg h]
theorem shape?_setCells (b : Nat) : ∀ (vs : List Value) (o : Nat) (w : World) (k : Nat), (w.setCells b o vs).shape? k = w.shape? k
  | [], _, _, _ => rfl
  | v :: r, o, w, k => by rw [World.setCells, shape?_setCells b r, shape?_setCell]
theorem shape?_alloc_lt (w : World) (o : Obj) (k : Nat) (h : k < w.heap.size) : (w.alloc o).shape? k = w.shape? k := by
  unfold World.shape? World.alloc
  simp [Array.getElem?_push_lt h, h]
theorem NoMark.setCells {w : World} {b : Nat} (h : NoMark w b) (c o : Nat) (vs : List Value) : NoMark (w.setCells c o vs) b := by
  obtain ⟨t, n, h1, h2⟩ := h
  exact ⟨t, n, by rw [shape?_setCells]; exact h1, by rw [World.frozen?_setCells]; exact h2⟩
theorem NoMark.alloc {w : World} {b : Nat} (h : NoMark w b) (hb : b < w.heap.size) (o : Obj) : NoMark (w.alloc o) b := by
  obtain ⟨t, n, h1, h2⟩ := h
  exact ⟨t, n, by rw [shape?_alloc_lt _ _ _ hb]; exact h1, by rw [World.frozen?_alloc_past _ _ _ hb]; exact h2⟩
theorem shape?_alloc_mark (w : World) (C : Array Value) (t : TypeId) (fr : Nat × Nat) : (w.alloc (.cells C t fr)).shape? w.heap.size = some (t, C.size) := by
  unfold World.shape? World.alloc
  simp
structure RelH (B : Nat) (β : Bet) (h : H) (w : World) : Prop where
  cell : ∀ id, (h.blk id).alive = true → ∃ l, β id = some l ∧ (h.blk id).cells.length ≤ l.room ∧
    (∀ i v, (h.blk id).cells[i]? = some v → ∃ c, w.cell? ⟨l.b, l.base + i, none⟩ = some c ∧ RelC β v c) ∧
    (h.lo ≤ id → (B ≤ l.b ∧ (l.str = false → NoMark w l.b)) ∧ ∀ i, i < l.room → (w.cell? ⟨l.b, l.base + i, none⟩).isSome = true ∧ w.frozen? ⟨l.b, l.base + i, none⟩ = false)
  inj : ∀ id id' l l', (h.blk id).alive = true → (h.blk id').alive = true → id ≠ id' → h.lo ≤ id → β id = some l → β id' = some l' → l.b ≠ l'.b
  bnd : ∀ id, h.next ≤ id → (h.blk id).alive = false ∧ β id = none
  zero : (h.blk 0).alive = false
  pos : 0 < h.next
  lo : h.lo ≤ h.next
  hB : B ≤ w.heap.size
  blt : ∀ id l, β id = some l → l.b < w.heap.size

/-- From one state to a later one. -/
structure Ext (B : Nat) (β : Bet) (h : H) (w : World) (β' : Bet) (h' : H) (w' : World) : Prop where
  sub : Sub β β'
  below : Below B w w'
  lo : h'.lo = h.lo
  next : h.next ≤ h'.next
  ver : ∀ id, id < h.next → (h.blk id).ver ≤ (h'.blk id).ver
  same : ∀ id, id < h.next → (h.blk id).alive = true → (h'.blk id).ver = (h.blk id).ver → (h'.blk id).alive = true ∧ (h'.blk id).cells = (h.blk id).cells ∧
    ∀ l, β id = some l → ∀ i, i < (h.blk id).cells.length → w'.cell? ⟨l.b, l.base + i, none⟩ = w.cell? ⟨l.b, l.base + i, none⟩
theorem Ext.refl (B : Nat) (β : Bet) (h : H) (w : World) : Ext B β h w β h w :=
  ⟨Sub.refl _, Below.refl _ _, rfl, Nat.le_refl _, fun _ _ => Nat.le_refl _, fun _ _ ha _ => ⟨ha, rfl, fun _ _ _ _ => rfl⟩⟩
theorem Ext.trans {B : Nat} {β β' β'' : Bet} {h h' h'' : H} {w w' w'' : World} (x : Ext B β h w β' h' w') (y : Ext B β' h' w' β'' h'' w'') : Ext B β h w β'' h'' w'' :=
  ⟨x.sub.trans y.sub, x.below.trans y.below, y.lo.trans x.lo, Nat.le_trans x.next y.next,
   fun id hi => Nat.le_trans (x.ver id hi) (y.ver id (Nat.lt_of_lt_of_le hi x.next)),
   fun id hi ha hv => by
    have h1 := x.ver id hi
    have h2 := y.ver id (Nat.lt_of_lt_of_le hi x.next)
    obtain ⟨a1, a2, a3⟩ := x.same id hi ha (by omega)
    obtain ⟨b1, b2, b3⟩ := y.same id (Nat.lt_of_lt_of_le hi x.next) a1 (by omega)
    exact ⟨b1, b2.trans a2, fun l hl i hlt => (b3 l (x.sub _ _ hl) i (by rw [a2]; exact hlt)).trans (a3 l hl i hlt)⟩⟩
@[simp] theorem noMark_drew (w : World) (b : Nat) : NoMark w.drew b = NoMark w b := rfl
theorem RelH.drew {B : Nat} {β : Bet} {h : H} {w : World} (x : RelH B β h w) : RelH B β h w.drew := ⟨by simpa using x.cell, x.inj, x.bnd, x.zero, x.pos, x.lo, x.hB, x.blt⟩
theorem RelH.lt {B : Nat} {β : Bet} {h : H} {w : World} (x : RelH B β h w) {id : Nat} (ha : (h.blk id).alive = true) : id < h.next := by
  rcases Nat.lt_or_ge id h.next with h1 | h1
  · exact h1
  · rw [(x.bnd id h1).1] at ha; cases ha

/-- The worlds in which the blocks that an operation reads are as they are. -/
def AgreeR (β : Bet) (h : H) (w w' : World) (rs : List (Nat × Nat × Nat)) : Prop :=
  ∀ x ∈ rs, ∀ l, β x.2.1 = some l → ∀ k, k < (h.blk x.2.1).cells.length → w'.cell? ⟨l.b, l.base + k, none⟩ = w.cell? ⟨l.b, l.base + k, none⟩
theorem AgreeR.refl (β : Bet) (h : H) (w : World) (rs : List (Nat × Nat × Nat)) : AgreeR β h w w rs := fun _ _ _ _ _ _ => rfl

/-! ### Loads -/
theorem load_rel {B : Nat} {β : Bet} {h : H} {w : World} (hH : RelH B β h w) {id off n : Nat} {cs : List V} (hl : h.load id off n = some cs) :
    cs.length = n ∧ ∃ l cs', β id = some l ∧ id ≠ 0 ∧ w.rangeAt l.b (l.base + off) cs' ∧ All2 (RelC β) cs cs' ∧
      ∀ w' : World, (∀ k, k < (h.blk id).cells.length → w'.cell? ⟨l.b, l.base + k, none⟩ = w.cell? ⟨l.b, l.base + k, none⟩) → w'.rangeAt l.b (l.base + off) cs' := by
  unfold H.load at hl
  split at hl
  · rename_i hc
    obtain ⟨ha, hle⟩ := hc
    cases hl
    have hlen : (((h.blk id).cells.drop off).take n).length = n := by simp; omega
    obtain ⟨l, hb, hroom, hcell, _⟩ := hH.cell id ha
    have hex : ∀ i, i < n → ∃ c, w.cell? ⟨l.b, l.base + off + i, none⟩ = some c ∧ ∀ v, (h.blk id).cells[off + i]? = some v → RelC β v c := fun i hi => by
      have hlt : off + i < (h.blk id).cells.length := by omega
      obtain ⟨c, h1, h2⟩ := hcell (off + i) _ (List.getElem?_eq_getElem hlt)
      exact ⟨c, by rw [Nat.add_assoc]; exact h1, fun v hv => by rw [List.getElem?_eq_getElem hlt] at hv; cases hv; exact h2⟩
    let f : Nat → Value := fun i => (w.cell? ⟨l.b, l.base + off + i, none⟩).getD undef
    have hf : ∀ i, i < n → w.cell? ⟨l.b, l.base + off + i, none⟩ = some (f i) := fun i hi => by
      obtain ⟨c, h1, _⟩ := hex i hi
      simp [f, h1]
    refine ⟨hlen, l, (List.range n).map f, hb, ?_, ?_, ?_, ?_⟩
    · intro e; subst e; rw [hH.zero] at ha; cases ha
    · intro j v hv
      have hj : j < n := by have := (List.getElem?_eq_some_iff.1 hv).1; simpa using this
      rw [hf j hj]; simpa [hj] using hv
    · refine All2.of_get (by simp; omega) fun i x y hx hy => ?_
      have hi : i < n := by have := (List.getElem?_eq_some_iff.1 hy).1; simpa using this
      obtain ⟨c, h1, h2⟩ := hex i hi
      have : f i = c := by simp [f, h1]
      simp [hi] at hy; subst hy; rw [this]
      refine h2 x ?_
      rw [List.getElem?_take_of_lt hi, List.getElem?_drop] at hx; exact hx
    · intro w' hw j v hv
      have hj : j < n := by have := (List.getElem?_eq_some_iff.1 hv).1; simpa using this
      have := hw (off + j) (by omega)
      rw [← Nat.add_assoc] at this
      rw [this, hf j hj]; simpa [hj] using hv
  · cases hl
end Go.Proofs.Ythoabddfionmoaa.AH
