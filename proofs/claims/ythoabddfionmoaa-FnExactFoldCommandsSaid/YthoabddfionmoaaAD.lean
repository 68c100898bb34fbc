/- The evaluator by continuations, for the printed equations; it answers what the evaluator answers. No condition. -/
import Derived.Test.YthoabddfionmoaaAC
set_option linter.unusedVariables false
set_option linter.unusedSimpArgs false
namespace Go.Proofs.Ythoabddfionmoaa.AH
open Go Go.RowKit
variable {P : Program} {R : Type}

def putK (N : Nat) (E : Env) (d : Option Tmp) (v : V) (k : Env → Option R) : Option R :=
  match d with
  | none => k E
  | some d => if d < N then k (Env.put E d v) else none
/-- Both values of a guard. -/
def spl (g : Bool) (v : V) (k : V → Option R) : Option R :=
  match g with
  | false => k v
  | true => match v with
    | .bool true => k (.bool true)
    | .bool false => k (.bool false)
    | _ => none
/-- append, its answer told plainly. -/
def appW (P : Program) (h : H) (t tx : TypeId) (s x : V) : Option (V × H) :=
  match s with
  | .sl ez id off len => (elemOf' P t).bind fun e => (zeroOf P e.1).bind fun z => (srcV P h tx e.2.1 x).bind fun y =>
      if y.1 = 0 then some (.sl ez id off len, h) else
      if (len + y.1) * e.2.2 ≤ 140737488355328 ∧ len + y.1 ≤ 4611686018427387904 ∧ (id = 0 ∧ len = 0 ∨ (h.blk id).alive = true ∧ h.lo ≤ id ∧ id ≠ 0 ∧ ez = e.2.1) ∧ z.length = e.2.1 then
        (if len = 0 then some [] else h.load id off (len * e.2.1)).bind fun olds => some (.sl e.2.1 h.next 0 (len + y.1), (h.new (olds ++ y.2)).kill id)
      else none
  | _ => none
theorem appV_eq (h : H) (t tx : TypeId) (s x : V) : appV P h t tx s x = (appW P h t tx s x).map fun r => (some r.1, r.2) := by
  cases s <;> try rfl
  · rename_i ez id off len
    simp only [appV, appW]
    cases elemOf' P t with
    | none => rfl
    | some e =>
      simp only [Option.bind_some]
      cases zeroOf P e.1 with
      | none => rfl
      | some z =>
        simp only [Option.bind_some]
        cases srcV P h tx e.2.1 x with
        | none => rfl
        | some y =>
          simp only [Option.bind_some]
          split
          · rfl
          · split
            · generalize (if len = 0 then some [] else h.load id off (len * e.2.1)) = q
              cases q <;> rfl
            · rfl
def kE (P : Program) (call : CallF) (E : Env) (h : H) (op : Op) (k : Option V → H → Option R) : Option R :=
  match op with
  | .alloc t => (zeroOf P t).bind fun z => k (some (.ptr h.next 0)) (h.new z)
  | .box t x => (opd E x).bind fun v => (cellsV v).bind fun cs => k (some (.ptr h.next 0)) (h.new cs)
  | .store t a x => (opd E a).bind fun p => (opd E x).bind fun v => (cellsV v).bind fun vs => match p with
    | .ptr id off => (ldTy P t).bind fun y => if vs.length = y.1 then (h.store id off vs).bind fun h' => k none h' else none
    | _ => none
  | .call c => match c.callee, c.args.toList, c.argTypes.toList with
    | .builtin .append, [s, x], t :: tx :: _ => (opd E s).bind fun a => (opd E x).bind fun b => (appW P h t tx a b).bind fun r => k (some r.1) r.2
    | .value f, args, _ => (opd E f).bind fun g => match g with
      | .fn f caps => (opds E args).bind fun vs => (call f (vs ++ caps.map fun p => V.ptr p.1 p.2) h).bind fun r => k (some r.1) r.2
      | _ => none
    | _, _, _ => none
  | .buildSlice t n parts => (elemOf' P t).bind fun e => if n * e.2.1 ≤ 16777216 then (zeroOf P e.1).bind fun z =>
      if n * e.2.1 = 0 ∨ z.length = e.2.1 then
        (fillV (fun i => some (i * e.2.1, e.2.1)) E parts.toList ((List.replicate n z).flatten)).bind fun cs => k (some (.sl e.2.1 h.next 0 n)) (h.new cs)
      else none
    else none
  | .makeSlice t l c => (opd E l).bind fun a => (opd E c).bind fun b => (elemOf' P t).bind fun e => (zeroOf P e.1).bind fun z => match a, b with
    | .int _ n, .int _ m => if n = m ∧ 0 ≤ n ∧ n ≤ 4611686018427387904 ∧ (e.2.2 : Int) * n ≤ 281474976710656 ∧ z.length = e.2.1 then k (some (.sl e.2.1 h.next 0 n.toNat)) (h.new ((List.replicate n.toNat z).flatten)) else none
    | _, _ => none
  | .convert s d x => (opd E x).bind fun v => (cvtW P h s d v).bind fun r => k (some r.1) r.2
  | _ => none
theorem kE_eq (call : CallF) (E : Env) (h : H) (op : Op) (k : Option V → H → Option R) : kE P call E h op k = (eOp P call E h op).bind fun r => k r.1 r.2 := by
  unfold kE
  split
  · simp only [eOp]; cases zeroOf P _ <;> rfl
  · simp only [eOp, Option.bind_assoc]
    congr 1; funext v
    cases cellsV v <;> rfl
  · simp only [eOp, Option.bind_assoc]
    congr 1; funext p; congr 1; funext v; congr 1; funext vs
    cases p <;> try rfl
    simp only [Option.bind_assoc]
    congr 1; funext y
    split
    · cases h.store _ _ _ <;> rfl
    · rfl
  · rename_i c
    simp only [eOp]
    split
    · rename_i s x t tx ts h1 h2 h3
      simp only [h1, h2, h3]
      cases opd E s with
      | none => rfl
      | some a =>
        cases opd E x with
        | none => rfl
        | some b =>
          simp only [Option.bind_some, appV_eq]
          cases appW P h t tx a b <;> rfl
    · rename_i f h1
      simp only [h1]
      cases opd E f with
      | none => rfl
      | some g =>
        simp only [Option.bind_some]
        cases g <;> try rfl
        simp only
        cases opds E c.args.toList with
        | none => rfl
        | some vs =>
          simp only [Option.bind_some]
          cases call _ _ h <;> rfl
    · rename_i hf ha
      split
      · rename_i h1 h2 h3; exact absurd h3 (ha _ _ _ _ _ h1 h2)
      · rename_i h1; exact absurd h1 (hf _)
      · rfl
  · rename_i t n parts
    simp only [eOp]
    cases elemOf' P t with
    | none => rfl
    | some e =>
      simp only [Option.bind_some]
      split
      · cases zeroOf P e.1 with
        | none => rfl
        | some z =>
          simp only [Option.bind_some]
          split
          · cases fillV (fun i => some (i * e.2.1, e.2.1)) E parts.toList ((List.replicate n z).flatten) <;> rfl
          · rfl
      · rfl
  · rename_i t l c
    simp only [eOp]
    cases opd E l with
    | none => rfl
    | some a =>
      cases opd E c with
      | none => rfl
      | some b =>
        cases elemOf' P t with
        | none => rfl
        | some e =>
          simp only [Option.bind_some]
          cases zeroOf P e.1 with
          | none => rfl
          | some z =>
            simp only [Option.bind_some]
            cases a <;> try rfl
            cases b <;> try rfl
            simp only
            split <;> rfl
  · rename_i s d x
    simp only [eOp]
    cases opd E x with
    | none => rfl
    | some v =>
      simp only [Option.bind_some]
      cases cvtW P h s d v <;> rfl
  · rename_i h1 h2 h3 h4 h5 h6 h7
    cases op <;> first | rfl | (exfalso; first | exact h1 _ rfl | exact h2 _ _ rfl | exact h3 _ _ _ rfl | exact h4 _ rfl | exact h5 _ _ _ rfl | exact h6 _ _ _ rfl | exact h7 _ _ _ rfl)
def kOper (P : Program) (call : CallF) (ops : Array Oper) (N i : Nat) (o : Oper) (E : Env) (h : H) (k : Env → H → Option R) : Option R :=
  match wantedV ops o E with
  | none => none
  | some false => putK N E o.dst (.tup []) fun E' => k E' h
  | some true =>
    match isQ P o.op with
    | true => (qOp P E h o.op).bind fun v => spl (isGuard ops o) v fun v => putK N E o.dst v fun E' => k E' h
    | false => kE P call E h o.op fun rv h' => match rv with
      | some v => spl (isGuard ops o) v fun v => putK N E o.dst v fun E' => k E' h'
      | none => k (del1 E o.dst) h'
theorem putK_eq (N : Nat) (E : Env) (d : Option Tmp) (v : V) (k : Env → Option R) : putK N E d v k = (put1 N E d v).bind k := by
  cases d with
  | none => rfl
  | some d => simp only [putK, put1]; split <;> rfl
theorem splK_eq (ops : Array Oper) (N : Nat) (o : Oper) (E : Env) (v : V) (k : Env → Option R) : (spl (isGuard ops o) v fun v => putK N E o.dst v k) = (gput ops N o E v).bind k := by
  unfold spl gput
  cases isGuard ops o with
  | false => exact putK_eq _ _ _ _ _
  | true =>
    cases v <;> try rfl
    rename_i b
    cases b <;> exact putK_eq _ _ _ _ _
theorem kOper_eq (call : CallF) (ops : Array Oper) (N i : Nat) (o : Oper) (E : Env) (h : H) (k : Env → H → Option R) : kOper P call ops N i o E h k = (evOper P call ops N o E h).bind fun x => k x.1 x.2 := by
  unfold kOper evOper
  cases hw : wantedV ops o E with
  | none => rfl
  | some b =>
    cases b with
    | false =>
      simp only [Option.bind_some, Bool.false_eq_true, if_false, putK_eq]
      cases put1 N E o.dst (.tup []) <;> rfl
    | true =>
      simp only [Option.bind_some, if_true]
      cases hq : isQ P o.op with
      | true =>
        simp only [if_true, splK_eq]
        cases qOp P E h o.op with
        | none => rfl
        | some v => simp only [Option.bind_some]; cases gput ops N o E v <;> rfl
      | false =>
        simp only [Bool.false_eq_true, if_false, splK_eq, kE_eq]
        cases eOp P call E h o.op with
        | none => rfl
        | some r =>
          obtain ⟨rv, h'⟩ := r
          cases rv with
          | none => rfl
          | some v => simp only [Option.bind_some]; cases gput ops N o E v <;> rfl
def kOps (P : Program) (call : CallF) (ops : Array Oper) (N : Nat) : Nat → List Oper → Env → H → (Env → H → Option R) → Option R
  | _, [], E, h, k => k E h
  | i, o :: r, E, h, k => kOper P call ops N i o E h fun E h => kOps P call ops N (i + 1) r E h k
theorem kOps_eq (call : CallF) (ops : Array Oper) (N : Nat) : ∀ (i : Nat) (l : List Oper) (E : Env) (h : H) (k : Env → H → Option R), kOps P call ops N i l E h k = (evOps P call ops N l E h).bind fun x => k x.1 x.2
  | i, [], E, h, k => rfl
  | i, o :: r, E, h, k => by
    unfold kOps evOps
    rw [kOper_eq]
    cases evOper P call ops N o E h with
    | none => rfl
    | some x => simp only [Option.bind_some]; exact kOps_eq call ops N _ r _ _ k
/-- What waits, by its pointer and the heap in which it was read. -/
def rdsV : Nat × Bool × V × H → List (Nat × Nat × Nat)
  | (i, true, p, h) => match p with
    | .ptr id _ => [(i, id, (h.blk id).ver)]
    | _ => []
  | (i, false, p, h) => match p with
    | .sl _ id _ n => if n = 0 ∨ id = 0 then [] else [(i, id, (h.blk id).ver)]
    | _ => []
def readsK (E : Env) (h : H) (i : Nat) : Op → List (Nat × Bool × V × H)
  | .load _ a => match opd E a with | some p => [(i, true, p, h)] | none => []
  | .convert _ _ x => match opd E x with | some p => [(i, false, p, h)] | none => []
  | _ => []
theorem readsK_eq (E : Env) (h : H) (i : Nat) (op : Op) : (readsK E h i op).flatMap rdsV = readsOf E h i op := by
  cases op <;> try rfl
  · rename_i t a
    simp only [readsK, readsOf]
    cases opd E a with
    | none => rfl
    | some p => cases p <;> rfl
  · rename_i s d x
    simp only [readsK, readsOf]
    cases opd E x with
    | none => rfl
    | some p => cases p <;> simp [rdsV]
def pendK (h' : H) (o : Oper) : List (Nat × Bool × V × H) → Option R → Option R
  | [], k => k
  | (i, b, p, h) :: r, k => match edgeOn o i with
    | true => pendK h' o r k
    | false => match b with
      | true => match p with
        | .ptr id _ => if (h'.blk id).ver = (h.blk id).ver then pendK h' o r k else none
        | _ => pendK h' o r k
      | false => match p with
        | .sl _ id _ n => if n = 0 ∨ id = 0 then pendK h' o r k else if (h'.blk id).ver = (h.blk id).ver then pendK h' o r k else none
        | _ => pendK h' o r k
theorem pend_append (h' : H) (o : Oper) (a b : List (Nat × Nat × Nat)) : pend h' o (a ++ b) = (pend h' o a && pend h' o b) := by
  unfold pend; rw [List.all_append]
theorem pend_one (h' : H) (o : Oper) (i id ver : Nat) : pend h' o [(i, id, ver)] = (edgeOn o i || (h'.blk id).ver == ver) := by
  unfold pend; simp
theorem pendK_eq (h' : H) (o : Oper) (k : Option R) : ∀ (L : List (Nat × Bool × V × H)), pendK h' o L k = if pend h' o (L.flatMap rdsV) then k else none
  | [] => rfl
  | (i, b, p, h) :: r => by
    have h2 := pendK_eq h' o k r
    have h1 : ((i, b, p, h) :: r).flatMap rdsV = rdsV (i, b, p, h) ++ r.flatMap rdsV := rfl
    rw [h1, pend_append]
    generalize pend h' o (r.flatMap rdsV) = q at h2
    unfold pendK
    rw [h2]
    have hone : ∀ id : Nat, pend h' o [(i, id, (h.blk id).ver)] = (edgeOn o i || (h'.blk id).ver == (h.blk id).ver) := fun id => pend_one _ _ _ _ _
    by_cases he : edgeOn o i = true
    · have : pend h' o (rdsV (i, b, p, h)) = true := by
        cases b <;> cases p <;> simp only [rdsV] <;> first | rfl | (rw [hone, he]; rfl) | (split; · rfl
                                                                                           · rw [hone, he]; rfl)
      rw [this, he]; cases q <;> rfl
    · have he' : edgeOn o i = false := by simpa using he
      rw [he']
      have chk : ∀ id : Nat, (if (h'.blk id).ver = (h.blk id).ver then (if q = true then k else none) else none) = if (pend h' o [(i, id, (h.blk id).ver)] && q) = true then k else none := fun id => by
        rw [hone, he']
        by_cases e : (h'.blk id).ver = (h.blk id).ver
        · rw [if_pos e, e]; cases q <;> simp
        · have : ((h'.blk id).ver == (h.blk id).ver) = false := by simpa using e
          rw [if_neg e, this]; cases q <;> rfl
      have nil : ∀ A : List (Nat × Nat × Nat), A = [] → (if q = true then k else none) = if (pend h' o A && q) = true then k else none := fun A hA => by
        subst hA; cases q <;> rfl
      have one : ∀ (A : List (Nat × Nat × Nat)) (id : Nat), A = [(i, id, (h.blk id).ver)] → (if (h'.blk id).ver = (h.blk id).ver then (if q = true then k else none) else none) = if (pend h' o A && q) = true then k else none := fun A id hA => by
        subst hA; exact chk id
      cases b with
      | true =>
        cases p with
        | ptr id off => exact one _ id rfl
        | _ => exact nil _ rfl
      | false =>
        cases p with
        | sl e id off n =>
          by_cases hz : n = 0 ∨ id = 0
          · simp only [hz, if_true]; exact nil _ (by simp [rdsV, hz])
          · simp only [hz, if_false]; exact one _ id (by simp only [rdsV, hz, if_false])
        | _ => exact nil _ rfl
def kAny (P : Program) (call : CallF) (ops : Array Oper) (N : Nat) : Nat → Array Bool → List (Nat × Bool × V × H) → Env → H → (Env → H → Option R) → Option R
  | 0, listed, _, E, h, k => match (Region.ready .any ops listed).isEmpty with | true => k E h | false => none
  | fuel + 1, listed, L, E, h, k =>
    match (Region.ready .any ops listed).isEmpty with
    | true => k E h
    | false => match pickNext P ops listed with
      | none => none
      | some i => match ops[i]? with
        | none => none
        | some o => match isQ P o.op with
          | true => match Region.free .any ops listed i with
            | true => match wantedV ops o E with
              | none => none
              | some true => (qOp P E h o.op).bind fun v => spl (isGuard ops o) v fun v => putK N E o.dst v fun E' => kAny P call ops N fuel (listed.setIfInBounds i true) (readsK E h i o.op ++ L) E' h k
              | some false => putK N E o.dst (.tup []) fun E' => kAny P call ops N fuel (listed.setIfInBounds i true) L E' h k
            | false => none
          | false => kOper P call ops N i o E h fun E' h' => pendK h' o L (kAny P call ops N fuel (listed.setIfInBounds i true) L E' h' k)
theorem kAny_eq (call : CallF) (ops : Array Oper) (N : Nat) : ∀ (fuel : Nat) (listed : Array Bool) (L : List (Nat × Bool × V × H)) (E : Env) (h : H) (k : Env → H → Option R), kAny P call ops N fuel listed L E h k = (evAny P call ops N fuel listed (L.flatMap rdsV) E h).bind fun x => k x.1 x.2
  | 0, listed, L, E, h, k => by
    unfold kAny evAny
    cases (Region.ready .any ops listed).isEmpty <;> rfl
  | fuel + 1, listed, L, E, h, k => by
    unfold kAny evAny
    cases (Region.ready .any ops listed).isEmpty with
    | true => rfl
    | false =>
      simp only [Bool.false_eq_true, if_false]
      cases pickNext P ops listed with
      | none => rfl
      | some i =>
        simp only
        cases ops[i]? with
        | none => rfl
        | some o =>
          simp only
          cases isQ P o.op with
          | true =>
            simp only [if_true]
            cases Region.free .any ops listed i with
            | false => rfl
            | true =>
              simp only [if_true]
              cases wantedV ops o E with
              | none => rfl
              | some b =>
                cases b with
                | false =>
                  simp only [Option.bind_some, Bool.false_eq_true, if_false, putK_eq]
                  cases put1 N E o.dst (.tup []) with
                  | none => rfl
                  | some E' => simp only [Option.bind_some]; exact kAny_eq call ops N fuel _ _ _ _ k
                | true =>
                  simp only [Option.bind_some, if_true, splK_eq]
                  cases qOp P E h o.op with
                  | none => rfl
                  | some v =>
                    simp only [Option.bind_some]
                    cases gput ops N o E v with
                    | none => rfl
                    | some E' =>
                      simp only [Option.bind_some]
                      rw [kAny_eq call ops N fuel, List.flatMap_append, readsK_eq]
          | false =>
            simp only [Bool.false_eq_true, if_false, kOper_eq, pendK_eq]
            cases evOper P call ops N o E h with
            | none => rfl
            | some x =>
              simp only [Option.bind_some]
              split
              · exact kAny_eq call ops N fuel _ _ _ _ k
              · rfl

/-- A loop's body, as the evaluator iterates it. -/
noncomputable def lbody (P : Program) (call : CallF) (ann : Nat → List Nat) (N : Nat) (c : Code) : Env → H → Option (X × Env × H) :=
  fun E h => (evC P call ann N c E h).map fun r => match r.1 with | .nrm => (.nrm, keepAt ann c r.2.1, r.2.2) | _ => r
noncomputable def loopK (P : Program) (call : CallF) (ann : Nat → List Nat) (N : Nat) (c : Code) (k : X → Env → H → Option R) (E : Env) (h : H) : Option R :=
  (iterR (lbody P call ann N c) E h).bind fun r => k r.1 r.2.1 r.2.2
/-- What follows the first of two. -/
def sqK (b : X → Env → H → Option R) (k : X → Env → H → Option R) : X → Env → H → Option R
  | .nrm, E, h => b .nrm E h
  | .ex id, E, h => k (.ex id) E h
  | .ret, E, h => k .ret E h
def bkK (id : Nat) (k : X → Env → H → Option R) : X → Env → H → Option R
  | .nrm, E, h => k .nrm E h
  | .ex i, E, h => if i = id then k .nrm E h else k (.ex i) E h
  | .ret, E, h => k .ret E h
def lpK (l : Env → H → Option R) (k : X → Env → H → Option R) : X → Env → H → Option R
  | .nrm, E, h => l E h
  | .ex i, E, h => k (.ex i) E h
  | .ret, E, h => k .ret E h
noncomputable def kC (P : Program) (call : CallF) (ann : Nat → List Nat) (N : Nat) : Code → (X → Env → H → Option R) → Env → H → Option R
  | .skip, k, E, h => k .nrm E h
  | .region _ ops false, k, E, h => kOps P call ops N 0 ops.toList E h fun E h => k .nrm E h
  | .region _ ops true, k, E, h => match Region.noSelect ops with
    | true => kAny P call ops N ops.size (Array.replicate ops.size false) [] E h fun E h => k .nrm E h
    | false => none
  | .seq a b, k, E, h => kC P call ann N a (sqK (fun _ E h => kC P call ann N b k (keepAt ann b E) h) k) E h
  | .cond c a b, k, E, h => match opd E c with
    | some (.bool true) => kC P call ann N a k (keepAt ann a E) h
    | some (.bool false) => kC P call ann N b k (keepAt ann b E) h
    | _ => none
  | .block id c, k, E, h => kC P call ann N c (bkK id k) E h
  | .loop c, k, E, h => loopK P call ann N c k (keepAt ann c E) h
  | .exit id, k, E, h => k (.ex id) E h
  | .ret, k, E, h => k .ret E h
  | .label _, k, E, h => k .nrm E h
  | _, _, _, _ => none
theorem kC_eq (call : CallF) (ann : Nat → List Nat) (N : Nat) : ∀ (c : Code) (k : X → Env → H → Option R) (E : Env) (h : H), kC P call ann N c k E h = (evC P call ann N c E h).bind fun r => k r.1 r.2.1 r.2.2 := by
  intro c
  induction c with
  | region id ops draw =>
    intro k E h
    cases draw with
    | false =>
      simp only [kC, evC, kOps_eq]
      cases evOps P call ops N ops.toList E h <;> rfl
    | true =>
      simp only [kC, evC, kAny_eq, List.flatMap_nil]
      cases Region.noSelect ops with
      | false => rfl
      | true =>
        simp only [if_true]
        cases evAny P call ops N ops.size (Array.replicate ops.size false) [] E h <;> rfl
  | seq a b iha ihb =>
    intro k E h
    simp only [kC, evC, iha]
    cases evC P call ann N a E h with
    | none => rfl
    | some r =>
      obtain ⟨x, E1, h1⟩ := r
      cases x with
      | nrm => simp only [Option.bind_some, sqK, ihb]
      | ex id => rfl
      | ret => rfl
  | cond c a b iha ihb =>
    intro k E h
    simp only [kC, evC]
    cases hc : opd E c with
    | none => rfl
    | some v =>
      cases v with
      | bool t => cases t <;> simp [iha, ihb]
      | _ => rfl
  | block id c ih =>
    intro k E h
    simp only [kC, evC, ih]
    cases evC P call ann N c E h with
    | none => rfl
    | some r =>
      obtain ⟨x, E1, h1⟩ := r
      cases x with
      | nrm => rfl
      | ex i => simp only [Option.bind_some, bkK]; split <;> rfl
      | ret => rfl
  | loop c ih => intro k E h; rfl
  | skip => intro k E h; rfl
  | exit id => intro k E h; rfl
  | ret => intro k E h; rfl
  | label l => intro k E h; rfl
  | rangeFunc f ps x y => intro k E h; simp only [kC, evC]; rfl
  | scope b => intro k E h; simp only [kC, evC]; rfl
  | goto l => intro k E h; simp only [kC, evC]; rfl
  | refuse s => intro k E h; simp only [kC, evC]; rfl
theorem loopK_eq (call : CallF) (ann : Nat → List Nat) (N : Nat) (c : Code) (k : X → Env → H → Option R) (E : Env) (h : H) :
    loopK P call ann N c k E h = kC P call ann N c (lpK (fun E h => loopK P call ann N c k (keepAt ann c E) h) k) E h := by
  unfold loopK
  rw [kC_eq, iterR_eq]
  unfold lbody
  cases evC P call ann N c E h with
  | none => rfl
  | some r =>
    obtain ⟨x, E1, h1⟩ := r
    cases x with
    | nrm => rfl
    | ex id => rfl
    | ret => rfl

/-- The end of a function. -/
def finK (P : Program) (rs : List ResultVar) : X → Env → H → Option (V × H)
  | .ex _, _, _ => none
  | _, E, h => (ressV P E h rs).map fun vs => (tupOf vs, h)
noncomputable def bodyK (P : Program) (call : CallF) (ann : Nat → List Nat) (fn : Func) (c : Code) (args : List V) (h : H) : Option (V × H) :=
  kC P call ann fn.ntmps c (finK P fn.results.toList) (keepAt ann c (paramEnv 0 args)) h
variable {prims : Prims} {ann : Nat → Nat → List Nat}
theorem run_bodyK {f : Nat} {fn : Func} {c : Code} (hp : prims f = none) (hf : P.funcs[f]? = some fn) (hb : fn.body = some c) (hname : (fn.name == "runtime.NumGoroutine") = false) {args : List V} (hlen : args.length ≤ fn.ntmps) {h : H} {r : V × H}
    (e : bodyK P (run P prims ann) (ann f) fn c args h = some r) : run P prims ann f args h = some r := by
  refine run_body hp hf ?_
  unfold evBody
  rw [hb]
  simp only [hlen, hname, and_self, if_true]
  unfold bodyK at e
  rw [kC_eq] at e
  rw [← e]
  cases evC P (run P prims ann) (ann f) fn.ntmps c (keepAt (ann f) c (paramEnv 0 args)) h with
  | none => rfl
  | some q =>
    obtain ⟨x, E1, h1⟩ := q
    cases x <;> rfl
end Go.Proofs.Ythoabddfionmoaa.AH
