/- The evaluator of code, with its reading of regions whose order is drawn: plain definitions. -/
import Derived.Test.YtgjpnajfapcobaaGreatAeI
set_option autoImplicit false
set_option linter.unusedVariables false
set_option linter.unusedSimpArgs false
namespace Go.Ae

/-! ### 23. Are two values the same? -/
def beqL (f : Value → Value → Bool) : List Value → List Value → Bool
  | [], [] => true
  | a :: l, b :: l' => f a b && beqL f l l'
  | _, _ => false
def beqV : Nat → Value → Value → Bool
  | 0, _, _ => false
  | n + 1, a, b =>
    match a, b with
    | .bool x, .bool y => x == y
    | .int k x, .int k' y => decide (k = k') && decide (x = y)
    | .string x, .string y => x.data.toList == y.data.toList
    | .pointer x, .pointer y => decide (x = y)
    | .slice x l c, .slice y l' c' => decide (x = y) && decide (l = l') && decide (c = c')
    | .map x, .map y => decide (x = y)
    | .nilFunc, .nilFunc => true
    | .nilIface, .nilIface => true
    | .func f x y, .func g x' y' => decide (f = g) && beqL (beqV n) x.toList x'.toList && beqL (beqV n) y.toList y'.toList
    | .iface t v, .iface t' v' => decide (t = t') && beqV n v v'
    | .agg x, .agg y => beqL (beqV n) x.toList y.toList
    | .tuple x, .tuple y => beqL (beqV n) x.toList y.toList
    | _, _ => false
theorem beqL_eq {f : Value → Value → Bool} (hf : ∀ a b, f a b = true → a = b) : ∀ l l' : List Value, beqL f l l' = true → l = l'
  | [], [], _ => rfl
  | a :: l, b :: l', h => by
    simp only [beqL, Bool.and_eq_true] at h
    rw [hf a b h.1, beqL_eq hf l l' h.2]
  | [], _ :: _, h => by simp [beqL] at h
  | _ :: _, [], h => by simp [beqL] at h
theorem beqV_eq : ∀ (n : Nat) (a b : Value), beqV n a b = true → a = b
  | 0, _, _, h => by simp [beqV] at h
  | n + 1, a, b, h => by
    have ih := beqV_eq n
    unfold beqV at h
    split at h
    · rw [beq_iff_eq] at h; rw [h]
    · simp only [Bool.and_eq_true, decide_eq_true_eq] at h; rw [h.1, h.2]
    · rename_i x y
      have : x = y := by
        obtain ⟨⟨x⟩⟩ := x
        obtain ⟨⟨y⟩⟩ := y
        simp only [beq_iff_eq] at h
        rw [h]
      rw [this]
    · rw [decide_eq_true_eq] at h; rw [h]
    · simp only [Bool.and_eq_true, decide_eq_true_eq] at h; rw [h.1.1, h.1.2, h.2]
    · rw [decide_eq_true_eq] at h; rw [h]
    · rfl
    · rfl
    · simp only [Bool.and_eq_true, decide_eq_true_eq] at h
      rw [h.1.1, Array.toList_inj.1 (beqL_eq ih _ _ h.1.2), Array.toList_inj.1 (beqL_eq ih _ _ h.2)]
    · simp only [Bool.and_eq_true, decide_eq_true_eq] at h
      rw [h.1, ih _ _ h.2]
    · rw [Array.toList_inj.1 (beqL_eq ih _ _ h)]
    · rw [Array.toList_inj.1 (beqL_eq ih _ _ h)]
    · cases h

/-! ### 24. Regions whose order is open -/
def allocOp : Op → Bool
  | .alloc _ | .box _ _ | .buildSlice _ _ _ | .makeSlice _ _ _ => true
  | _ => false
def isSliceT (P : Program) (t : TypeId) : Bool :=
  match P.underlying t with
  | some (.slice _) => true
  | _ => false
/-- It changes nothing that was there. -/
def lightOp (P : Program) : Op → Bool
  | .move _ | .pick _ _ _ | .build _ _ | .load _ _ | .nilCheck _ | .binOp _ _ _ _ _ | .unOp _ _ _ | .makeInterface _ _ | .makeFunc _ _ _ | .slice _ _ _ _ _ | .fieldAddr _ _ _ | .field _ _ _ | .indexAddr _ _ _ | .index _ _ _
  | .lookup _ _ _ _ | .typeAssert _ _ _ _ | .extract _ _ => true
  | .alloc _ | .box _ _ | .buildSlice _ _ _ | .makeSlice _ _ _ => true
  | .convert s d _ => !isSliceT P s && !isSliceT P d
  | .call { callee := .builtin .len, .. } | .call { callee := .builtin .cap, .. } | .call { callee := .builtin .min, .. } | .call { callee := .builtin .max, .. } => true
  | _ => false

def preds (o : Oper) : List Nat := (o.after.toList.filter (Region.binds .any)).map (·.on)
def cloAux (acc : List (List Nat)) : List Oper → List (List Nat)
  | [] => acc
  | o :: l => cloAux (acc ++ [preds o ++ (preds o).flatMap fun p => acc.getD p []]) l
def clo (ops : Array Oper) : List (List Nat) := cloAux [] ops.toList
def namesOf (ops : Array Oper) (o : Oper) : List Tmp := o.dst.toList ++ o.looksAt ops

/-- What the order of a region must be for the canonical one to stand for all. -/
def drawStatic (P : Program) (ops : Array Oper) : Bool :=
  let C := clo ops
  (List.range ops.size).all fun k =>
    match ops[k]? with
    | none => false
    | some o =>
      (preds o).all (fun p => decide (p < k)) &&
      (if lightOp P o.op = true then
        match o.dst with
        | none => false
        | some t =>
          !(o.looksAt ops).contains t &&
          (List.range ops.size).all fun j =>
            match ops[j]? with
            | none => false
            | some o' => j == k || !(namesOf ops o').contains t || (C.getD j []).contains k
      else
        (List.range k).all fun j =>
          match ops[j]? with
          | none => false
          | some o' => lightOp P o'.op || (C.getD k []).contains j)

abbrev Done := List Bool
def isDone (d : Done) (i : Nat) : Bool := d.getD i false
def readyB (d : Done) (o : Oper) : Bool := (preds o).all (isDone d)
def execOne (call : CallFn) (P : Program) (ops : Array Oper) (s : St) (o : Oper) : Option St :=
  if Region.wanted o (yieldedL ops s.t) = true then
    match stepOp call P (evO s.t) s.H o with
    | some (v, H') => some ⟨putT s.t o.dst v, H'⟩
    | none => none
  else some ⟨putT s.t o.dst undef, s.H⟩
def lightPass (call : CallFn) (P : Program) (ops : Array Oper) : List Nat → Done → St → Option (Done × St)
  | [], d, s => some (d, s)
  | i :: l, d, s =>
    match ops[i]? with
    | none => none
    | some o =>
      if (!isDone d i && lightOp P o.op && readyB d o) = true then
        match execOne call P ops s o with
        | some s' => lightPass call P ops l (d.set i true) s'
        | none => none
      else lightPass call P ops l d s
def idOf : Value → Option Nat
  | .pointer (some a) => some a.block
  | .slice (some a) _ _ => some a.block
  | _ => none
/-- What a making operation makes: the row, and the value once it has a name. -/
def allocCells (P : Program) (e : Operand → Option Value) : Op → Option (List Value × (Nat → Value))
  | .alloc t =>
    match zeroOf P t with
    | some z => some (z.cells.toList, fun i => .pointer (some ⟨i, 0, none⟩))
    | none => none
  | .box _ x =>
    match e x with
    | some v => some (v.cells.toList, fun i => .pointer (some ⟨i, 0, none⟩))
    | none => none
  | .buildSlice t len ps =>
    match evP e ps.toList, P.underlying t with
    | some vs, some (.slice el) =>
      match szOf P el, zeroOf P el with
      | some size, some z =>
        if 0 < size ∧ len * size ≤ 16777216 ∧ z.cells.toList.length = size then
          (fillL (fun i => some (i * size, size)) (zeros z.cells.toList len) vs).map fun cs => (cs, fun i => .slice (some ⟨i, 0, none⟩) len len)
        else none
      | _, _ => none
    | _, _ => none
  | .makeSlice t x y =>
    match e x, e y with
    | some (.int _ l), some (.int _ c) =>
      match P.underlying t with
      | some (.slice el) =>
        match szOf P el, bytesOf P el, zeroOf P el with
        | some size, some by_, some z =>
          if 0 ≤ l ∧ l ≤ c ∧ (by_ : Int) * c ≤ 281474976710656 ∧ c ≤ 9223372036854775807 ∧ 0 < size ∧ z.cells.toList.length = size then
            some (zeros z.cells.toList c.toNat, fun i => .slice (some ⟨i, 0, none⟩) l.toNat (if l = c then l.toNat else l.toNat + 1 + size))
          else none
        | _, _, _ => none
      | _ => none
    | _, _ => none
  | _ => none
/-- Would it come to the same here? -/
def goodB (P : Program) (ops : Array Oper) (s : St) (o : Oper) : Bool :=
  match o.dst with
  | none => false
  | some t =>
    if Region.wanted o (yieldedL ops s.t) = true then
      if allocOp o.op = true then
        match allocCells P (evO s.t) o.op, idOf (s.t.getD t undef) with
        | some (cs, mk), some c =>
          beqV 4 (s.t.getD t undef) (mk c) &&
          (match s.H.get c with
           | some (.row true cs') => beqL (beqV 4) cs' cs
           | _ => false)
        | _, _ => false
      else
        match aop P (evO s.t) s.H o.op with
        | some (v, _) => beqV 4 (s.t.getD t undef) v
        | none => false
    else beqV 1 (s.t.getD t undef) undef
def goodAll (P : Program) (ops : Array Oper) (C : List (List Nat)) (hs : List Nat) (d : Done) (s : St) : Bool :=
  (List.range ops.size).all fun i =>
    match ops[i]? with
    | none => true
    | some o => !isDone d i || !lightOp P o.op || hs.any (fun h => (C.getD h []).contains i) || goodB P ops s o
def drawGo (call : CallFn) (P : Program) (ops : Array Oper) (C : List (List Nat)) : Nat → List Nat → Done → St → Option St
  | 0, _, _, _ => none
  | f + 1, hs, d, s =>
    match lightPass call P ops (List.range ops.size) d s with
    | none => none
    | some (d1, s1) =>
      if goodAll P ops C hs d1 s1 = true then
        if (List.range ops.size).all (isDone d1) = true then some s1
        else
          match (List.range ops.size).find? (fun i => !isDone d1 i && ((ops[i]?).map (readyB d1)).getD false) with
          | none => none
          | some h =>
            match ops[h]? with
            | none => none
            | some o =>
              match execOne call P ops s1 o with
              | some s2 => drawGo call P ops C f (h :: hs) (d1.set h true) s2
              | none => none
      else none
def drawRun (call : CallFn) (P : Program) (ops : Array Oper) (s : St) : Option St :=
  if (drawStatic P ops && P.follows .mixedOrders) = true then drawGo call P ops (clo ops) (ops.size + 1) [] (List.replicate ops.size false) s else none

/-! ### 25. The evaluator -/
def aResult (P : Program) (s : St) : ResultVar → Option Value
  | .tmp t => some (s.t.getD t undef)
  | .cell a t => aLoad P s.H t (s.t.getD a undef)
def aResults (P : Program) (s : St) : List ResultVar → Option (List Value)
  | [] => some []
  | r :: l =>
    match aResult P s r, aResults P s l with
    | some v, some vs => some (v :: vs)
    | _, _ => none
def tupled : List Value → Value
  | [v] => v
  | vs => .tuple ⟨vs⟩
/-- A call, by what runs a body. -/
def callBy (P : Program) (run : Code → St → Option (Ex × St)) : CallFn := fun f vs H =>
  match bodyOf P f with
  | some (fn, c) =>
    match run c ⟨vs ++ List.replicate (fn.ntmps - vs.length) undef, H⟩ with
    | some (.normal, s) => (aResults P s fn.results.toList).map fun rs => (tupled rs, s.H)
    | some (.ret, s) => (aResults P s fn.results.toList).map fun rs => (tupled rs, s.H)
    | _ => none
  | none => none
def evC (P : Program) : Nat → Code → St → Option (Ex × St)
  | 0, _, _ => none
  | n + 1, c, s =>
    match c with
    | .skip => some (.normal, s)
    | .region _ ops false => (runOps (callBy P (evC P n)) P ops (List.range ops.size) s).map (.normal, ·)
    | .region _ ops true => (drawRun (callBy P (evC P n)) P ops s).map (.normal, ·)
    | .seq a b =>
      match evC P n a s with
      | some (.normal, s1) => evC P n b s1
      | r => r
    | .cond c a b =>
      match evO s.t c with
      | some (.bool true) => evC P n a s
      | some (.bool false) => evC P n b s
      | _ => none
    | .block id b =>
      match evC P n b s with
      | some (.exit i, s1) => if i = id then some (.normal, s1) else some (.exit i, s1)
      | r => r
    | .loop b =>
      match evC P n b s with
      | some (.normal, s1) => evC P n (.loop b) s1
      | r => r
    | .exit id => some (.exit id, s)
    | .ret => some (.ret, s)
    | _ => none
def evCall (P : Program) (n : Nat) : CallFn := callBy P (evC P n)
end Go.Ae
