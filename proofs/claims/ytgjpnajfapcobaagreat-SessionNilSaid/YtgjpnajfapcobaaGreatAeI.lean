/- A list of operations of the evaluator, calls included, stands for the machine's, where the callee's answers do. -/
import Derived.Test.YtgjpnajfapcobaaGreatAeH
import Derived.LoopN
import Derived.Orders
set_option autoImplicit false
set_option linter.unusedVariables false
set_option linter.unusedSimpArgs false
namespace Go.Ae

/-! ### 21. Calls -/
structure St where
  t : List Value
  H : Heap

inductive Ex where
  | normal
  | exit (id : Nat)
  | ret

def Ex.is : Ex → Exit → Prop
  | .normal, .normal => True
  | .exit i, .exit j => i = j
  | .ret, .ret => True
  | _, _ => False

def aRecv (P : Program) (H : Heap) (t : TypeId) (v : Value) (pr : Bool) : Option Value :=
  match P.underlying t with
  | some (.pointer e) =>
    if pr = true then some v else
    match v with
    | .pointer (some a) => aLoad P H e (.pointer (some a))
    | _ => none
  | some _ => if pr = true then none else some v
  | none => none
def aMethod (P : Program) (H : Heap) (t : TypeId) (v : Value) (name : String) : Option (FuncId × Value) :=
  match P.info? t with
  | some i =>
    match i.methods.find? (·.name == name) with
    | some m =>
      if m.path.isEmpty = true then
        match m.func with
        | some (f, pr) => (aRecv P H t v pr).map (f, ·)
        | none => none
      else none
    | none => none
  | none => none

theorem run_wrapchk {P : Program} (w : World) (a : Array TypeId) (t : TypeId) (x : Addr) (s m : ByteArray) :
    (Builtin.ssaWrapNilChk_ a t #[.pointer (some x), .string s, .string m]).run P w = .ok (.pointer (some x)) w := rfl
theorem aRecv_sound {P : Program} {μ : Mu} {H : Heap} {w : World} (h : Rel μ H w) {t : TypeId} {v v' r : Value} {pr : Bool} {wr : Option String} (hv : VR μ v v') (he : aRecv P H t v pr = some r) :
    ∃ r', (receiverAt t (.val v') pr wr).run P w = .ok r' w ∧ VR μ r r' := by
  unfold aRecv at he
  split at he
  · rename_i e ht
    split at he
    · rename_i hp
      subst hp
      cases he
      exact ⟨v', by simp only [receiverAt, Sem.run_bind, run_underlying ht, Result.andThen_ok, Place.get, Sem.run_pure], hv⟩
    · rename_i hp
      obtain rfl : pr = false := by simpa using hp
      split at he
      · rename_i a
        obtain ⟨r', q1, q2⟩ := aLoad_sound h hv he
        refine ⟨r', ?_, q2⟩
        obtain ⟨b, sh, sz, hm, rfl, hs⟩ := hv.inv_ptr
        simp only [Instr.loadAt, Instr.sureAddr, Sem.run_bind, Sem.run_pure, Result.andThen_ok] at q1
        cases wr with
        | none => simp only [receiverAt, Sem.run_bind, run_underlying ht, Result.andThen_ok, Place.get, Sem.run_pure, asAddr, q1]
        | some n => simp only [receiverAt, Sem.run_bind, run_underlying ht, Result.andThen_ok, Place.get, Sem.run_pure, strVal, run_wrapchk, asAddr, q1]
      · cases he
  · rename_i d hd ht
    split at he
    · cases he
    · rename_i hp
      obtain rfl : pr = false := by simpa using hp
      cases he
      refine ⟨v', ?_, hv⟩
      simp only [receiverAt, Sem.run_bind, run_underlying ht, Result.andThen_ok, Place.get, Sem.run_pure]
  · cases he

theorem aMethod_sound {P : Program} {μ : Mu} {H : Heap} {w : World} (h : Rel μ H w) {t : TypeId} {v v' r : Value} {name : String} {f : FuncId} (hv : VR μ v v') (he : aMethod P H t v name = some (f, r)) (n : Nat) :
    ∃ r', (method (n + 1) t v' name).run P w = .ok (f, r') w ∧ VR μ r r' := by
  unfold aMethod at he
  split at he
  · rename_i i hi
    split at he
    · rename_i m hm
      split at he
      · rename_i hp
        split at he
        · rename_i g pr hf
          obtain ⟨x, h1, h2⟩ := Option.map_eq_some_iff.1 he
          cases h2
          obtain ⟨r', q1, q2⟩ := aRecv_sound (wr := if m.path.isEmpty then some ((name.splitOn ".").getLastD name) else none) h hv h1
          have hpl : m.path.toList = [] := by simpa using hp
          refine ⟨r', ?_, q2⟩
          simp only [method, Sem.run_bind, typeInfo, run_program, Result.andThen_ok, hi, Sem.run_pure, hm, hpl, follow, hf, q1]
        · cases he
      · cases he
    · cases he
  · cases he

def aCallee (P : Program) (H : Heap) (e : Operand → Option Value) (c : Call) : Option (FuncId × List Value) :=
  match c.callee with
  | .value x =>
    match e x, evL e c.args.toList with
    | some (.func (.func f) first captured), some vs => some (f, first.toList ++ vs ++ captured.toList)
    | _, _ => none
  | .invoke x name =>
    match e x, evL e c.args.toList with
    | some (.iface t v), some vs => (aMethod P H t v name).map fun p => (p.1, p.2 :: vs)
    | _, _ => none
  | .builtin _ => none

/-- A function with a body of Go text. -/
def bodyOf (P : Program) (f : FuncId) : Option (Func × Code) :=
  match P.funcs[f]? with
  | some fn =>
    match fn.body with
    | some c => if (fn.name == "runtime.NumGoroutine") = true then none else some (fn, c)
    | none => none
  | none => none
theorem bodyOf_spec {P : Program} {f : FuncId} {fn : Func} {c : Code} (h : bodyOf P f = some (fn, c)) : P.funcs[f]? = some fn ∧ fn.body = some c ∧ (fn.name == "runtime.NumGoroutine") = false := by
  unfold bodyOf at h
  split at h
  · rename_i fn' hf
    split at h
    · rename_i c' hb
      split at h
      · cases h
      · rename_i hn
        cases h
        exact ⟨hf, hb, by simpa using hn⟩
    · cases h
  · cases h
theorem run_callFunc {P : Program} {f : FuncId} {fn : Func} {c : Code} (h : bodyOf P f = some (fn, c)) (args : Array Value) (w : World) : (callFunc f args).run P w = .ok (.enter f args) w := by
  obtain ⟨h1, h2, h3⟩ := bodyOf_spec h
  simp only [callFunc, Sem.run_bind, run_program, Result.andThen_ok, h1, h3, h2, Option.isNone_some, Bool.false_eq_true, if_false, Sem.run_pure]

theorem aCallee_sound {P : Program} {μ : Mu} {H : Heap} {w : World} (h : Rel μ H w) {e : Operand → Option Value} {ρ : Operand → Value} {c : Call} {ty : TypeId} {f : FuncId} {vs : List Value} {fn : Func} {cd : Code}
    (hρ : ∀ x ∈ c.operands.toList, ∀ v, e x = some v → VR μ v (ρ x)) (he : aCallee P H e c = some (f, vs)) (hb : bodyOf P f = some (fn, cd)) :
    ∃ vs' : List Value, (do let d ← resolve ρ c ty; invoke d.target d.args : Sem Next).run P w = .ok (.enter f vs'.toArray) w ∧ VRs μ vs vs' := by
  unfold aCallee at he
  split at he
  · rename_i x hc
    split at he
    · rename_i g first captured us hx hus
      cases he
      have hv := hρ x (by simp [Call.operands, hc]) _ hx
      obtain ⟨x', y', hq, hx', hy'⟩ := hv.inv_func
      have ha := evL_sound c.args.toList us (fun y hy => hρ y (by simp only [Call.operands, Array.toList_append, List.mem_append]; exact .inr hy)) hus
      refine ⟨x'.toList ++ c.args.toList.map ρ ++ y'.toList, ?_, (hx'.append ha).append hy'⟩
      simp only [resolve, hc, hq, Deferred.ofValue, Sem.run_bind, Sem.run_pure, Result.andThen_ok, invoke]
      rw [run_callFunc hb]
      congr 3
      apply Array.ext'
      simp
    · cases he
  · rename_i x name hc
    split at he
    · rename_i t v us hx hus
      obtain ⟨p, h1, h2⟩ := Option.map_eq_some_iff.1 he
      cases h2
      have hv := hρ x (by simp [Call.operands, hc]) _ hx
      obtain ⟨v', hq, hv'⟩ := hv.inv_iface
      have ha := evL_sound c.args.toList us (fun y hy => hρ y (by simp only [Call.operands, Array.toList_append, List.mem_append]; exact .inr hy)) hus
      obtain ⟨r', q1, q2⟩ := aMethod_sound (r := p.2) (f := p.1) h hv' (by rw [h1]) (P.types.size + 99)
      refine ⟨r' :: c.args.toList.map ρ, ?_, .cons _ _ _ _ q2 ha⟩
      have hd : P.types.size + Made.depth = P.types.size + 99 + 1 := by unfold Made.depth; omega
      have hex : (#[Value.iface t v'] ++ c.args.map ρ).extract 1 (#[Value.iface t v'] ++ c.args.map ρ).size = c.args.map ρ := by
        apply Array.ext'
        simp
        rw [List.take_of_length_le (by simp)]
      have harr : #[r'] ++ c.args.map ρ = (r' :: c.args.toList.map ρ).toArray := by
        apply Array.ext'
        simp
      have h0 : (#[Value.iface t v'] ++ c.args.map ρ)[0]? = some (.iface t v') := by
        rw [Array.getElem?_append_left (by simp)]; rfl
      simp only [resolve, hc, hq, Sem.run_bind, Sem.run_pure, Result.andThen_ok, invoke, h0, callMethod, run_program, hd, q1, hex, run_callFunc hb, harr]
    · cases he
  · cases he

/-! ### 22. Regions in their own order -/
abbrev CallFn := FuncId → List Value → Heap → Option (Value × Heap)
def putT (t : List Value) (d : Option Tmp) (v : Value) : List Value :=
  match d with
  | some d => t.set d v
  | none => t
def yieldedL (ops : Array Oper) (t : List Value) (j : Nat) : Option Bool :=
  match ((ops[j]?).bind (·.dst)).bind (t[·]?) with
  | some (.bool b) => some b
  | _ => none
def stepOp (call : CallFn) (P : Program) (e : Operand → Option Value) (H : Heap) (o : Oper) : Option (Value × Heap) :=
  match o.op with
  | .call c =>
    match c.callee with
    | .builtin _ => aop P e H o.op
    | _ =>
      match aCallee P H e c with
      | some (f, vs) => call f vs H
      | none => none
  | op => aop P e H op
def runOps (call : CallFn) (P : Program) (ops : Array Oper) : List Nat → St → Option St
  | [], s => some s
  | i :: l, s =>
    match ops[i]? with
    | none => none
    | some o =>
      if Region.wanted o (yieldedL ops s.t) = true then
        match stepOp call P (evO s.t) s.H o with
        | some (v, H') => runOps call P ops l ⟨putT s.t o.dst v, H'⟩
        | none => none
      else runOps call P ops l ⟨putT s.t o.dst undef, s.H⟩

/-- What is known of the calls. -/
def CallOk (P : Program) (call : CallFn) : Prop :=
  ∀ f vs H v H', call f vs H = some (v, H') → (∃ fn c, bodyOf P f = some (fn, c)) ∧ ∀ μ w vs', Rel μ H w → VRs μ vs vs' →
    Calls P f vs'.toArray w fun e w' => ∃ v' μ', e = .returned v' ∧ VR μ' v v' ∧ Rel μ' H' w' ∧ Step μ H w μ' H' w'

theorem VRs.getD {μ : Mu} {l l' : List Value} (h : VRs μ l l') (i : Nat) : VR μ (l.getD i undef) (l'.getD i undef) := by
  rw [List.getD_eq_getElem?_getD, List.getD_eq_getElem?_getD]
  cases e : l[i]? with
  | none =>
    have : l'[i]? = none := by
      rw [List.getElem?_eq_none_iff] at e ⊢
      rw [← h.length]; exact e
    rw [this]; exact VR.undef μ
  | some v =>
    obtain ⟨v', h1, h2⟩ := h.get i v e
    rw [h1]; exact h2

theorem evO_sound {μ : Mu} {t : List Value} {a : Act} (h : VRs μ t a.tmps.toList) (x : Operand) (v : Value) (he : evO t x = some v) : VR μ v (a.eval x) := by
  cases x with
  | tmp i =>
    simp only [evO, Option.some.injEq] at he
    subst he
    have := h.getD i
    have e : a.tmps.toList.getD i undef = a.tmps.getD i undef := by simp [List.getD_eq_getElem?_getD]
    rw [e] at this
    exact this
  | const c =>
    simp only [evO] at he
    split at he
    · rename_i hp; cases he; exact pureV_VR μ 4 _ hp
    · cases he
  | global g => simp [evO] at he
  | func f =>
    simp only [evO, Option.some.injEq] at he
    subst he
    exact .func (.func f) [] [] [] [] .nil .nil

theorem yieldedL_sound {μ : Mu} {ops : Array Oper} {t : List Value} {a : Act} (h : VRs μ t a.tmps.toList) (j : Nat) : yielded ops a.tmps j = yieldedL ops t j := by
  unfold yielded yieldedL
  cases hd : (ops[j]?).bind (·.dst) with
  | none => rfl
  | some d =>
    simp only [Option.bind_some]
    cases e : t[d]? with
    | none =>
      have : a.tmps[d]? = none := by
        have hl := h.length
        rw [List.getElem?_eq_none_iff] at e
        rw [Array.getElem?_eq_none_iff]
        simp only [Array.length_toList] at hl
        omega
      rw [this]
    | some v =>
      obtain ⟨v', h1, h2⟩ := h.get d v e
      rw [Array.getElem?_toList] at h1
      rw [h1]
      cases h2 <;> first
        | rfl
        | (rename_i p1 p2
           cases v' <;> first | rfl | exact absurd rfl (p2 _))

theorem putT_sound {μ : Mu} {t : List Value} {a : Act} (h : VRs μ t a.tmps.toList) {v v' : Value} (hv : VR μ v v') (d : Option Tmp) : VRs μ (putT t d v) (a.put d v').tmps.toList := by
  cases d with
  | none => exact h
  | some d => simpa [putT, Act.put] using h.set hv d

/-- One operation of a region, whatever comes behind. -/
theorem stepOp_sound {P : Program} {call : CallFn} (hcall : CallOk P call) {μ : Mu} {H H' : Heap} {w : World} (h : Rel μ H w) {e : Operand → Option Value} {a : Act} {o : Oper} {v : Value}
    (hρ : ∀ x ∈ o.op.operands.toList, ∀ v, e x = some v → VR μ v (a.eval x)) (he : stepOp call P e H o = some (v, H')) {K : Act → World → Prop} {Q : Exit → Act → World → Prop}
    (hK : ∀ v' w' μ', VR μ' v v' → Rel μ' H' w' → Step μ H w μ' H' w' → K (a.put o.dst v') w') : o.wp P a w K Q := by
  have basic : aop P e H o.op = some (v, H') → o.wp P a w K Q := by
    intro hb
    obtain ⟨r, v', w', μ', h1, h2, h3, h4, h5⟩ := aop_sound h hρ hb
    unfold Oper.wp
    rw [h1]
    rcases h2 with rfl | ⟨rfl, rfl⟩
    · exact hK v' w' μ' h3 h4 h5
    · exact hK undef w' μ' h3 h4 h5
  have called : ∀ c, o.op = .call c → (∀ b, c.callee ≠ .builtin b) → (match aCallee P H e c with
      | some (f, vs) => call f vs H
      | none => none) = some (v, H') → o.wp P a w K Q := by
    intro c hc hnb hm
    split at hm
    · rename_i f vs hf
      obtain ⟨⟨fn, cd, hb⟩, hcl⟩ := hcall f vs H v H' hm
      obtain ⟨vs', q1, q2⟩ := aCallee_sound (ty := o.type) h (ρ := a.eval) (fun x hx => hρ x (by rw [hc]; exact hx)) hf hb
      have := hcl μ w vs' h q2
      have hx : (execOp a.eval o).run P w = .ok (.enter f vs'.toArray) w := by
        unfold execOp
        simp only [hc]
        exact q1
      unfold Oper.wp
      rw [hx]
      refine this.mono ?_
      rintro en w' ⟨v', μ', rfl, p1, p2, p3⟩
      exact hK v' w' μ' p1 p2 p3
    · cases hm
  unfold stepOp at he
  split at he
  · rename_i c hc
    split at he
    · exact basic he
    · rename_i hnb
      exact called c hc (fun b hb => hnb b hb) he
  · exact basic he

theorem runOps_sound {P : Program} {call : CallFn} (hcall : CallOk P call) {ops : Array Oper} : ∀ (l : List Nat) (s s' : St) (μ : Mu) (a : Act) (w : World) (Q : Exit → Act → World → Prop), runOps call P ops l s = some s' → Rel μ s.H w → VRs μ s.t a.tmps.toList →
    (∀ a' w' μ', VRs μ' s'.t a'.tmps.toList → a'.defers = a.defers → Rel μ' s'.H w' → Step μ s.H w μ' s'.H w' → Q .normal a' w') → wpOps P ops Q l a w
  | [], s, s', μ, a, w, Q, he, hr, ht, hQ => by
    simp only [runOps, Option.some.injEq] at he
    subst he
    exact hQ a w μ ht rfl hr (Step.refl _ _ _)
  | i :: l, s, s', μ, a, w, Q, he, hr, ht, hQ => by
    simp only [runOps] at he
    unfold wpOps
    split at he
    · cases he
    · rename_i o ho
      simp only [ho]
      have hy : yielded ops a.tmps = yieldedL ops s.t := funext fun j => yieldedL_sound ht j
      rw [hy]
      split at he
      · rename_i hw
        rw [if_pos hw]
        split at he
        · rename_i v H' hs
          refine .inl (stepOp_sound hcall hr (fun x _ => evO_sound ht x) hs fun v' w' μ' h1 h2 h3 => ?_)
          exact runOps_sound hcall l _ s' μ' _ w' Q he h2 (putT_sound (VRs.mono h3.mu ht) h1 o.dst) fun a' w'' μ'' p1 p2 p3 p4 =>
            hQ a' w'' μ'' p1 (p2.trans (by cases o.dst <;> rfl)) p3 (h3.trans p4)
        · cases he
      · rename_i hw
        rw [if_neg hw]
        exact runOps_sound hcall l _ s' μ _ w Q he hr (putT_sound ht (VR.undef μ) o.dst) fun a' w'' μ'' p1 p2 p3 p4 =>
          hQ a' w'' μ'' p1 (p2.trans (by cases o.dst <;> rfl)) p3 p4
end Go.Ae
