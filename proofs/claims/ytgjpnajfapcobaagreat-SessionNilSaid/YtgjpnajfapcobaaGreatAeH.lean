/- One operation of the evaluator stands for one of the machine, wherever the evaluator answers. -/
import Derived.Test.YtgjpnajfapcobaaGreatAeG
set_option autoImplicit false
set_option linter.unusedVariables false
set_option linter.unusedSimpArgs false
namespace Go.Ae

/-! ### 20. One operation that calls nothing -/
def evO (t : List Value) : Operand → Option Value
  | .tmp i => some (t.getD i undef)
  | .const v => if pureV 4 v = true then some v else none
  | .global _ => none
  | .func f => some (.func (.func f) #[] #[])
def evL (e : Operand → Option Value) : List Operand → Option (List Value)
  | [] => some []
  | x :: l =>
    match e x, evL e l with
    | some v, some vs => some (v :: vs)
    | _, _ => none
def evP (e : Operand → Option Value) : List (Nat × Operand) → Option (List (Nat × Value))
  | [] => some []
  | (i, x) :: l =>
    match e x, evP e l with
    | some v, some vs => some ((i, v) :: vs)
    | _, _ => none
def evM (e : Operand → Option Value) : Option Operand → Option (Option Value)
  | none => some none
  | some x => (e x).map some

def aBuiltin (P : Program) (H : Heap) (b : Builtin) (ts : List TypeId) (vs : List Value) : Option (Value × Heap) :=
  match b, vs with
  | .append, [s, x] => aAppend P H ts s x
  | .copy, [d, s] => aCopy P H ts d s
  | .len, [x] => (aLen P H ts x).map (·, H)
  | .cap, [x] => (aCap P ts x).map (·, H)
  | .min, [.int k x, .int _ y] => some (.int k (if y < x then y else x), H)
  | .max, [.int k x, .int _ y] => some (.int k (if y > x then y else x), H)
  | _, _ => none

def aop (P : Program) (e : Operand → Option Value) (H : Heap) : Op → Option (Value × Heap)
  | .move x => (e x).map (·, H)
  | .assign x => (e x).map (·, H)
  | .pick c a b =>
    match e c, e a, e b with
    | some (.bool t), some u, some v => some (if t then u else v, H)
    | _, _, _ => none
  | .alloc t =>
    match zeroOf P t with
    | some z => some (.pointer (some ⟨H.n, 0, none⟩), H.push (.row true z.cells.toList))
    | none => none
  | .box _ x =>
    match e x with
    | some v => some (.pointer (some ⟨H.n, 0, none⟩), H.push (.row true v.cells.toList))
    | none => none
  | .build t ps =>
    match evP e ps.toList with
    | some vs => (aBuild P t vs).map (·, H)
    | none => none
  | .buildSlice t len ps =>
    match evP e ps.toList with
    | some vs => aBuildSlice P H t len vs
    | none => none
  | .load t x =>
    match e x with
    | some v => (aLoad P H t v).map (·, H)
    | none => none
  | .store t x y =>
    match e x, e y with
    | some u, some v => (aStore P H t u v).map (undef, ·)
    | _, _ => none
  | .nilCheck x =>
    match e x with
    | some v => (aNil v).map (·, H)
    | none => none
  | .binOp op t x y _ =>
    match e x, e y with
    | some u, some v => (aBin P op t x y u v).map (·, H)
    | _, _ => none
  | .unOp op _ x =>
    match e x with
    | some v => (aUn op v).map (·, H)
    | none => none
  | .convert s d x =>
    match e x with
    | some v => aConvert P H s d v
    | none => none
  | .makeInterface t x =>
    match e x, P.underlying t with
    | some v, some d => if isIface d = true then none else some (.iface t v, H)
    | _, _ => none
  | .makeFunc fn xs ys =>
    match evL e xs.toList, evL e ys.toList with
    | some us, some vs => some (.func fn ⟨us⟩ ⟨vs⟩, H)
    | _, _ => none
  | .makeMap _ none => some (.map (some H.n), H.push (.map []))
  | .makeSlice t l c =>
    match e l, e c with
    | some u, some v => aMake P H t u v
    | _, _ => none
  | .slice t x lo hi mx =>
    match e x, evM e lo, evM e hi, evM e mx with
    | some v, some a, some b, some c => (aSlice P H t v a b c).map (·, H)
    | _, _, _, _ => none
  | .fieldAddr t x f =>
    match e x with
    | some v => (aFieldAddr P t v f).map (·, H)
    | none => none
  | .field t x f =>
    match e x with
    | some v => (aField P t v f).map (·, H)
    | none => none
  | .indexAddr t x y =>
    match e x, e y with
    | some u, some v => (aIndexAddr P t u v).map (·, H)
    | _, _ => none
  | .index t x y =>
    match e x, e y with
    | some u, some v => (aIndex P t u v).map (·, H)
    | _, _ => none
  | .lookup t x y ok =>
    match e x, e y with
    | some u, some v => (aLookup P H t u v ok).map (·, H)
    | _, _ => none
  | .mapUpdate t m k x =>
    match e m, e k, e x with
    | some a, some b, some c => (aMapUpdate P H t a b c).map (undef, ·)
    | _, _, _ => none
  | .typeAssert x xt t ok =>
    match e x with
    | some v => (aAssert P v xt t ok).map (·, H)
    | none => none
  | .extract x i =>
    match e x with
    | some (.tuple vs) => (vs.toList[i]?).map (·, H)
    | _ => none
  | .call { callee := .builtin b, args := as, argTypes := ts } =>
    match evL e as.toList with
    | some vs => aBuiltin P H b ts.toList vs
    | none => none
  | _ => none

def OutN (P : Program) (s : Sem Next) (μ : Mu) (H : Heap) (w : World) (v : Value) (H' : Heap) : Prop :=
  ∃ r v' w' μ', s.run P w = .ok r w' ∧ (r = .value v' ∨ r = .skip ∧ v' = undef) ∧ VR μ' v v' ∧ Rel μ' H' w' ∧ Step μ H w μ' H' w'

theorem OutN.of {P : Program} {s : Sem Value} {μ : Mu} {H H' : Heap} {w : World} {v : Value} (h : OutV P s μ H w v H') : OutN P (do pure (.value (← s))) μ H w v H' := by
  obtain ⟨v', w', μ', h1, h2, h3, h4⟩ := h
  exact ⟨.value v', v', w', μ', by simp only [Sem.run_bind, h1, Result.andThen_ok, Sem.run_pure], .inl rfl, h2, h3, h4⟩
theorem OutN.same {P : Program} {s : Sem Value} {μ : Mu} {H : Heap} {w : World} {v : Value} (hr : Rel μ H w) (h : ∃ v', s.run P w = .ok v' w ∧ VR μ v v') : OutN P (do pure (.value (← s))) μ H w v H := by
  obtain ⟨v', h1, h2⟩ := h
  exact .of (OutV.pure hr h1 h2)
theorem OutN.val {P : Program} {μ : Mu} {H : Heap} {w : World} {v v' : Value} (hr : Rel μ H w) (h : VR μ v v') : OutN P (pure (.value v')) μ H w v H :=
  ⟨.value v', v', w, μ, rfl, .inl rfl, h, hr, Step.refl _ _ _⟩
theorem OutN.unit {P : Program} {s : Sem Unit} {μ : Mu} {H H' : Heap} {w : World} (h : ∃ w', s.run P w = .ok () w' ∧ Rel μ H' w' ∧ Step μ H w μ H' w') : OutN P (do s; pure .skip) μ H w undef H' := by
  obtain ⟨w', h1, h2, h3⟩ := h
  exact ⟨.skip, undef, w', μ, by simp only [Sem.run_bind, h1, Result.andThen_ok, Sem.run_pure], .inr ⟨rfl, rfl⟩, VR.undef _, h2, h3⟩

section
variable {μ : Mu} {e : Operand → Option Value} {ρ : Operand → Value}
theorem evL_sound : ∀ (l : List Operand) (vs : List Value), (∀ x ∈ l, ∀ v, e x = some v → VR μ v (ρ x)) → evL e l = some vs → VRs μ vs (l.map ρ)
  | [], vs, _, h => by simp only [evL, Option.some.injEq] at h; subst h; exact .nil
  | x :: l, vs, he, h => by
    simp only [evL] at h
    split at h
    · rename_i v us h1 h2
      cases h
      exact .cons _ _ _ _ (he x (by simp) v h1) (evL_sound l us (fun y hy => he y (by simp [hy])) h2)
    · cases h
theorem evP_sound : ∀ (l : List (Nat × Operand)) (vs : List (Nat × Value)), (∀ x ∈ l.map (·.2), ∀ v, e x = some v → VR μ v (ρ x)) → evP e l = some vs → VRp μ vs (l.map fun p => (p.1, ρ p.2))
  | [], vs, _, h => by simp only [evP, Option.some.injEq] at h; subst h; trivial
  | (i, x) :: l, vs, he, h => by
    simp only [evP] at h
    split at h
    · rename_i v us h1 h2
      cases h
      exact ⟨rfl, he x (by simp) v h1, evP_sound l us (fun y hy => he y (by simp only [List.map_cons, List.mem_cons]; exact .inr hy)) h2⟩
    · cases h
theorem evM_sound {x : Option Operand} {v : Option Value} (he : ∀ y ∈ x.toArray.toList, ∀ v, e y = some v → VR μ v (ρ y)) (h : evM e x = some v) : VRo μ v (x.map ρ) := by
  cases x with
  | none => simp only [evM, Option.some.injEq] at h; subst h; trivial
  | some y =>
    simp only [evM] at h
    obtain ⟨u, h1, rfl⟩ := Option.map_eq_some_iff.1 h
    exact he y (by simp) u h1
end

theorem aNil_sound {P : Program} {μ : Mu} {H : Heap} {w : World} (hr : Rel μ H w) {ρ : Operand → Value} {o : Oper} {x : Operand} (ho : o.op = .nilCheck x) {v u : Value} (hx : VR μ v (ρ x)) (he : aNil v = some u) :
    ∃ v', (execOp ρ o).run P w = .ok (.value v') w ∧ VR μ u v' := by
  obtain ⟨dst, op, ty, pos, after, guard⟩ := o
  simp only at ho
  subst ho
  refine ⟨ρ x, ?_⟩
  unfold aNil at he
  split at he
  · cases he
    obtain ⟨b, sh, sz, hm, hq, hs⟩ := hx.inv_ptr
    refine ⟨?_, hx⟩
    simp only [execOp]
    rw [hq]; rfl
  · cases he
    obtain ⟨x', y', hq, _⟩ := hx.inv_func
    refine ⟨?_, hx⟩
    simp only [execOp]
    rw [hq]; rfl
  · cases he
    obtain ⟨y', hq, _⟩ := hx.inv_iface
    refine ⟨?_, hx⟩
    simp only [execOp]
    rw [hq]; rfl
  · cases he

theorem aBuiltin_sound {P : Program} {μ : Mu} {H H' : Heap} {w : World} (h : Rel μ H w) {b : Builtin} {ts : List TypeId} {ty : TypeId} {cb : Array Bool} {vs : List Value} {vs' : Array Value} {v : Value} (hv : VRs μ vs vs'.toList)
    (he : aBuiltin P H b ts vs = some (v, H')) : OutN P (builtin b ⟨ts⟩ ty cb vs') μ H w v H' := by
  obtain ⟨vs'⟩ := vs'
  simp only at hv
  unfold aBuiltin at he
  split at he
  · cases hv with
    | cons _ s' _ _ hs hv => cases hv with
      | cons _ x' _ _ hx hv => cases hv; exact .of (aAppend_sound h hs hx he)
  · cases hv with
    | cons _ s' _ _ hs hv => cases hv with
      | cons _ x' _ _ hx hv => cases hv; exact .of (aCopy_sound h hs hx he)
  · cases hv with
    | cons _ s' _ _ hs hv =>
      cases hv
      obtain ⟨u, h1, h2⟩ := Option.map_eq_some_iff.1 he
      cases h2
      exact .same h (aLen_sound h hs h1)
  · cases hv with
    | cons _ s' _ _ hs hv =>
      cases hv
      obtain ⟨u, h1, h2⟩ := Option.map_eq_some_iff.1 he
      cases h2
      exact .same h (aCap_sound hs h1)
  · cases hv with
    | cons _ s' _ _ hs hv => cases hv with
      | cons _ x' _ _ hx hv =>
        cases hv
        rw [hs.inv_int, hx.inv_int]
        cases he
        exact .same h ⟨_, by simp [Builtin.min_, Builtin.min2], .int _ _⟩
  · cases hv with
    | cons _ s' _ _ hs hv => cases hv with
      | cons _ x' _ _ hx hv =>
        cases hv
        rw [hs.inv_int, hx.inv_int]
        cases he
        exact .same h ⟨_, by simp [Builtin.max_, Builtin.max2], .int _ _⟩
  · cases he

set_option maxHeartbeats 4000000 in
theorem aop_sound {P : Program} {μ : Mu} {H H' : Heap} {w : World} (h : Rel μ H w) {e : Operand → Option Value} {ρ : Operand → Value} {o : Oper} {v : Value}
    (hρ : ∀ x ∈ o.op.operands.toList, ∀ v, e x = some v → VR μ v (ρ x)) (he : aop P e H o.op = some (v, H')) : OutN P (execOp ρ o) μ H w v H' := by
  obtain ⟨dst, op, ty, pos, after, guard⟩ := o
  simp only at he hρ ⊢
  unfold aop at he
  split at he
  · -- move
    rename_i x
    obtain ⟨u, h1, h2⟩ := Option.map_eq_some_iff.1 he; cases h2
    exact .val h (hρ x (by simp [Op.operands]) _ h1)
  · rename_i x
    obtain ⟨u, h1, h2⟩ := Option.map_eq_some_iff.1 he; cases h2
    exact .val h (hρ x (by simp [Op.operands]) _ h1)
  · -- pick
    rename_i c a b
    split at he
    · rename_i t u u2 h1 h2 h3
      cases he
      have hc := (hρ c (by simp [Op.operands]) _ h1).inv_bool
      have ha := hρ a (by simp [Op.operands]) _ h2
      have hb := hρ b (by simp [Op.operands]) _ h3
      refine ⟨.value (if t then ρ a else ρ b), _, w, μ, ?_, .inl rfl, ?_, h, Step.refl _ _ _⟩
      · simp only [execOp, hc, asBool, Sem.run_bind, Sem.run_pure, Result.andThen_ok]
      · cases t <;> simp_all
    · cases he
  · -- alloc
    rename_i t
    split at he
    · rename_i z hz
      cases he
      have := new_row_sound (P := P) h (t := t) (zeroOf_VR hz μ)
      obtain ⟨v', w', μ', q1, q2⟩ := this
      refine .of ⟨v', w', μ', ?_, q2⟩
      simp only [Instr.alloc, Sem.run_bind, run_zeroValue hz, Result.andThen_ok]
      simpa using q1
    · cases he
  · -- box
    rename_i t x
    split at he
    · rename_i u hu
      cases he
      have hb : OutV P (Instr.box t (ρ x)) μ H w _ _ := new_row_sound (P := P) h (t := t) (hρ x (by simp [Op.operands]) _ hu)
      exact .of hb
    · cases he
  · -- build
    rename_i t ps
    split at he
    · rename_i us hus
      obtain ⟨u, h1, h2⟩ := Option.map_eq_some_iff.1 he; cases h2
      have hp := evP_sound ps.toList us (fun x hx => hρ x (by simpa [Op.operands] using hx)) hus
      exact .same h (aBuild_sound (ps' := ps.map fun p => (p.1, ρ p.2)) (by simpa using hp) h1)
    · cases he
  · -- buildSlice
    rename_i t len ps
    split at he
    · rename_i us hus
      have hp := evP_sound ps.toList us (fun x hx => hρ x (by simpa [Op.operands] using hx)) hus
      exact .of (aBuildSlice_sound h (ps' := ps.map fun p => (p.1, ρ p.2)) (by simpa using hp) he)
    · cases he
  · -- load
    rename_i t x
    split at he
    · rename_i u hu
      obtain ⟨r, h1, h2⟩ := Option.map_eq_some_iff.1 he; cases h2
      exact .same h (aLoad_sound h (hρ x (by simp [Op.operands]) _ hu) h1)
    · cases he
  · -- store
    rename_i t x y
    split at he
    · rename_i u u2 hu hu2
      obtain ⟨r, h1, h2⟩ := Option.map_eq_some_iff.1 he; cases h2
      exact .unit (aStore_sound h (hρ x (by simp [Op.operands]) _ hu) (hρ y (by simp [Op.operands]) _ hu2) h1)
    · cases he
  · -- nilCheck
    rename_i x
    split at he
    · rename_i u hu
      obtain ⟨r, h1, h2⟩ := Option.map_eq_some_iff.1 he; cases h2
      obtain ⟨v', q1, q2⟩ := aNil_sound (P := P) h (ρ := ρ) (o := ⟨dst, .nilCheck x, ty, pos, after, guard⟩) (x := x) rfl (hρ x (by simp [Op.operands]) _ hu) h1
      exact ⟨.value v', v', w, μ, q1, .inl rfl, q2, h, Step.refl _ _ _⟩
    · cases he
  · -- binOp
    rename_i op t x y yt
    split at he
    · rename_i u u2 hu hu2
      obtain ⟨r, h1, h2⟩ := Option.map_eq_some_iff.1 he; cases h2
      exact .same h (aBin_sound (hρ x (by simp [Op.operands]) _ hu) (hρ y (by simp [Op.operands]) _ hu2) h1)
    · cases he
  · -- unOp
    rename_i op t x
    split at he
    · rename_i u hu
      obtain ⟨r, h1, h2⟩ := Option.map_eq_some_iff.1 he; cases h2
      exact .same h (aUn_sound (hρ x (by simp [Op.operands]) _ hu) h1)
    · cases he
  · -- convert
    rename_i s d x
    split at he
    · rename_i u hu
      exact .of (aConvert_sound h (hρ x (by simp [Op.operands]) _ hu) he)
    · cases he
  · -- makeInterface
    rename_i t x
    split at he
    · rename_i u d hu hd
      split at he
      · cases he
      · rename_i hni
        cases he
        refine .same h ⟨.iface t (ρ x), ?_, .iface _ _ _ (hρ x (by simp [Op.operands]) _ hu)⟩
        simp only [Instr.makeInterface, Sem.run_bind, run_underlying hd, Result.andThen_ok]
        cases d <;> first | exact absurd rfl hni | rfl
    · cases he
  · -- makeFunc
    rename_i fn xs ys
    split at he
    · rename_i us vs hu hv
      cases he
      have h1 := evL_sound xs.toList us (fun x hx => hρ x (by simp only [Op.operands, Array.toList_append, List.mem_append]; exact .inl hx)) hu
      have h2 := evL_sound ys.toList vs (fun x hx => hρ x (by simp only [Op.operands, Array.toList_append, List.mem_append]; exact .inr hx)) hv
      refine .same h ⟨.func fn (xs.map ρ) (ys.map ρ), rfl, ?_⟩
      have := VR.func (μ := μ) fn us (xs.map ρ).toList vs (ys.map ρ).toList (by simpa using h1) (by simpa using h2)
      exact this
    · cases he
  · -- makeMap
    rename_i t
    cases he
    obtain ⟨q1, q2⟩ := h.alloc_map
    refine .of ⟨.map (some w.heap.size), _, _, ?_, .map _ _ _ _ (Mu.put_same _ _ _), q1, q2⟩
    simp [Instr.makeMap]
  · -- makeSlice
    rename_i t l c
    split at he
    · rename_i u u2 hu hu2
      exact .of (aMake_sound h (hρ l (by simp [Op.operands]) _ hu) (hρ c (by simp [Op.operands]) _ hu2) he)
    · cases he
  · -- slice
    rename_i t x lo hi mx
    split at he
    · rename_i u a b c hu ha hb hc
      obtain ⟨r, h1, h2⟩ := Option.map_eq_some_iff.1 he; cases h2
      exact .same h (aSlice_sound (hρ x (by simp [Op.operands]) _ hu) (evM_sound (fun y hy => hρ y (by simp only [Op.operands, Array.toList_append, List.mem_append]; exact .inl (.inl (.inr hy)))) ha)
        (evM_sound (fun y hy => hρ y (by simp only [Op.operands, Array.toList_append, List.mem_append]; exact .inl (.inr hy))) hb)
        (evM_sound (fun y hy => hρ y (by simp only [Op.operands, Array.toList_append, List.mem_append]; exact .inr hy)) hc) h1)
    · cases he
  · -- fieldAddr
    rename_i t x f
    split at he
    · rename_i u hu
      obtain ⟨r, h1, h2⟩ := Option.map_eq_some_iff.1 he; cases h2
      exact .same h (aFieldAddr_sound (hρ x (by simp [Op.operands]) _ hu) h1)
    · cases he
  · -- field
    rename_i t x f
    split at he
    · rename_i u hu
      obtain ⟨r, h1, h2⟩ := Option.map_eq_some_iff.1 he; cases h2
      exact .same h (aField_sound (hρ x (by simp [Op.operands]) _ hu) h1)
    · cases he
  · -- indexAddr
    rename_i t x y
    split at he
    · rename_i u u2 hu hu2
      obtain ⟨r, h1, h2⟩ := Option.map_eq_some_iff.1 he; cases h2
      exact .same h (aIndexAddr_sound (hρ x (by simp [Op.operands]) _ hu) (hρ y (by simp [Op.operands]) _ hu2) h1)
    · cases he
  · -- index
    rename_i t x y
    split at he
    · rename_i u u2 hu hu2
      obtain ⟨r, h1, h2⟩ := Option.map_eq_some_iff.1 he; cases h2
      exact .same h (aIndex_sound (hρ x (by simp [Op.operands]) _ hu) (hρ y (by simp [Op.operands]) _ hu2) h1)
    · cases he
  · -- lookup
    rename_i t x y ok
    split at he
    · rename_i u u2 hu hu2
      obtain ⟨r, h1, h2⟩ := Option.map_eq_some_iff.1 he; cases h2
      exact .same h (aLookup_sound h (hρ x (by simp [Op.operands]) _ hu) (hρ y (by simp [Op.operands]) _ hu2) h1)
    · cases he
  · -- mapUpdate
    rename_i t m k x
    split at he
    · rename_i a b c ha hb hc
      obtain ⟨r, h1, h2⟩ := Option.map_eq_some_iff.1 he; cases h2
      exact .unit (aMapUpdate_sound h (hρ m (by simp [Op.operands]) _ ha) (hρ k (by simp [Op.operands]) _ hb) (hρ x (by simp [Op.operands]) _ hc) h1)
    · cases he
  · -- typeAssert
    rename_i x xt t ok
    split at he
    · rename_i u hu
      obtain ⟨r, h1, h2⟩ := Option.map_eq_some_iff.1 he; cases h2
      exact .same h (aAssert_sound (hρ x (by simp [Op.operands]) _ hu) h1)
    · cases he
  · -- extract
    rename_i x i
    split at he
    · rename_i vs hu
      obtain ⟨r, h1, h2⟩ := Option.map_eq_some_iff.1 he; cases h2
      obtain ⟨vs', q1, q2⟩ := (hρ x (by simp [Op.operands]) _ hu).inv_tuple
      obtain ⟨v', q3, q4⟩ := q2.get i v h1
      refine .same h ⟨v', ?_, q4⟩
      have : vs'[i]? = some v' := by simpa using q3
      simp only [Instr.extract, q1, this]
      rfl
    · cases he
  · -- builtins
    rename_i b as ts
    split at he
    · rename_i vs hvs
      have hv := evL_sound as.toList vs (fun x hx => hρ x (by simpa [Op.operands, Call.operands] using hx)) hvs
      exact aBuiltin_sound (P := P) (ty := ty) (cb := _) h (vs' := as.map ρ) (by simpa using hv) he
    · cases he
  · cases he
end Go.Ae
