/- The evaluator is right: where it answers, the machine's call returns that answer, in every order drawn. -/
import Derived.Test.YtgjpnajfapcobaaGreatAeM
import Derived.LoopN
set_option autoImplicit false
set_option linter.unusedVariables false
set_option linter.unusedSimpArgs false
namespace Go.Ae

/-! ### 30. The draw -/
def cnt (n : Nat) (D : Array Bool) : Nat := ((List.range n).filter fun i => !D.getD i false).length
theorem filter_lt {p q : Nat → Bool} : ∀ (l : List Nat), (∀ x ∈ l, p x = true → q x = true) → (∃ x ∈ l, q x = true ∧ p x = false) → (l.filter p).length < (l.filter q).length
  | [], _, h => by obtain ⟨x, hx, _⟩ := h; cases hx
  | y :: l, h1, h2 => by
    have hle : (l.filter p).length ≤ (l.filter q).length := by
      have : ∀ l : List Nat, (∀ x ∈ l, p x = true → q x = true) → (l.filter p).length ≤ (l.filter q).length := by
        intro l
        induction l with
        | nil => intro _; exact Nat.le_refl _
        | cons z l ih =>
          intro h
          have := ih fun x hx => h x (by simp [hx])
          have hz := h z (by simp)
          simp only [List.filter_cons]
          cases e1 : p z <;> cases e2 : q z <;> simp_all <;> omega
      exact this l fun x hx => h1 x (by simp [hx])
    have hy := h1 y (by simp)
    obtain ⟨x, hx, hq, hp⟩ := h2
    rcases List.mem_cons.1 hx with rfl | hx
    · simp only [List.filter_cons, hq, hp, if_true, Bool.false_eq_true, if_false, List.length_cons]
      omega
    · have := filter_lt l (fun x hx => h1 x (by simp [hx])) ⟨x, hx, hq, hp⟩
      simp only [List.filter_cons]
      cases e1 : p y <;> cases e2 : q y <;> simp_all <;> omega
theorem cnt_set {n i : Nat} {D : Array Bool} (hn : i < n) (hi : i < D.size) (hD : D.getD i false = false) : cnt n (D.setIfInBounds i true) < cnt n D := by
  refine filter_lt _ (fun x _ hx => ?_) ⟨i, by simpa using hn, by simp only [hD, Bool.not_false], ?_⟩
  · simp only [Bool.not_eq_true'] at hx ⊢
    exact ((D_set_false hi).1 hx).2
  · simp only [Bool.not_eq_false']
    exact (D_set hi).2 (.inl rfl)

def Cont (call : CallFn) (P : Program) (ops : Array Oper) (f : Nat) (hs : List Nat) (d : Done) (s sF : St) : Prop :=
  ((List.range ops.size).all (isDone d) = true ∧ s = sF) ∨
  ((List.range ops.size).all (isDone d) = false ∧ ∃ h o s2, (List.range ops.size).find? (fun i => !isDone d i && ((ops[i]?).map (readyB d)).getD false) = some h ∧ ops[h]? = some o ∧ execOne call P ops s o = some s2 ∧
    drawGo call P ops (clo ops) f (h :: hs) (d.set h true) s2 = some sF)

theorem drawGo_cont {call : CallFn} {P : Program} {ops : Array Oper} {f : Nat} {hs : List Nat} {d : Done} {s sF : St} (h : drawGo call P ops (clo ops) f hs d s = some sF) :
    ∃ f' d1 s1, lightPass call P ops (List.range ops.size) d s = some (d1, s1) ∧ goodAll P ops (clo ops) hs d1 s1 = true ∧ Cont call P ops f' hs d1 s1 sF := by
  cases f with
  | zero => simp [drawGo] at h
  | succ f =>
    unfold drawGo at h
    split at h
    · cases h
    · rename_i d1 s1 hp
      refine ⟨f, d1, s1, hp, ?_⟩
      split at h
      · rename_i hg
        refine ⟨hg, ?_⟩
        split at h
        · rename_i ha
          cases h
          exact .inl ⟨ha, rfl⟩
        · rename_i ha
          split at h
          · cases h
          · rename_i k hk
            split at h
            · cases h
            · rename_i o ho
              split at h
              · rename_i s2 hs2
                exact .inr ⟨by simpa using ha, k, o, s2, hk, ho, hs2, h⟩
              · cases h
      · cases h

theorem goodAll_at {P : Program} {ops : Array Oper} {hs : List Nat} {d : Done} {s : St} (hg : goodAll P ops (clo ops) hs d s = true) {i : Nat} {o : Oper} (ho : ops[i]? = some o) (hd : isDone d i = true) (hl : lightOp P o.op = true)
    (hn : ∀ h ∈ hs, i ∉ (clo ops).getD h []) : goodB P ops s o = true := by
  unfold goodAll at hg
  simp only [List.all_eq_true, List.mem_range] at hg
  have := hg i (Array.getElem?_eq_some_iff.1 ho).1
  simp only [ho, hd, hl, Bool.not_true, Bool.false_or, Bool.or_eq_true, List.any_eq_true, List.contains_iff_mem] at this
  rcases this with ⟨h, h1, h2⟩ | h
  · exact absurd h2 (hn h h1)
  · exact h

section
variable {P : Program} {call : CallFn} {ops : Array Oper} {μ0 : Mu} {H0 : Heap} {w0 : World} {sF : St} {Q : Exit → Act → World → Prop}

theorem ready_spec {D : Array Bool} (hsz : D.size = ops.size) {i : Nat} (h : i ∈ Region.ready .any ops D) : ∃ o, ops[i]? = some o ∧ D.getD i false = false ∧ i < D.size ∧ ∀ p ∈ preds o, D.getD p false = true := by
  obtain ⟨h1, o, ho, h2⟩ := mem_ready.1 h
  have hi : i < D.size := by rw [hsz]; exact (Array.getElem?_eq_some_iff.1 ho).1
  refine ⟨o, ho, ?_, hi, fun p hp => ?_⟩
  · simp only [Array.getD_eq_getD_getElem?, Array.getElem?_eq_getElem hi, Option.getD_some] at h1 ⊢
    exact h1
  · unfold preds at hp
    simp only [List.mem_map, List.mem_filter] at hp
    obtain ⟨e, ⟨he1, he2⟩, rfl⟩ := hp
    exact h2 e (by simpa using he1) he2

theorem all_of_none_ready (hst : Static P ops) {D : Array Bool} (hsz : D.size = ops.size) (h : Region.ready .any ops D = []) : ∀ i, i < ops.size → D.getD i false = true := by
  intro i
  induction i using Nat.strongRecOn with
  | _ i ih =>
    intro hi
    rw [← Bool.not_eq_false]
    intro hD
    have ho : ops[i]? = some ops[i] := Array.getElem?_eq_getElem hi
    have : i ∈ Region.ready .any ops D := by
      refine mem_ready.2 ⟨?_, _, ho, fun e he hb => ?_⟩
      · have hi' : i < D.size := by omega
        simp only [Array.getD_eq_getD_getElem?, Array.getElem?_eq_getElem hi', Option.getD_some] at hD ⊢
        exact hD
      · have hp : e.on ∈ preds ops[i] := by
          unfold preds
          exact List.mem_map.2 ⟨e, List.mem_filter.2 ⟨by simpa using he, hb⟩, rfl⟩
        have hlt := hst.lt i _ ho _ hp
        exact ih e.on hlt (by omega)
    rw [h] at this; cases this

theorem DInv.final {hs : List Nat} {d : Done} {s : St} {D : Array Bool} {a : Act} {w : World} {μ : Mu} (I : DInv P ops μ0 H0 w0 hs d s D a w μ) (hall : ∀ i, i < ops.size → D.getD i false = true) : VRs μ s.t a.tmps.toList := by
  refine VRs.of_get (by rw [I.tlen]; simp) fun j v v' h1 h2 => ?_
  rcases I.tm j with ⟨i, o, ho, _, hD, _⟩ | h
  · rw [hall i (Array.getElem?_eq_some_iff.1 ho).1] at hD; cases hD
  · rw [List.getD_eq_getElem?_getD, h1] at h
    rw [Array.getElem?_toList] at h2
    rw [Array.getD_eq_getD_getElem?, h2] at h
    exact h

theorem draw_any (hcall : CallOk P call) (hst : Static P ops) : ∀ (m f : Nat) (hs : List Nat) (d : Done) (s : St) (D : Array Bool) (a : Act) (w : World) (μ : Mu), DInv P ops μ0 H0 w0 hs d s D a w μ →
    goodAll P ops (clo ops) hs d s = true → (∀ i o, ops[i]? = some o → lightOp P o.op = true → isDone d i = false → ∃ p ∈ preds o, isDone d p = false) → Cont call P ops f hs d s sF → cnt ops.size D ≤ m →
    (∀ a' w' μ', VRs μ' sF.t a'.tmps.toList → a'.defers = a.defers → Rel μ' sF.H w' → Step μ0 H0 w0 μ' sF.H w' → Q .normal a' w') → wpAny P .any ops Q m D a w := by
  intro m
  induction m with
  | zero =>
    intro f hs d s D a w μ I hg hfull hc hcnt hQ
    have hall : ∀ i, i < ops.size → D.getD i false = true := by
      intro i hi
      rw [← Bool.not_eq_false]
      intro hD
      have := cnt_set hi (by rw [I.size]; exact hi) hD
      omega
    have hr : Region.ready .any ops D = [] := by
      rw [List.eq_nil_iff_forall_not_mem]
      intro i hi
      obtain ⟨o, ho, hD, _⟩ := ready_spec I.size hi
      rw [hall i (Array.getElem?_eq_some_iff.1 ho).1] at hD; cases hD
    refine ⟨hr, ?_⟩
    have hsF : s = sF := by
      rcases hc with ⟨_, h⟩ | ⟨h, _⟩
      · exact h
      · exfalso
        rw [← Bool.not_eq_true] at h
        exact h (List.all_eq_true.2 fun i hi => I.sub i (hall i (by simpa using hi)))
    subst hsF
    exact hQ a w μ (I.final hall) rfl I.rel I.step
  | succ m ih =>
    intro f hs d s D a w μ I hg hfull hc hcnt hQ
    refine ⟨fun hr => ?_, fun i hi => ?_⟩
    · have hall := all_of_none_ready hst I.size hr
      have hsF : s = sF := by
        rcases hc with ⟨_, h⟩ | ⟨h, _⟩
        · exact h
        · exfalso
          rw [← Bool.not_eq_true] at h
          exact h (List.all_eq_true.2 fun i hi => I.sub i (hall i (by simpa using hi)))
      subst hsF
      exact hQ a w μ (I.final hall) rfl I.rel I.step
    · obtain ⟨o, ho, hD, hil, hpr⟩ := ready_spec I.size hi
      have hin : i < ops.size := (Array.getElem?_eq_some_iff.1 ho).1
      have hc' : cnt ops.size (D.setIfInBounds i true) ≤ m := by have := cnt_set hin hil hD; omega
      by_cases hd : isDone d i = true
      · refine I.late_op hst ho hd hD hpr (goodAll_at hg ho hd (I.light i o ho hd hD) fun h hh hcl => ?_) fun a' w' μ' hdf I' => ?_
        · obtain ⟨g1, o', ho'⟩ := I.hsd h hh
          have := clo_ok h _ I.dD o' ho' (I.dD h o' ho' g1) i hcl
          rw [hD] at this; cases this
        · exact ih f hs d s _ a' w' μ' I' hg hfull hc hc' fun a'' w'' μ'' p1 p2 p3 p4 => hQ a'' w'' μ'' p1 (p2.trans hdf) p3 p4
      · have hd' : isDone d i = false := by simpa using hd
        have hheavy : lightOp P o.op = false := by
          rw [← Bool.not_eq_true]
          intro hl
          obtain ⟨p, hp1, hp2⟩ := hfull i o ho hl hd'
          rw [I.sub p (hpr p hp1)] at hp2; cases hp2
        rcases hc with ⟨hall, _⟩ | ⟨_, h, oh, s2, hfind, hoh, hex, hgo⟩
        · have := List.all_eq_true.1 hall i (by simpa using hin)
          rw [hd'] at this; cases this
        · have hf := List.find?_some hfind
          simp only [Bool.and_eq_true, Bool.not_eq_true', hoh, Option.map_some, Option.getD_some] at hf
          obtain ⟨hf1, hf2⟩ := hf
          have hrd : ∀ p ∈ preds oh, isDone d p = true := List.all_eq_true.1 hf2
          have hoheavy : lightOp P oh.op = false := by
            rw [← Bool.not_eq_true]
            intro hl
            obtain ⟨p, hp1, hp2⟩ := hfull h oh hoh hl hf1
            rw [hrd p hp1] at hp2; cases hp2
          have heq : h = i := by
            rcases Nat.lt_trichotomy h i with hlt | e | hlt
            · have := clo_ok i _ I.dD o ho hpr h (hst.heavy i o ho hheavy h oh hlt hoh hoheavy)
              rw [I.sub h this] at hf1; cases hf1
            · exact e
            · have := clo_ok h _ I.dd oh hoh hrd i (hst.heavy h oh hoh hoheavy i o hlt ho hheavy)
              rw [hd'] at this; cases this
          subst heq
          rw [ho] at hoh; cases hoh
          obtain ⟨f', d1, s1, hp1, hp2, hp3⟩ := drawGo_cont hgo
          have hdl : (d.set h true).length = ops.size := by rw [List.length_set]; exact I.dlen
          obtain ⟨hpass, _⟩ := lightPass_ok hst _ _ _ _ _ hdl hp1
          have hfull1 : ∀ i o, ops[i]? = some o → lightOp P o.op = true → isDone d1 i = false → ∃ p ∈ preds o, isDone d1 p = false := fun i o ho hl hnd =>
            lightPass_full hst _ _ _ _ _ hdl List.pairwise_lt_range hp1 i (by simpa using (Array.getElem?_eq_some_iff.1 ho).1) o ho hl hnd
          unfold wpOp
          simp only [ho]
          rw [I.wanted hst ho hpr]
          unfold execOne at hex
          split at hex
          · rename_i hw
            rw [if_pos hw]
            split at hex
            · rename_i v H2 hs2
              cases hex
              refine .inl (stepOp_sound hcall I.rel (I.operand hst ho hpr) hs2 fun v' w' μ' q1 q2 q3 => ?_)
              have I' := I.heavy hst ho hheavy hd' hpr q1 q2 q3 hpass
              exact ih f' (h :: hs) d1 s1 _ _ w' μ' I' hp2 hfull1 hp3 hc' fun a'' w'' μ'' p1 p2 p3 p4 => hQ a'' w'' μ'' p1 (p2.trans (by cases o.dst <;> rfl)) p3 p4
            · cases hex
          · rename_i hw
            rw [if_neg hw]
            cases hex
            have I' := I.heavy hst ho hheavy hd' hpr (VR.undef μ) I.rel (Step.refl _ _ _) hpass
            exact ih f' (h :: hs) d1 s1 _ _ w μ I' hp2 hfull1 hp3 hc' fun a'' w'' μ'' p1 p2 p3 p4 => hQ a'' w'' μ'' p1 (p2.trans (by cases o.dst <;> rfl)) p3 p4

theorem rep_false (n i : Nat) : (Array.replicate n false).getD i false = false := by
  simp [Array.getD_eq_getD_getElem?, Array.getElem?_replicate]
  split <;> rfl
theorem done_rep (n i : Nat) : isDone (List.replicate n false) i = false := by
  simp [isDone, List.getD_eq_getElem?_getD, List.getElem?_replicate]
  split <;> rfl

theorem draw_sound (hcall : CallOk P call) {id : Nat} {s s' : St} {μ : Mu} {a : Act} {w : World} (he : drawRun call P ops s = some s') (hr : Rel μ s.H w) (ht : VRs μ s.t a.tmps.toList)
    (hQ : ∀ a' w' μ', VRs μ' s'.t a'.tmps.toList → a'.defers = a.defers → Rel μ' s'.H w' → Step μ s.H w μ' s'.H w' → Q .normal a' w') : (Code.region id ops true).wp P Q a w := by
  unfold drawRun at he
  split at he
  · rename_i hc
    simp only [Bool.and_eq_true] at hc
    obtain ⟨hs, hm⟩ := hc
    have hst := static_of hs
    obtain ⟨f', d1, s1, hp1, hp2, hp3⟩ := drawGo_cont he
    have hdl : (List.replicate ops.size false).length = ops.size := by simp
    obtain ⟨hp, _⟩ := lightPass_ok hst _ _ _ _ _ hdl hp1
    have hfull1 : ∀ i o, ops[i]? = some o → lightOp P o.op = true → isDone d1 i = false → ∃ p ∈ preds o, isDone d1 p = false := fun i o ho hl hnd =>
      lightPass_full hst _ _ _ _ _ hdl List.pairwise_lt_range hp1 i (by simpa using (Array.getElem?_eq_some_iff.1 ho).1) o ho hl hnd
    refine wp_region_any hm (draw_any (μ0 := μ) (H0 := s.H) (w0 := w) hcall hst ops.size f' [] d1 s1 _ a w.drew μ ?_ hp2 hfull1 hp3 ?_ hQ)
    · refine ⟨by simp, by rw [hp.len]; simp, fun i h => (by rw [rep_false] at h; cases h), ?_, fun i o _ h => (by simp only [rep_false] at h; cases h), ?_, fun h hh => (by cases hh), ?_, ?_, hp.ext.rel hr.drew, hp.ext.step hr.drew (Step.drew _ _ _), ?_, ?_⟩
      · intro i o ho h1 _
        obtain ⟨o2, ho2, hl, _⟩ := hp.new i h1 (done_rep _ _)
        rw [ho] at ho2; cases ho2; exact hl
      · intro i o ho h1 p hpp
        obtain ⟨o2, ho2, _, h3⟩ := hp.new i h1 (done_rep _ _)
        rw [ho] at ho2; cases ho2; exact h3 p hpp
      · rw [hp.tlen, ht.length]; simp
      · intro t
        rcases hp.tm t with e | ⟨i, o, ho, h1, _, h3⟩
        · right
          rw [e]
          have := ht.getD t
          have e2 : a.tmps.toList.getD t undef = a.tmps.getD t undef := by simp [List.getD_eq_getElem?_getD]
          rw [e2] at this; exact this
        · exact .inl ⟨i, o, ho, h1, rep_false _ _, h3⟩
      · intro i o t c ho h1 _ h3 h4 h5
        obtain ⟨q1, q2⟩ := hp.ids i o t c ho h1 (done_rep _ _) h3 h4 h5
        refine ⟨?_, q2, q1⟩
        cases e : μ c with
        | none => rfl
        | some x => have := hr.dom c x e; omega
      · intro i j o o' t t' c a1 a2 _ a4 a5 a6 b1 b2 _ b4 b5 b6
        exact hp.inj i j o o' t t' c a1 a2 (done_rep _ _) a4 a5 a6 b1 b2 (done_rep _ _) b4 b5 b6
    · unfold cnt
      exact Nat.le_trans (List.length_filter_le _ _) (by simp)
  · cases he
end

/-! ### 31. The evaluator is right -/
theorem aResults_sound {P : Program} {μ : Mu} {s : St} {a : Act} {w : World} (hr : Rel μ s.H w) (ht : VRs μ s.t a.tmps.toList) : ∀ (l : List ResultVar) (rs : List Value), aResults P s l = some rs →
    ∃ rs' : List Value, (l.mapM fun
      | .tmp t => pure (a.tmps.getD t undef)
      | .cell x t => do loadVar t (← asAddr (a.tmps.getD x undef)) : Sem (List Value)).run P w = .ok rs' w ∧ VRs μ rs rs'
  | [], rs, h => by simp only [aResults, Option.some.injEq] at h; subst h; exact ⟨[], rfl, .nil⟩
  | r :: l, rs, h => by
    simp only [aResults] at h
    split at h
    · rename_i v vs h1 h2
      cases h
      obtain ⟨rs', q1, q2⟩ := aResults_sound hr ht l vs h2
      have hg : ∀ t, VR μ (s.t.getD t undef) (a.tmps.getD t undef) := fun t => by
        have := ht.getD t
        have e : a.tmps.toList.getD t undef = a.tmps.getD t undef := by simp [List.getD_eq_getElem?_getD]
        rw [e] at this; exact this
      cases r with
      | tmp t =>
        simp only [aResult, Option.some.injEq] at h1
        subst h1
        refine ⟨a.tmps.getD t undef :: rs', ?_, .cons _ _ _ _ (hg t) q2⟩
        simp only [List.mapM_cons, Sem.run_bind, Sem.run_pure, Result.andThen_ok, q1]
      | cell x t =>
        simp only [aResult] at h1
        obtain ⟨v', e1, e2⟩ := aLoad_sound hr (hg x) h1
        have hp : ∃ ad, a.tmps.getD x undef = .pointer (some ad) := by
          have hgx := hg x
          generalize s.t.getD x undef = y at h1 hgx
          unfold aLoad at h1
          split at h1
          · obtain ⟨b, sh, sz, _, e, _⟩ := hgx.inv_ptr; exact ⟨_, e⟩
          · cases h1
        obtain ⟨ad, hp⟩ := hp
        rw [hp] at e1
        simp only [Instr.loadAt, Instr.sureAddr, Sem.run_bind, Sem.run_pure, Result.andThen_ok] at e1
        refine ⟨v' :: rs', ?_, .cons _ _ _ _ e2 q2⟩
        have has : ∀ w, (asAddr (.pointer (some ad))).run P w = .ok ad w := fun _ => rfl
        simp only [List.mapM_cons, Sem.run_bind, Sem.run_pure, Result.andThen_ok, q1, hp, has, e1]
    · cases h

theorem tupled_sound {μ : Mu} {rs rs' : List Value} (h : VRs μ rs rs') : VR μ (tupled rs) (if h : rs'.toArray.size = 1 then rs'.toArray[0] else .tuple rs'.toArray) := by
  have hl := h.length
  cases h with
  | nil => simpa [tupled] using VR.tuple (μ := μ) [] [] .nil
  | cons v v' l l' hv k =>
    cases k with
    | nil => simpa [tupled] using hv
    | cons u u' m m' hu k' =>
      have : ¬ (v' :: u' :: m').toArray.size = 1 := by simp
      rw [dif_neg this]
      exact VR.tuple _ _ (.cons _ _ _ _ hv (.cons _ _ _ _ hu k'))

theorem results_sound {P : Program} {μ : Mu} {s : St} {a : Act} {w : World} {fn : Func} (hr : Rel μ s.H w) (ht : VRs μ s.t a.tmps.toList) {rs : List Value} (h : aResults P s fn.results.toList = some rs) :
    ∃ v', (results fn a.tmps).run P w = .ok v' w ∧ VR μ (tupled rs) v' := by
  obtain ⟨rs', q1, q2⟩ := aResults_sound hr ht _ _ h
  refine ⟨_, ?_, tupled_sound q2⟩
  unfold results
  have e : fn.results = fn.results.toList.toArray := by simp
  rw [e, List.mapM_toArray]
  simp only [Sem.run_bind, Sem.run_map]
  have q1' := q1
  simp only [List.toList_toArray] at *
  erw [q1']
  rfl

theorem callBy_ok {P : Program} {run : Code → St → Option (Ex × St)}
    (hrun : ∀ c s e s', run c s = some (e, s') → ∀ μ a w (Q : Exit → Act → World → Prop), Rel μ s.H w → VRs μ s.t a.tmps.toList →
      (∀ x a' w' μ', e.is x → VRs μ' s'.t a'.tmps.toList → a'.defers = a.defers → Rel μ' s'.H w' → Step μ s.H w μ' s'.H w' → Q x a' w') → c.wp P Q a w) : CallOk P (callBy P run) := by
  intro f vs H v H' he
  unfold callBy at he
  split at he
  · rename_i fn c hb
    refine ⟨⟨fn, c, hb⟩, fun μ w vs' hr hv => ?_⟩
    obtain ⟨b1, b2, b3⟩ := bodyOf_spec hb
    have hlen := hv.length
    have ht : VRs μ (vs ++ List.replicate (fn.ntmps - vs.length) undef) (vs'.toArray ++ Array.replicate (fn.ntmps - vs'.toArray.size) undef).toList := by
      have : VRs μ (List.replicate (fn.ntmps - vs.length) undef) (List.replicate (fn.ntmps - vs.length) undef) := by
        generalize fn.ntmps - vs.length = k
        induction k with
        | zero => exact .nil
        | succ k ih => exact .cons _ _ _ _ (VR.undef μ) ih
      simpa [hlen] using hv.append (by rw [hlen] at this; exact this)
    have done : ∀ e s, run c ⟨vs ++ List.replicate (fn.ntmps - vs.length) undef, H⟩ = some (e, s) → (e = .normal ∨ e = .ret) → (aResults P s fn.results.toList).map (fun rs => (tupled rs, s.H)) = some (v, H') →
        Calls P f vs'.toArray w fun e w' => ∃ v' μ', e = .returned v' ∧ VR μ' v v' ∧ Rel μ' H' w' ∧ Step μ H w μ' H' w' := by
      intro e s hs hes hres
      obtain ⟨rs, h1, h2⟩ := Option.map_eq_some_iff.1 hres
      simp only [Prod.mk.injEq] at h2
      obtain ⟨rfl, rfl⟩ := h2
      refine calls_of_wp b1 b2 (hrun c _ e s hs μ _ w _ hr ht ?_)
      intro x a' w' μ' hx p1 p2 p3 p4
      obtain ⟨v', q1, q2⟩ := results_sound (fn := fn) p3 p1 h1
      rcases hes with rfl | rfl
      · cases x <;> simp only [Ex.is] at hx
        exact ⟨p2, v', q1, v', μ', rfl, q2, p3, p4⟩
      · cases x <;> simp only [Ex.is] at hx
        exact ⟨p2, v', q1, v', μ', rfl, q2, p3, p4⟩
    split at he
    · rename_i s hs; exact done _ s hs (.inl rfl) he
    · rename_i s hs; exact done _ s hs (.inr rfl) he
    · cases he
  · cases he

def Sound (P : Program) (n : Nat) : Prop :=
  ∀ c s e s', evC P n c s = some (e, s') → ∀ μ a w (Q : Exit → Act → World → Prop), Rel μ s.H w → VRs μ s.t a.tmps.toList →
    (∀ x a' w' μ', e.is x → VRs μ' s'.t a'.tmps.toList → a'.defers = a.defers → Rel μ' s'.H w' → Step μ s.H w μ' s'.H w' → Q x a' w') → c.wp P Q a w
def SoundL (P : Program) (n : Nat) : Prop :=
  ∀ b s e s', evC P n (.loop b) s = some (e, s') → ∃ m, ∀ μ a w (Q : Exit → Act → World → Prop), Rel μ s.H w → VRs μ s.t a.tmps.toList →
    (∀ x a' w' μ', e.is x → VRs μ' s'.t a'.tmps.toList → a'.defers = a.defers → Rel μ' s'.H w' → Step μ s.H w μ' s'.H w' → Q x a' w') → Code.rounds P b Q m a w

theorem evC_sound (P : Program) : ∀ n, Sound P n ∧ SoundL P n := by
  intro n
  induction n with
  | zero => exact ⟨fun c s e s' h => by simp [evC] at h, fun b s e s' h => by simp [evC] at h⟩
  | succ n ih =>
    obtain ⟨ih1, ih2⟩ := ih
    have loops : SoundL P (n + 1) := by
      intro b s e s' h
      simp only [evC] at h
      split at h
      · rename_i s1 hs1
        obtain ⟨m, hm⟩ := ih2 b s1 e s' h
        refine ⟨m + 1, fun μ a w Q hr ht hQ => ?_⟩
        rw [rounds_succ]
        refine ih1 b s .normal s1 hs1 μ a w _ hr ht fun x a' w' μ' hx p1 p2 p3 p4 => ?_
        cases x <;> simp only [Ex.is] at hx
        exact hm μ' a' w' Q p3 p1 fun x a'' w'' μ'' q1 q2 q3 q4 q5 => hQ x a'' w'' μ'' q1 q2 (q3.trans p2) q4 (p4.trans q5)
      · rename_i hne
        refine ⟨1, fun μ a w Q hr ht hQ => ?_⟩
        rw [rounds_succ]
        refine ih1 b s e s' h μ a w _ hr ht fun x a' w' μ' hx p1 p2 p3 p4 => ?_
        cases e with
        | normal => exact absurd h (hne _)
        | exit i => cases x <;> simp only [Ex.is] at hx; exact hQ _ a' w' μ' hx p1 p2 p3 p4
        | ret => cases x <;> simp only [Ex.is] at hx; exact hQ _ a' w' μ' trivial p1 p2 p3 p4
    refine ⟨?_, loops⟩
    have hcall : CallOk P (callBy P (evC P n)) := callBy_ok ih1
    intro c s e s' h μ a w Q hr ht hQ
    cases c with
    | skip =>
      simp only [evC, Option.some.injEq, Prod.mk.injEq] at h
      obtain ⟨rfl, rfl⟩ := h
      exact wp_skip (hQ .normal a w μ trivial ht rfl hr (Step.refl _ _ _))
    | region id ops dr =>
      cases dr with
      | false =>
        simp only [evC, Option.map_eq_some_iff, Prod.mk.injEq] at h
        obtain ⟨s1, h1, rfl, rfl⟩ := h
        exact wp_region (runOps_sound hcall _ s s1 μ a w Q h1 hr ht fun a' w' μ' p1 p2 p3 p4 => hQ .normal a' w' μ' trivial p1 p2 p3 p4)
      | true =>
        simp only [evC, Option.map_eq_some_iff, Prod.mk.injEq] at h
        obtain ⟨s1, h1, rfl, rfl⟩ := h
        exact draw_sound hcall h1 hr ht fun a' w' μ' p1 p2 p3 p4 => hQ .normal a' w' μ' trivial p1 p2 p3 p4
    | seq x y =>
      simp only [evC] at h
      refine wp_seq ?_
      split at h
      · rename_i s1 hs1
        refine ih1 x s .normal s1 hs1 μ a w _ hr ht fun x a' w' μ' hx p1 p2 p3 p4 => ?_
        cases x <;> simp only [Ex.is] at hx
        exact ih1 y s1 e s' h μ' a' w' Q p3 p1 fun x a'' w'' μ'' q1 q2 q3 q4 q5 => hQ x a'' w'' μ'' q1 q2 (q3.trans p2) q4 (p4.trans q5)
      · rename_i hne
        refine ih1 x s e s' h μ a w _ hr ht fun x a' w' μ' hx p1 p2 p3 p4 => ?_
        cases e with
        | normal => exact absurd h (hne _)
        | exit i => cases x <;> simp only [Ex.is] at hx; exact hQ _ a' w' μ' hx p1 p2 p3 p4
        | ret => cases x <;> simp only [Ex.is] at hx; exact hQ _ a' w' μ' trivial p1 p2 p3 p4
    | cond c x y =>
      simp only [evC] at h
      split at h
      · rename_i hc
        exact wp_cond_true (evO_sound ht c _ hc).inv_bool (ih1 x s e s' h μ a w Q hr ht hQ)
      · rename_i hc
        exact wp_cond_false (evO_sound ht c _ hc).inv_bool (ih1 y s e s' h μ a w Q hr ht hQ)
      · cases h
    | block id b =>
      simp only [evC] at h
      refine wp_block ?_
      split at h
      · rename_i i s1 hs1
        refine ih1 b s (.exit i) s1 hs1 μ a w _ hr ht fun x a' w' μ' hx p1 p2 p3 p4 => ?_
        cases x <;> simp only [Ex.is] at hx
        subst hx
        simp only [Exit.inBlock]
        split at h
        · rename_i hi
          cases h
          rw [if_pos hi]
          exact hQ .normal a' w' μ' trivial p1 p2 p3 p4
        · rename_i hi
          cases h
          rw [if_neg hi]
          exact hQ _ a' w' μ' rfl p1 p2 p3 p4
      · rename_i hne
        refine ih1 b s e s' h μ a w _ hr ht fun x a' w' μ' hx p1 p2 p3 p4 => ?_
        cases e with
        | normal => cases x <;> simp only [Ex.is] at hx; exact hQ _ a' w' μ' trivial p1 p2 p3 p4
        | exit i => exact absurd h (hne _ _)
        | ret => cases x <;> simp only [Ex.is] at hx; exact hQ _ a' w' μ' trivial p1 p2 p3 p4
    | loop b =>
      obtain ⟨m, hm⟩ := loops b s e s' h
      exact wp_loop_rounds m (hm μ a w Q hr ht hQ)
    | exit id =>
      simp only [evC, Option.some.injEq, Prod.mk.injEq] at h
      obtain ⟨rfl, rfl⟩ := h
      exact wp_exit (hQ (.exit id) a w μ rfl ht rfl hr (Step.refl _ _ _))
    | ret =>
      simp only [evC, Option.some.injEq, Prod.mk.injEq] at h
      obtain ⟨rfl, rfl⟩ := h
      exact wp_ret (hQ .ret a w μ trivial ht rfl hr (Step.refl _ _ _))
    | _ => simp [evC] at h

theorem evCall_ok (P : Program) (n : Nat) : CallOk P (evCall P n) := callBy_ok (evC_sound P n).1
theorem evCall_sound {P : Program} {n f : Nat} {vs : List Value} {H : Heap} {v : Value} {H' : Heap} (h : evCall P n f vs H = some (v, H')) {μ : Mu} {w : World} {vs' : List Value} (hr : Rel μ H w) (hv : VRs μ vs vs') :
    Calls P f vs'.toArray w fun e w' => ∃ v' μ', e = .returned v' ∧ VR μ' v v' ∧ Rel μ' H' w' ∧ Step μ H w μ' H' w' :=
  (evCall_ok P n f vs H v H' h).2 μ w vs' hr hv
end Go.Ae
