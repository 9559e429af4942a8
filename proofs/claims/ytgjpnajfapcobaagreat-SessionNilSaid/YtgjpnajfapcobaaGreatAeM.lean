/- The invariant of a drawn region: what has run at the machine agrees with what the evaluator has reckoned. -/
import Derived.Test.YtgjpnajfapcobaaGreatAeL
set_option autoImplicit false
set_option linter.unusedVariables false
set_option linter.unusedSimpArgs false
namespace Go.Ae

/-! ### 29. Whatever order is drawn -/
structure DInv (P : Program) (ops : Array Oper) (μ0 : Mu) (H0 : Heap) (w0 : World) (hs : List Nat) (d : Done) (s : St) (D : Array Bool) (a : Act) (w : World) (μ : Mu) : Prop where
  size : D.size = ops.size
  dlen : d.length = ops.size
  sub : ∀ i, D.getD i false = true → isDone d i = true
  light : ∀ i o, ops[i]? = some o → isDone d i = true → D.getD i false = false → lightOp P o.op = true
  dD : Down ops (fun i => D.getD i false = true)
  dd : Down ops (fun i => isDone d i = true)
  hsd : ∀ h ∈ hs, D.getD h false = true ∧ ∃ o, ops[h]? = some o
  tlen : s.t.length = a.tmps.size
  tm : ∀ t, (∃ i o, ops[i]? = some o ∧ isDone d i = true ∧ D.getD i false = false ∧ o.dst = some t) ∨ VR μ (s.t.getD t undef) (a.tmps.getD t undef)
  rel : Rel μ s.H w
  step : Step μ0 H0 w0 μ s.H w
  ids : ∀ i o t c, ops[i]? = some o → isDone d i = true → D.getD i false = false → allocOp o.op = true → o.dst = some t → idOf (s.t.getD t undef) = some c → μ c = none ∧ c < s.H.n ∧ H0.n ≤ c
  inj : ∀ i j o o' t t' c, ops[i]? = some o → isDone d i = true → D.getD i false = false → allocOp o.op = true → o.dst = some t → idOf (s.t.getD t undef) = some c →
    ops[j]? = some o' → isDone d j = true → D.getD j false = false → allocOp o'.op = true → o'.dst = some t' → idOf (s.t.getD t' undef) = some c → i = j

section
variable {P : Program} {ops : Array Oper} {μ0 : Mu} {H0 : Heap} {w0 : World} {hs : List Nat} {d : Done} {s : St} {D : Array Bool} {a : Act} {w : World} {μ : Mu}

theorem DInv.opnd (I : DInv P ops μ0 H0 w0 hs d s D a w μ) (hst : Static P ops) {j : Nat} {o : Oper} (ho : ops[j]? = some o) (hr : ∀ p ∈ preds o, D.getD p false = true) (u : Tmp) (hu : u ∈ o.looksAt ops) :
    VR μ (s.t.getD u undef) (a.tmps.getD u undef) := by
  rcases I.tm u with ⟨i, o', ho', hi, hD, hd⟩ | h
  · obtain ⟨t, e, hn, hall⟩ := hst.dst i o' ho' (I.light i o' ho' hi hD)
    rw [hd] at e; cases e
    by_cases hji : j = i
    · subst hji
      rw [ho] at ho'; cases ho'
      exact absurd hu hn
    · have hc := hall j o ho hji (by simp only [namesOf, List.mem_append]; exact .inr hu)
      have := clo_ok j _ I.dD o ho hr i hc
      rw [hD] at this; cases this
  · exact h

theorem DInv.wanted (I : DInv P ops μ0 H0 w0 hs d s D a w μ) (hst : Static P ops) {j : Nat} {o : Oper} (ho : ops[j]? = some o) (hr : ∀ p ∈ preds o, D.getD p false = true) :
    Region.wanted o (yielded ops a.tmps) = Region.wanted o (yieldedL ops s.t) := by
  unfold Region.wanted
  cases hg : o.guard with
  | none => rfl
  | some gw =>
    obtain ⟨g, want⟩ := gw
    suffices hh : yielded ops a.tmps g = yieldedL ops s.t g by simp only [hh]
    unfold yielded yieldedL
    cases hd : (ops[g]?).bind (·.dst) with
    | none => rfl
    | some u =>
      have hv := I.opnd hst ho hr u (by simp [Oper.looksAt, hg, hd])
      simp only [Option.bind_some]
      have hl := I.tlen
      rcases Nat.lt_or_ge u s.t.length with hu | hu
      · have e1 : s.t[u]? = some (s.t.getD u undef) := by rw [List.getD_eq_getElem?_getD, List.getElem?_eq_getElem hu]; rfl
        have hlt : u < a.tmps.size := by rw [← hl]; exact hu
        have e2 : a.tmps[u]? = some (a.tmps.getD u undef) := by
          rw [Array.getD_eq_getD_getElem?, Array.getElem?_eq_getElem hlt]; rfl
        rw [e1, e2]
        generalize s.t.getD u undef = x at hv
        generalize a.tmps.getD u undef = y at hv
        cases hv <;> first
          | rfl
          | (rename_i p1 p2
             cases y <;> first | rfl | exact absurd rfl (p2 _))
      · rw [List.getElem?_eq_none hu, Array.getElem?_eq_none (by rw [← hl]; exact hu)]

theorem DInv.operand (I : DInv P ops μ0 H0 w0 hs d s D a w μ) (hst : Static P ops) {j : Nat} {o : Oper} (ho : ops[j]? = some o) (hr : ∀ p ∈ preds o, D.getD p false = true) :
    ∀ x ∈ o.op.operands.toList, ∀ v, evO s.t x = some v → VR μ v (a.eval x) := by
  intro x hx v hv
  cases x with
  | tmp u =>
    simp only [evO, Option.some.injEq] at hv
    subst hv
    exact I.opnd hst ho hr u (by simp only [Oper.looksAt, List.mem_append, List.mem_filterMap]; exact .inl ⟨.tmp u, hx, rfl⟩)
  | const c =>
    simp only [evO] at hv
    split at hv
    · rename_i hp; cases hv; exact pureV_VR μ 4 _ hp
    · cases hv
  | global g => simp [evO] at hv
  | func f =>
    simp only [evO, Option.some.injEq] at hv
    subst hv
    exact .func (.func f) [] [] [] [] .nil .nil

theorem D_set {i k : Nat} (hi : i < D.size) : (D.setIfInBounds i true).getD k false = true ↔ k = i ∨ D.getD k false = true := by
  simp only [Array.getD_eq_getD_getElem?, Array.getElem?_setIfInBounds]
  by_cases h : i = k
  · subst h; simp [hi]
  · rw [if_neg h]
    constructor
    · exact .inr
    · rintro (rfl | h')
      · exact absurd rfl h
      · exact h'
theorem D_set_false {i k : Nat} (hi : i < D.size) : (D.setIfInBounds i true).getD k false = false ↔ k ≠ i ∧ D.getD k false = false := by
  have := D_set (D := D) (k := k) hi
  constructor
  · intro h
    refine ⟨fun e => ?_, ?_⟩
    · rw [this.2 (.inl e)] at h; cases h
    · rw [← Bool.not_eq_true]; intro hh; rw [this.2 (.inr hh)] at h; cases h
  · rintro ⟨h1, h2⟩
    rw [← Bool.not_eq_true]
    intro hh
    rcases this.1 hh with e | e
    · exact h1 e
    · rw [h2] at e; cases e

theorem put_getD_same {t : Tmp} {v : Value} : (a.put (some t) v).tmps.getD t undef = v ∨ a.tmps.size ≤ t := by
  rcases Nat.lt_or_ge t a.tmps.size with h | h
  · left; simp [Act.put, Array.getD, h]
  · exact .inr h
theorem put_getD_other {t u : Tmp} {v : Value} (h : u ≠ t) : (a.put (some t) v).tmps.getD u undef = a.tmps.getD u undef := by
  simp only [Act.put, Array.getD_eq_getD_getElem?]
  rw [Array.getElem?_setIfInBounds_ne (Ne.symm h)]

/-- A light one that the canonical order had already. -/
theorem DInv.late (I : DInv P ops μ0 H0 w0 hs d s D a w μ) (hst : Static P ops) {i : Nat} {o : Oper} (ho : ops[i]? = some o) (hd : isDone d i = true) (hD : D.getD i false = false) (hr : ∀ p ∈ preds o, D.getD p false = true)
    {t : Tmp} (ht : o.dst = some t) {v' : Value} {w' : World} {μ' : Mu} (hv : VR μ' (s.t.getD t undef) v') (hm : μ.le μ') (hrel : Rel μ' s.H w') (hstep : Step μ0 H0 w0 μ' s.H w')
    (hids : ∀ k o' t' c, k ≠ i → ops[k]? = some o' → isDone d k = true → D.getD k false = false → allocOp o'.op = true → o'.dst = some t' → idOf (s.t.getD t' undef) = some c → μ' c = none) :
    DInv P ops μ0 H0 w0 hs d s (D.setIfInBounds i true) (a.put (some t) v') w' μ' := by
  have hi : i < D.size := by rw [I.size]; exact (Array.getElem?_eq_some_iff.1 ho).1
  have hl := I.light i o ho hd hD
  refine ⟨by simp [I.size], I.dlen, ?_, ?_, ?_, I.dd, ?_, ?_, ?_, hrel, hstep, ?_, ?_⟩
  · intro k hk
    rcases (D_set hi).1 hk with rfl | hk
    · exact hd
    · exact I.sub k hk
  · intro k o' ho' h1 h2
    exact I.light k o' ho' h1 ((D_set_false hi).1 h2).2
  · intro k o' ho' hk p hp
    rcases (D_set hi).1 hk with rfl | hk
    · rw [ho] at ho'; cases ho'
      exact (D_set hi).2 (.inr (hr p hp))
    · exact (D_set hi).2 (.inr (I.dD k o' ho' hk p hp))
  · intro h hh
    obtain ⟨h1, h2⟩ := I.hsd h hh
    exact ⟨(D_set hi).2 (.inr h1), h2⟩
  · rw [I.tlen]; simp [Act.put]
  · intro u
    by_cases hu : u = t
    · subst hu
      right
      rcases put_getD_same (a := a) (t := u) (v := v') with e | e
      · rw [e]; exact hv
      · have e1 : s.t.getD u undef = undef := by rw [List.getD_eq_getElem?_getD, List.getElem?_eq_none (by rw [I.tlen]; exact e)]; rfl
        have e2 : (a.put (some u) v').tmps.getD u undef = undef := by
          simp [Act.put, Array.getD, Nat.not_lt.2 e]
        rw [e1, e2]; exact VR.undef _
    · rw [put_getD_other hu]
      rcases I.tm u with ⟨k, o', ho', h1, h2, h3⟩ | h
      · left
        refine ⟨k, o', ho', h1, (D_set_false hi).2 ⟨?_, h2⟩, h3⟩
        rintro rfl
        rw [ho] at ho'; cases ho'
        rw [ht] at h3; cases h3
        exact hu rfl
      · exact .inr (h.mono hm)
  · intro k o' t' c ho' h1 h2 h3 h4 h5
    obtain ⟨g1, g2⟩ := (D_set_false hi).1 h2
    obtain ⟨_, q2, q3⟩ := I.ids k o' t' c ho' h1 g2 h3 h4 h5
    exact ⟨hids k o' t' c g1 ho' h1 g2 h3 h4 h5, q2, q3⟩
  · intro k j o1 o2 t1 t2 c a1 a2 a3 a4 a5 a6 b1 b2 b3 b4 b5 b6
    exact I.inj k j o1 o2 t1 t2 c a1 a2 ((D_set_false hi).1 a3).2 a4 a5 a6 b1 b2 ((D_set_false hi).1 b3).2 b4 b5 b6

theorem beq_undef {x : Value} (h : beqV 1 x undef = true) : x = undef := beqV_eq 1 _ _ h

theorem DInv.late_op (I : DInv P ops μ0 H0 w0 hs d s D a w μ) (hst : Static P ops) {i : Nat} {o : Oper} (ho : ops[i]? = some o) (hd : isDone d i = true) (hD : D.getD i false = false) (hr : ∀ p ∈ preds o, D.getD p false = true)
    (hg : goodB P ops s o = true) {K : Act → World → Prop} {Q : Exit → Act → World → Prop}
    (hK : ∀ a' w' μ', a'.defers = a.defers → DInv P ops μ0 H0 w0 hs d s (D.setIfInBounds i true) a' w' μ' → K a' w') : wpOp P ops Q i K a w := by
  have hl := I.light i o ho hd hD
  obtain ⟨t, ht, _, _⟩ := hst.dst i o ho hl
  have hw := I.wanted hst ho hr
  have hρ := I.operand hst ho hr
  unfold wpOp
  simp only [ho]
  rw [hw]
  unfold goodB at hg
  simp only [ht] at hg
  split at hg
  · rename_i hwt
    rw [if_pos hwt]
    refine .inl ?_
    split at hg
    · rename_i ha
      split at hg
      · rename_i cs mk c hcs hid
        simp only [Bool.and_eq_true] at hg
        obtain ⟨hg1, hg2⟩ := hg
        have hmk := beqV_eq 4 _ _ hg1
        split at hg2
        · rename_i cs' hget
          have hcc : cs' = cs := beqL_eq (beqV_eq 4) _ _ hg2
          subst hcc
          obtain ⟨hn, hlt, h0⟩ := I.ids i o t c ho hd hD ha ht hid
          obtain ⟨v', cc, el, r1, r2, r3, r4⟩ := allocShape (P := P) (w := w) hρ hcs
          obtain ⟨q1, q2⟩ := I.rel.alloc_at I.step hget hn h0 cc el r2 r3
          unfold Oper.wp
          rw [r1]
          simp only [Oper.upon_value, ht]
          refine hK _ _ (μ.put c (w.heap.size, 0, cc.size)) rfl (I.late hst ho hd hD hr ht ?_ (Mu.le_put _ hn) q1 q2 ?_)
          · rw [hmk]; exact r4 _ c (Mu.put_same _ _ _)
          · intro k o' t' c' hki ho' h1 h2 h3 h4 h5
            rw [Mu.put_other]
            · exact (I.ids k o' t' c' ho' h1 h2 h3 h4 h5).1
            · rintro rfl
              exact hki (I.inj k i o' o t' t c' ho' h1 h2 h3 h4 h5 ho hd hD ha ht hid)
        · cases hg2
      · cases hg
    · rename_i ha
      split at hg
      · rename_i v H' hv
        have hH := aop_light hl (by simpa using ha) hv
        subst hH
        have hmk := beqV_eq 4 _ _ hg
        obtain ⟨r, v', w', μ', r1, r2, r3, r4, r5⟩ := aop_sound I.rel hρ hv
        have hDI : DInv P ops μ0 H0 w0 hs d s (D.setIfInBounds i true) (a.put (some t) v') w' μ' :=
          I.late hst ho hd hD hr ht (by rw [hmk]; exact r3) r5.mu r4 (I.step.trans r5) (fun k o' t' c' hki ho' h1 h2 h3 h4 h5 => by
            obtain ⟨g1, g2, _⟩ := I.ids k o' t' c' ho' h1 h2 h3 h4 h5
            exact r5.fresh c' g2 g1)
        unfold Oper.wp
        rw [r1]
        rcases r2 with rfl | ⟨rfl, rfl⟩
        · simp only [Oper.upon_value, ht]; exact hK _ _ μ' rfl hDI
        · simp only [Oper.upon_skip, ht]; exact hK _ _ μ' rfl hDI
      · cases hg
  · rename_i hwt
    rw [if_neg hwt, ht]
    refine hK _ _ μ rfl (I.late hst ho hd hD hr ht ?_ (Mu.le_refl _) I.rel I.step (fun k o' t' c' _ ho' h1 h2 h3 h4 h5 => (I.ids k o' t' c' ho' h1 h2 h3 h4 h5).1))
    rw [beq_undef hg]; exact VR.undef _

/-- The next heavy one. -/
theorem DInv.heavy (I : DInv P ops μ0 H0 w0 hs d s D a w μ) (hst : Static P ops) {h : Nat} {o : Oper} (ho : ops[h]? = some o) (hl : lightOp P o.op = false) (hd : isDone d h = false) (hr : ∀ p ∈ preds o, D.getD p false = true)
    {v v' : Value} {H2 : Heap} {w' : World} {μ' : Mu} (hv : VR μ' v v') (hrel : Rel μ' H2 w') (hstep : Step μ s.H w μ' H2 w') {d' : Done} {s' : St} (hp : PassOk P ops (d.set h true) ⟨putT s.t o.dst v, H2⟩ d' s') :
    DInv P ops μ0 H0 w0 (h :: hs) d' s' (D.setIfInBounds h true) (a.put o.dst v') w' μ' := by
  have hhs : h < ops.size := (Array.getElem?_eq_some_iff.1 ho).1
  have hi : h < D.size := by rw [I.size]; exact hhs
  have hid : h < d.length := by rw [I.dlen]; exact hhs
  have hDh : D.getD h false = false := by
    rw [← Bool.not_eq_true]; intro hh; rw [I.sub h hh] at hd; cases hd
  have split_new : ∀ k, isDone d' k = true → (D.setIfInBounds h true).getD k false = false → k ≠ h ∧ D.getD k false = false ∧ (isDone d k = true ∨ isDone (d.set h true) k = false) := by
    intro k h1 h2
    obtain ⟨g1, g2⟩ := (D_set_false hi).1 h2
    refine ⟨g1, g2, ?_⟩
    by_cases hk : isDone d k = true
    · exact .inl hk
    · right
      rw [← Bool.not_eq_true]
      intro hh
      rcases (isDone_set hid).1 hh with e | e
      · exact g1 e
      · exact hk e
  -- a late one's destination is not the heavy one's, nor a new light one's
  have late_dst : ∀ k o' t, ops[k]? = some o' → isDone d k = true → D.getD k false = false → o'.dst = some t → s'.t.getD t undef = s.t.getD t undef := by
    intro k o' t ho' h1 h2 h3
    have hlk := I.light k o' ho' h1 h2
    obtain ⟨t1, e1, _, f1⟩ := hst.dst k o' ho' hlk
    rw [h3] at e1; cases e1
    have hne : o.dst ≠ some t := by
      intro e
      have hkh : h ≠ k := by rintro rfl; rw [hd] at h1; cases h1
      have := f1 h o ho hkh (by simp [namesOf, e])
      have := clo_ok h _ I.dD o ho hr k this
      rw [h2] at this; cases this
    rcases hp.tm t with e | ⟨j, o2, ho2, j1, j2, j3⟩
    · rw [e]; exact putT_other hne
    · obtain ⟨o3, ho3, hl3, _⟩ := hp.new j j1 j2
      rw [ho2] at ho3; cases ho3
      have := hst.dst_inj ho' ho2 hlk hl3 h3 j3
      subst this
      rw [(isDone_set hid).2 (.inr h1)] at j2; cases j2
  refine ⟨by simp [I.size], by rw [hp.len]; simp [I.dlen], ?_, ?_, ?_, ?_, ?_, ?_, ?_, hp.ext.rel hrel, hp.ext.step hrel (I.step.trans hstep), ?_, ?_⟩
  · intro k hk
    rcases (D_set hi).1 hk with rfl | hk
    · exact hp.mono _ ((isDone_set hid).2 (.inl rfl))
    · exact hp.mono _ ((isDone_set hid).2 (.inr (I.sub k hk)))
  · intro k o' ho' h1 h2
    obtain ⟨g1, g2, g3 | g3⟩ := split_new k h1 h2
    · exact I.light k o' ho' g3 g2
    · obtain ⟨o2, ho2, hl2, _⟩ := hp.new k h1 g3
      rw [ho'] at ho2; cases ho2
      exact hl2
  · intro k o' ho' hk p hpp
    rcases (D_set hi).1 hk with rfl | hk
    · rw [ho] at ho'; cases ho'
      exact (D_set hi).2 (.inr (hr p hpp))
    · exact (D_set hi).2 (.inr (I.dD k o' ho' hk p hpp))
  · intro k o' ho' hk p hpp
    by_cases hk1 : isDone (d.set h true) k = true
    · refine hp.mono p ((isDone_set hid).2 (.inr ?_))
      rcases (isDone_set hid).1 hk1 with rfl | hk2
      · rw [ho] at ho'; cases ho'
        exact I.sub p (hr p hpp)
      · exact I.dd k o' ho' hk2 p hpp
    · obtain ⟨o2, ho2, _, h3⟩ := hp.new k hk (by simpa using hk1)
      rw [ho'] at ho2; cases ho2
      exact h3 p hpp
  · intro k hk
    rcases List.mem_cons.1 hk with rfl | hk
    · exact ⟨(D_set hi).2 (.inl rfl), o, ho⟩
    · obtain ⟨g1, g2⟩ := I.hsd k hk
      exact ⟨(D_set hi).2 (.inr g1), g2⟩
  · rw [hp.tlen, putT_length, I.tlen]
    cases o.dst <;> simp [Act.put]
  · intro u
    rcases hp.tm u with e | ⟨j, o2, ho2, j1, j2, j3⟩
    · rw [e]
      by_cases hu : o.dst = some u
      · right
        rw [hu]
        simp only
        rcases put_getD_same (a := a) (t := u) (v := v') with e1 | e1
        · rw [e1]
          rcases putT_same (t := s.t) (u := u) (v := v) with e2 | ⟨e2, e3⟩
          · rw [e2]; exact hv
          · have := I.tlen
            have e4 : (a.put (some u) v').tmps.getD u undef = undef := by simp [Act.put, Array.getD, show ¬ u < a.tmps.size by omega]
            rw [e4] at e1
            rw [e2, ← e1]; exact VR.undef _
        · have e2 : (putT s.t (some u) v).getD u undef = undef := by
            rw [List.getD_eq_getElem?_getD, List.getElem?_eq_none (by rw [putT_length, I.tlen]; exact e1)]; rfl
          have e3 : (a.put (some u) v').tmps.getD u undef = undef := by simp [Act.put, Array.getD, Nat.not_lt.2 e1]
          rw [e2, e3]; exact VR.undef _
      · simp only
        rw [putT_other hu]
        have e1 : (a.put o.dst v').tmps.getD u undef = a.tmps.getD u undef := by
          cases hod : o.dst with
          | none => rfl
          | some t => exact put_getD_other (fun e => hu (by rw [hod, e]))
        rw [e1]
        rcases I.tm u with ⟨k, o', ho', h1, h2, h3⟩ | hh
        · left
          refine ⟨k, o', ho', hp.mono _ ((isDone_set hid).2 (.inr h1)), (D_set_false hi).2 ⟨?_, h2⟩, h3⟩
          rintro rfl
          rw [hd] at h1; cases h1
        · exact .inr (hh.mono hstep.mu)
    · left
      refine ⟨j, o2, ho2, j1, (D_set_false hi).2 ⟨?_, ?_⟩, j3⟩
      · rintro rfl
        rw [(isDone_set hid).2 (.inl rfl)] at j2; cases j2
      · rw [← Bool.not_eq_true]
        intro hh
        rw [(isDone_set hid).2 (.inr (I.sub j hh))] at j2; cases j2
  · intro k o' t' c ho' h1 h2 h3 h4 h5
    obtain ⟨g1, g2, g3 | g3⟩ := split_new k h1 h2
    · rw [late_dst k o' t' ho' g3 g2 h4] at h5
      obtain ⟨q1, q2, q3⟩ := I.ids k o' t' c ho' g3 g2 h3 h4 h5
      refine ⟨hstep.fresh c q2 q1, ?_, q3⟩
      have := hstep.n
      have := hp.ext.n
      simp only at this
      omega
    · obtain ⟨q1, q2⟩ := hp.ids k o' t' c ho' h1 g3 h3 h4 h5
      simp only at q1
      refine ⟨?_, q2, ?_⟩
      · cases e : μ' c with
        | none => rfl
        | some x => have := hrel.dom c x e; omega
      · have := I.step.n
        have := hstep.n
        omega
  · intro k j o1 o2 t1 t2 c a1 a2 a3 a4 a5 a6 b1 b2 b3 b4 b5 b6
    obtain ⟨g1, g2, g3⟩ := split_new k a2 a3
    obtain ⟨f1, f2, f3⟩ := split_new j b2 b3
    have old : ∀ k o' t', ops[k]? = some o' → isDone d k = true → D.getD k false = false → allocOp o'.op = true → o'.dst = some t' → idOf (s'.t.getD t' undef) = some c → c < H2.n := by
      intro k o' t' ho' h1 h2 h3 h4 h5
      rw [late_dst k o' t' ho' h1 h2 h4] at h5
      have := (I.ids k o' t' c ho' h1 h2 h3 h4 h5).2.1
      have := hstep.n
      omega
    rcases g3 with g3 | g3
    · rcases f3 with f3 | f3
      · rw [late_dst k o1 t1 a1 g3 g2 a5] at a6
        rw [late_dst j o2 t2 b1 f3 f2 b5] at b6
        exact I.inj k j o1 o2 t1 t2 c a1 g3 g2 a4 a5 a6 b1 f3 f2 b4 b5 b6
      · have := old k o1 t1 a1 g3 g2 a4 a5 a6
        have := (hp.ids j o2 t2 c b1 b2 f3 b4 b5 b6).1
        simp only at this
        omega
    · rcases f3 with f3 | f3
      · have := old j o2 t2 b1 f3 f2 b4 b5 b6
        have := (hp.ids k o1 t1 c a1 a2 g3 a4 a5 a6).1
        simp only at this
        omega
      · exact hp.inj k j o1 o2 t1 t2 c a1 a2 g3 a4 a5 a6 b1 b2 f3 b4 b5 b6
end
end Go.Ae
