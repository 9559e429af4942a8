/- What a pass over the light operations of a drawn region has reckoned, whatever the region. -/
import Derived.Test.YtgjpnajfapcobaaGreatAeK
set_option autoImplicit false
set_option linter.unusedVariables false
set_option linter.unusedSimpArgs false
namespace Go.Ae

/-! ### 27. What waits for what -/
section
variable (P : Program) (ops : Array Oper)
def Down (S : Nat → Prop) : Prop := ∀ i o, ops[i]? = some o → S i → ∀ p ∈ preds o, S p
def CloOk (k : Nat) (c : List Nat) : Prop := ∀ S : Nat → Prop, Down ops S → ∀ o, ops[k]? = some o → (∀ p ∈ preds o, S p) → ∀ j ∈ c, S j
end

theorem cloAux_ok {ops : Array Oper} : ∀ (l : List Oper) (acc : List (List Nat)), (∀ j o, l[j]? = some o → ops[acc.length + j]? = some o) → (∀ k, k < acc.length → k < ops.size ∧ CloOk ops k (acc.getD k [])) →
    ∀ k, CloOk ops k ((cloAux acc l).getD k [])
  | [], acc, _, h, k => by
    rcases Nat.lt_or_ge k acc.length with hk | hk
    · exact (h k hk).2
    · intro S _ o _ _ j hj
      rw [cloAux, List.getD_eq_getElem?_getD, List.getElem?_eq_none hk] at hj
      cases hj
  | o :: l, acc, hl, h, k => by
    unfold cloAux
    have ho : ops[acc.length]? = some o := by simpa using hl 0 o (by simp)
    refine cloAux_ok l (acc ++ [preds o ++ (preds o).flatMap fun p => acc.getD p []]) (fun j o' hj => ?_) (fun k hk => ?_) k
    · have := hl (j + 1) o' (by simpa using hj)
      rw [List.length_append, List.length_singleton, ← this]
      congr 1; omega
    · rw [List.length_append, List.length_singleton] at hk
      rcases Nat.lt_or_ge k acc.length with hk' | hk'
      · refine ⟨(h k hk').1, ?_⟩
        rw [List.getD_eq_getElem?_getD, List.getElem?_append_left hk', ← List.getD_eq_getElem?_getD]
        exact (h k hk').2
      · have : k = acc.length := by omega
        subst this
        refine ⟨(Array.getElem?_eq_some_iff.1 ho).1, ?_⟩
        intro S hS o' ho' hp j hj
        rw [ho] at ho'; cases ho'
        simp only [List.getD_eq_getElem?_getD, List.getElem?_append_right (Nat.le_refl _), Nat.sub_self, List.getElem?_cons_zero, Option.getD_some, List.mem_append, List.mem_flatMap] at hj
        rcases hj with hj | ⟨p, hp1, hp2⟩
        · exact hp j hj
        · rcases Nat.lt_or_ge p acc.length with hpl | hpl
          · obtain ⟨hps, hok⟩ := h p hpl
            have hop : ops[p]? = some ops[p] := Array.getElem?_eq_getElem hps
            rw [← List.getD_eq_getElem?_getD] at hp2
            exact hok S hS _ hop (hS p _ hop (hp p hp1)) j hp2
          · rw [List.getElem?_eq_none hpl] at hp2; cases hp2
theorem clo_ok {ops : Array Oper} (k : Nat) : CloOk ops k ((clo ops).getD k []) :=
  cloAux_ok ops.toList [] (fun j o h => by simpa using h) (fun k hk => by simp at hk) k

structure Static (P : Program) (ops : Array Oper) : Prop where
  lt : ∀ k o, ops[k]? = some o → ∀ p ∈ preds o, p < k
  dst : ∀ k o, ops[k]? = some o → lightOp P o.op = true → ∃ t, o.dst = some t ∧ t ∉ o.looksAt ops ∧ ∀ j o', ops[j]? = some o' → j ≠ k → t ∈ namesOf ops o' → k ∈ (clo ops).getD j []
  heavy : ∀ k o, ops[k]? = some o → lightOp P o.op = false → ∀ j o', j < k → ops[j]? = some o' → lightOp P o'.op = false → j ∈ (clo ops).getD k []

theorem static_of {P : Program} {ops : Array Oper} (h : drawStatic P ops = true) : Static P ops := by
  unfold drawStatic at h
  simp only [List.all_eq_true, List.mem_range] at h
  have hk : ∀ k o, ops[k]? = some o → k < ops.size := fun k o ho => (Array.getElem?_eq_some_iff.1 ho).1
  refine ⟨fun k o ho p hp => ?_, fun k o ho hl => ?_, fun k o ho hl j o' hjk ho' hl' => ?_⟩
  · have := h k (hk k o ho)
    simp only [ho, Bool.and_eq_true, List.all_eq_true, decide_eq_true_eq] at this
    exact this.1 p hp
  · have := h k (hk k o ho)
    simp only [ho, Bool.and_eq_true, hl, if_true] at this
    have h2 := this.2
    cases hd : o.dst with
    | none => rw [hd] at h2; cases h2
    | some t =>
      rw [hd] at h2
      simp only [Bool.and_eq_true, Bool.not_eq_true', List.all_eq_true, List.mem_range] at h2
      refine ⟨t, rfl, ?_, fun j o' ho' hjk hn => ?_⟩
      · intro hc
        have := h2.1
        rw [List.contains_eq_any_beq] at this
        simp only [List.any_eq_false, beq_iff_eq] at this
        exact this t hc rfl
      · have h3 := h2.2 j (hk j o' ho')
        simp only [ho', Bool.or_eq_true, beq_iff_eq, Bool.not_eq_true', List.contains_iff_mem] at h3
        rcases h3 with (h3 | h3) | h3
        · exact absurd h3 hjk
        · rw [← Bool.not_eq_true, List.contains_iff_mem] at h3
          exact absurd hn h3
        · exact h3
  · have := h k (hk k o ho)
    simp only [ho, Bool.and_eq_true, hl, Bool.false_eq_true, if_false, List.all_eq_true, List.mem_range] at this
    have h3 := this.2 j hjk
    simp only [ho', hl', Bool.false_or, List.contains_iff_mem] at h3
    exact h3

theorem Static.clo_lt {P : Program} {ops : Array Oper} (h : Static P ops) {k j : Nat} {o : Oper} (ho : ops[k]? = some o) (hj : j ∈ (clo ops).getD k []) : j < k :=
  clo_ok k (· < k) (fun i o' ho' hi p hp => Nat.lt_trans (h.lt i o' ho' p hp) hi) o ho (h.lt k o ho) j hj
theorem Static.dst_inj {P : Program} {ops : Array Oper} (h : Static P ops) {i k : Nat} {o o' : Oper} (ho : ops[i]? = some o) (ho' : ops[k]? = some o') (hl : lightOp P o.op = true) (hl' : lightOp P o'.op = true)
    {t : Tmp} (hd : o.dst = some t) (hd' : o'.dst = some t) : i = k := by
  refine Classical.byContradiction fun hne => ?_
  obtain ⟨t1, e1, _, f1⟩ := h.dst i o ho hl
  obtain ⟨t2, e2, _, f2⟩ := h.dst k o' ho' hl'
  rw [hd] at e1; cases e1
  rw [hd'] at e2; cases e2
  have a := h.clo_lt ho' (f1 k o' ho' (Ne.symm hne) (by simp [namesOf, hd']))
  have b := h.clo_lt ho (f2 i o ho hne (by simp [namesOf, hd]))
  omega

/-! ### 28. A pass over the light ones -/
inductive HExt : Heap → Heap → Prop
  | refl (H : Heap) : HExt H H
  | push (H H' : Heap) (b : Blk) (h : HExt H H') : HExt H (H'.push b)
theorem HExt.trans {a b c : Heap} (h : HExt a b) (k : HExt b c) : HExt a c := by
  induction k with
  | refl => exact h
  | push H' x k ih => exact .push _ _ _ ih
theorem HExt.n {a b : Heap} (h : HExt a b) : a.n ≤ b.n := by
  induction h with
  | refl => exact Nat.le_refl _
  | push H' x k ih => simp; omega
theorem HExt.rel {a b : Heap} (h : HExt a b) {μ : Mu} {w : World} (hr : Rel μ a w) : Rel μ b w := by
  induction h with
  | refl => exact hr
  | push H' x k ih => exact ih.push _
theorem HExt.step {a b : Heap} (h : HExt a b) {μ0 μ : Mu} {H0 : Heap} {w0 w : World} (hr : Rel μ a w) (hs : Step μ0 H0 w0 μ a w) : Step μ0 H0 w0 μ b w := by
  induction h with
  | refl => exact hs
  | push H' x k ih => exact ih.push (k.rel hr) _

theorem isDone_set {d : Done} {i j : Nat} (hi : i < d.length) : isDone (d.set i true) j = true ↔ j = i ∨ isDone d j = true := by
  unfold isDone
  rw [List.getD_eq_getElem?_getD, List.getD_eq_getElem?_getD, List.getElem?_set]
  by_cases h : i = j
  · subst h; simp [hi]
  · rw [if_neg h]
    constructor
    · exact .inr
    · rintro (rfl | h')
      · exact absurd rfl h
      · exact h'
theorem isDone_lt {d : Done} {i : Nat} (h : isDone d i = true) : i < d.length := by
  rcases Nat.lt_or_ge i d.length with hl | hl
  · exact hl
  · unfold isDone at h
    rw [List.getD_eq_getElem?_getD, List.getElem?_eq_none hl] at h
    cases h

theorem putT_other {t : List Value} {d : Option Tmp} {v : Value} {u : Tmp} (h : d ≠ some u) : (putT t d v).getD u undef = t.getD u undef := by
  cases d with
  | none => rfl
  | some d =>
    simp only [putT, List.getD_eq_getElem?_getD]
    rw [List.getElem?_set_ne (fun e => h (by rw [e]))]
theorem putT_length {t : List Value} {d : Option Tmp} {v : Value} : (putT t d v).length = t.length := by cases d <;> simp [putT]
theorem putT_same {t : List Value} {u : Tmp} {v : Value} : (putT t (some u) v).getD u undef = v ∨ (putT t (some u) v).getD u undef = undef ∧ t.length ≤ u := by
  simp only [putT, List.getD_eq_getElem?_getD, List.getElem?_set]
  rcases Nat.lt_or_ge u t.length with h | h
  · left; simp [h]
  · right; simp [Nat.not_lt.2 h, h]

theorem execOne_light {call : CallFn} {P : Program} {ops : Array Oper} {s s' : St} {o : Oper} (hl : lightOp P o.op = true) (he : execOne call P ops s o = some s') :
    s'.t.length = s.t.length ∧ (∀ u, o.dst ≠ some u → s'.t.getD u undef = s.t.getD u undef) ∧ HExt s.H s'.H ∧
    (allocOp o.op = true → ∀ t c, o.dst = some t → idOf (s'.t.getD t undef) = some c → c = s.H.n ∧ s'.H.n = s.H.n + 1) := by
  unfold execOne at he
  split at he
  · split at he
    · rename_i v H' hs
      cases he
      rw [stepOp_light hl] at hs
      refine ⟨putT_length, fun u hu => putT_other hu, ?_, ?_⟩
      · by_cases ha : allocOp o.op = true
        · obtain ⟨cs, mk, _, _, rfl⟩ := aop_alloc ha hs
          exact .push _ _ _ (.refl _)
        · rw [aop_light hl (by simpa using ha) hs]
          exact .refl _
      · intro ha t c hd hc
        obtain ⟨cs, mk, h1, rfl, rfl⟩ := aop_alloc ha hs
        rw [hd] at hc
        rcases putT_same (t := s.t) (u := t) (v := mk s.H.n) with e | ⟨e, _⟩
        · rw [e] at hc
          refine ⟨?_, rfl⟩
          have : idOf (mk s.H.n) = some s.H.n := by
            clear hc e hs
            cases o with | mk d op ty ps af g =>
            cases op <;> simp only [allocOp, Bool.false_eq_true] at ha
            all_goals
              simp only [allocCells] at h1
              repeat' (first | (cases h1; rfl) | (split at h1) | (obtain ⟨_, _, h2⟩ := Option.map_eq_some_iff.1 h1; cases h2; rfl) | cases h1)
          rw [this] at hc
          exact (Option.some.inj hc).symm
        · rw [e] at hc; cases hc
    · cases he
  · cases he
    refine ⟨putT_length, fun u hu => putT_other hu, .refl _, ?_⟩
    intro ha t c hd hc
    rw [hd] at hc
    rcases putT_same (t := s.t) (u := t) (v := undef) with e | ⟨e, _⟩
    · rw [e] at hc; cases hc
    · rw [e] at hc; cases hc

structure PassOk (P : Program) (ops : Array Oper) (d : Done) (s : St) (d' : Done) (s' : St) : Prop where
  len : d'.length = d.length
  mono : ∀ i, isDone d i = true → isDone d' i = true
  new : ∀ i, isDone d' i = true → isDone d i = false → ∃ o, ops[i]? = some o ∧ lightOp P o.op = true ∧ ∀ p ∈ preds o, isDone d' p = true
  tlen : s'.t.length = s.t.length
  tm : ∀ u, s'.t.getD u undef = s.t.getD u undef ∨ ∃ i o, ops[i]? = some o ∧ isDone d' i = true ∧ isDone d i = false ∧ o.dst = some u
  ext : HExt s.H s'.H
  ids : ∀ i o t c, ops[i]? = some o → isDone d' i = true → isDone d i = false → allocOp o.op = true → o.dst = some t → idOf (s'.t.getD t undef) = some c → s.H.n ≤ c ∧ c < s'.H.n
  inj : ∀ i j o o' t t' c, ops[i]? = some o → isDone d' i = true → isDone d i = false → allocOp o.op = true → o.dst = some t → idOf (s'.t.getD t undef) = some c →
    ops[j]? = some o' → isDone d' j = true → isDone d j = false → allocOp o'.op = true → o'.dst = some t' → idOf (s'.t.getD t' undef) = some c → i = j

theorem PassOk.refl (P : Program) (ops : Array Oper) (d : Done) (s : St) : PassOk P ops d s d s :=
  ⟨rfl, fun _ h => h, fun i h h' => (by rw [h] at h'; cases h'), rfl, fun _ => .inl rfl, .refl _, fun i o t c _ h h' => (by rw [h] at h'; cases h'),
    fun i j o o' t t' c _ h h' => (by rw [h] at h'; cases h')⟩

theorem lightPass_ok {call : CallFn} {P : Program} {ops : Array Oper} (hst : Static P ops) : ∀ (l : List Nat) (d : Done) (s : St) (d' : Done) (s' : St), d.length = ops.size → lightPass call P ops l d s = some (d', s') →
    PassOk P ops d s d' s' ∧ (∀ i, isDone d' i = true → isDone d i = true ∨ i ∈ l)
  | [], d, s, d', s', _, h => by
    simp only [lightPass, Option.some.injEq, Prod.mk.injEq] at h
    obtain ⟨rfl, rfl⟩ := h
    exact ⟨.refl _ _ _ _, fun _ h => .inl h⟩
  | i :: l, d, s, d', s', hd, h => by
    simp only [lightPass] at h
    split at h
    · cases h
    · rename_i o ho
      have hi : i < d.length := by rw [hd]; exact (Array.getElem?_eq_some_iff.1 ho).1
      split at h
      · rename_i hc
        simp only [Bool.and_eq_true, Bool.not_eq_true'] at hc
        obtain ⟨⟨hnd, hl⟩, hrd⟩ := hc
        split at h
        · rename_i s1 hs1
          obtain ⟨e1, e2, e3, e4⟩ := execOne_light hl hs1
          obtain ⟨q, q2⟩ := lightPass_ok hst l (d.set i true) s1 d' s' (by simpa using hd) h
          have hmono : ∀ k, isDone d k = true → isDone (d.set i true) k = true := fun k hk => (isDone_set hi).2 (.inr hk)
          have hid : isDone d' i = true := q.mono i ((isDone_set hi).2 (.inl rfl))
          have split_new : ∀ k, isDone d' k = true → isDone d k = false → k = i ∨ (isDone (d.set i true) k = false ∧ k ≠ i) := by
            intro k h1 h2
            by_cases hk : k = i
            · exact .inl hk
            · right
              refine ⟨?_, hk⟩
              rw [← Bool.not_eq_true]
              intro hh
              rcases (isDone_set hi).1 hh with rfl | hh
              · exact hk rfl
              · rw [h2] at hh; cases hh
          -- the destination of i is not touched by the others
          have keep : ∀ t, o.dst = some t → s'.t.getD t undef = s1.t.getD t undef := by
            intro t ht
            rcases q.tm t with e | ⟨k, o', ho', hk1, hk2, hk3⟩
            · exact e
            · obtain ⟨o2, ho2, hl2, _⟩ := q.new k hk1 hk2
              rw [ho'] at ho2; cases ho2
              have := hst.dst_inj ho ho' hl hl2 ht hk3
              subst this
              rw [(isDone_set hi).2 (.inl rfl)] at hk2
              cases hk2
          have hids : ∀ t c, allocOp o.op = true → o.dst = some t → idOf (s'.t.getD t undef) = some c → c = s.H.n ∧ s1.H.n = s.H.n + 1 := by
            intro t c ha ht hcid
            rw [keep t ht] at hcid
            exact e4 ha t c ht hcid
          refine ⟨⟨by rw [q.len]; simp, fun k hk => q.mono k (hmono k hk), ?_, by rw [q.tlen, e1], ?_, e3.trans q.ext, ?_, ?_⟩, ?_⟩
          · intro k h1 h2
            rcases split_new k h1 h2 with rfl | ⟨h3, _⟩
            · exact ⟨o, ho, hl, fun p hp => q.mono p (hmono p (by
                unfold readyB at hrd
                exact List.all_eq_true.1 hrd p hp))⟩
            · exact q.new k h1 h3
          · intro u
            rcases q.tm u with e | ⟨k, o', ho', hk1, hk2, hk3⟩
            · by_cases hu : o.dst = some u
              · exact .inr ⟨i, o, ho, hid, hnd, hu⟩
              · exact .inl (e.trans (e2 u hu))
            · refine .inr ⟨k, o', ho', hk1, ?_, hk3⟩
              rw [← Bool.not_eq_true] at hk2 ⊢
              exact fun hh => hk2 (hmono k hh)
          · intro k o' t c ho' h1 h2 ha ht hcid
            rcases split_new k h1 h2 with rfl | ⟨h3, _⟩
            · rw [ho] at ho'; cases ho'
              obtain ⟨rfl, hn⟩ := hids t c ha ht hcid
              have := q.ext.n
              omega
            · obtain ⟨g1, g2⟩ := q.ids k o' t c ho' h1 h3 ha ht hcid
              have := e3.n
              omega
          · intro k j o1 o2 t t' c ho1 a1 a2 a3 a4 a5 ho2 b1 b2 b3 b4 b5
            rcases split_new k a1 a2 with rfl | ⟨c1, _⟩
            · rw [ho] at ho1; cases ho1
              obtain ⟨rfl, hn⟩ := hids t c a3 a4 a5
              rcases split_new j b1 b2 with rfl | ⟨c2, _⟩
              · rfl
              · obtain ⟨g1, g2⟩ := q.ids j o2 t' _ ho2 b1 c2 b3 b4 b5
                omega
            · rcases split_new j b1 b2 with rfl | ⟨c2, _⟩
              · rw [ho] at ho2; cases ho2
                obtain ⟨rfl, hn⟩ := hids t' c b3 b4 b5
                obtain ⟨g1, g2⟩ := q.ids k o1 t _ ho1 a1 c1 a3 a4 a5
                omega
              · exact q.inj k j o1 o2 t t' c ho1 a1 c1 a3 a4 a5 ho2 b1 c2 b3 b4 b5
          · intro k hk
            rcases q2 k hk with h1 | h1
            · rcases (isDone_set hi).1 h1 with rfl | h1
              · exact .inr (by simp)
              · exact .inl h1
            · exact .inr (by simp [h1])
        · cases h
      · obtain ⟨q, q2⟩ := lightPass_ok hst l d s d' s' hd h
        exact ⟨q, fun k hk => (q2 k hk).imp id (fun h => by simp [h])⟩

/-- Behind a pass every light one that hasn't come up waits for something. -/
theorem lightPass_full {call : CallFn} {P : Program} {ops : Array Oper} (hst : Static P ops) : ∀ (l : List Nat) (d : Done) (s : St) (d' : Done) (s' : St), d.length = ops.size → l.Pairwise (· < ·) → lightPass call P ops l d s = some (d', s') →
    ∀ i ∈ l, ∀ o, ops[i]? = some o → lightOp P o.op = true → isDone d' i = false → ∃ p ∈ preds o, isDone d' p = false
  | [], _, _, _, _, _, _, _, i, hi, _, _, _, _ => by cases hi
  | k :: l, d, s, d', s', hd, hp, h, i, hi, o, ho, hl, hnd => by
    simp only [lightPass] at h
    split at h
    · cases h
    · rename_i ok hok
      have hk : k < d.length := by rw [hd]; exact (Array.getElem?_eq_some_iff.1 hok).1
      rw [List.pairwise_cons] at hp
      by_cases hik : i = k
      · subst hik
        rw [ho] at hok; cases hok
        split at h
        · rename_i hc
          split at h
          · rename_i s1 hs1
            obtain ⟨q, _⟩ := lightPass_ok hst l (d.set i true) s1 d' s' (by simpa using hd) h
            have := q.mono i ((isDone_set hk).2 (.inl rfl))
            rw [hnd] at this; cases this
          · cases h
        · rename_i hc
          obtain ⟨q, q2⟩ := lightPass_ok hst l d s d' s' hd h
          have hdi : isDone d i = false := by
            rw [← Bool.not_eq_true]
            intro hh
            rw [q.mono i hh] at hnd; cases hnd
          have hrd : readyB d o = false := by
            rw [← Bool.not_eq_true]
            intro hh
            exact hc (by simp [hdi, hl, hh])
          unfold readyB at hrd
          obtain ⟨p, hp1, hp2⟩ := List.all_eq_false.1 hrd
          refine ⟨p, hp1, ?_⟩
          rw [← Bool.not_eq_true]
          intro hh
          rcases q2 p hh with h1 | h1
          · exact hp2 h1
          · have := hst.lt i o ho p hp1
            have := hp.1 p h1
            omega
      · have hil : i ∈ l := by
          rcases List.mem_cons.1 hi with e | e
          · exact absurd e hik
          · exact e
        split at h
        · split at h
          · rename_i s1 hs1
            exact lightPass_full hst l (d.set k true) s1 d' s' (by simpa using hd) hp.2 h i hil o ho hl hnd
          · cases h
        · exact lightPass_full hst l d s d' s' hd hp.2 h i hil o ho hl hnd
end Go.Ae
