/- Reading, writing and striking a row of the evaluator's heap stand for the same at the machine, wherever the relation holds. -/
import Derived.Test.YtgjpnajfapcobaaGreatAeA
set_option autoImplicit false
set_option linter.unusedVariables false
set_option linter.unusedSimpArgs false
namespace Go.Ae

theorem Heap.set_set (H : Heap) (i : Nat) (x y : Blk) : (H.set i x).set i y = H.set i y := by simp [Heap.set]
theorem Heap.push_set (H : Heap) (x y : Blk) : (H.push x).set H.n y = H.push y := by simp [Heap.set, Heap.push]
theorem Heap.get_set_or {H : Heap} {i j : Nat} {x y b : Blk} (hi : H.get i = some x) (h : (H.set i y).get j = some b) : (j = i ∧ b = y) ∨ (j ≠ i ∧ H.get j = some b) := by
  by_cases e : j = i
  · subst e; rw [Heap.get_set_same _ hi] at h; cases h; exact .inl ⟨rfl, rfl⟩
  · rw [Heap.get_set_other _ _ e (Heap.get_lt hi)] at h; exact .inr ⟨e, h⟩
theorem Heap.get_push_or {H : Heap} {j : Nat} {y b : Blk} (h : (H.push y).get j = some b) : (j = H.n ∧ b = y) ∨ (j ≠ H.n ∧ H.get j = some b) := by
  by_cases e : j = H.n
  · subst e; rw [Heap.get_push_new] at h; cases h; exact .inl ⟨rfl, rfl⟩
  · rw [Heap.get_push_old _ _ e] at h; exact .inr ⟨e, h⟩

/-! ### 6. Reading -/
theorem Rel.cell {μ : Mu} {H : Heap} {w : World} (h : Rel μ H w) {i : Nat} {o : Bool} {cs : List Value} {b sh sz : Nat} (hg : H.get i = some (.row o cs)) (hx : μ i = some (b, sh, sz))
    {j : Nat} {v : Value} (hj : cs[j]? = some v) : ∃ v', w.cell? ⟨b, sh + j, none⟩ = some v' ∧ VR μ v v' := by
  obtain ⟨c, e, fr, h1, h2, h3, h4, _⟩ := h.row i o cs b sh sz hg hx
  obtain ⟨v', a1, a2⟩ := h4 j v hj
  exact ⟨v', by simp [World.cell?, h1, a1], a2⟩

theorem gather {μ : Mu} {g : Nat → Option Value} : ∀ (ds : List Value) (k : Nat), (∀ (j : Nat) (v : Value), ds[j]? = some v → ∃ v', g (k + j) = some v' ∧ VR μ v v') →
    ∃ l', VRs μ ds l' ∧ ∀ (j : Nat) (v : Value), l'[j]? = some v → g (k + j) = some v
  | [], k, _ => ⟨[], .nil, fun j v h => by simp at h⟩
  | d :: ds, k, h => by
    obtain ⟨v0, a1, a2⟩ := h 0 d (by simp)
    obtain ⟨l', b1, b2⟩ := gather ds (k + 1) (fun j v hj => by
      obtain ⟨v', c1, c2⟩ := h (j + 1) v (by simpa using hj)
      exact ⟨v', by rw [← c1]; congr 1; omega, c2⟩)
    refine ⟨v0 :: l', .cons _ _ _ _ a2 b1, fun j v hj => ?_⟩
    cases j with
    | zero => simp at hj; subst hj; exact a1
    | succ j => rw [← b2 j v (by simpa using hj)]; congr 1; omega

theorem Rel.cells {μ : Mu} {H : Heap} {w : World} (h : Rel μ H w) {i : Nat} {o : Bool} {cs : List Value} {b sh sz : Nat} (hg : H.get i = some (.row o cs)) (hx : μ i = some (b, sh, sz))
    (off n : Nat) (hn : off + n ≤ cs.length) : ∃ l', VRs μ ((cs.drop off).take n) l' ∧ l'.length = n ∧ ∀ (j : Nat) (v : Value), l'[j]? = some v → w.cell? ((⟨b, sh + off, none⟩ : Addr).add j) = some v := by
  obtain ⟨l', h1, h2⟩ := gather (μ := μ) (g := fun j => w.cell? ⟨b, sh + off + j, none⟩) ((cs.drop off).take n) 0 (fun j v hj => by
    have hj' : cs[off + j]? = some v := by
      rw [List.getElem?_take] at hj
      split at hj
      · simpa using hj
      · cases hj
    obtain ⟨v', a1, a2⟩ := h.cell hg hx hj'
    exact ⟨v', by rw [← a1]; congr 2; omega, a2⟩)
  refine ⟨l', h1, by have := h1.length; simp at this; omega, fun j v hj => ?_⟩
  rw [Addr.add_lit]
  simpa using h2 j v hj

/-! ### 7. Writing -/
def setAll : List Value → Nat → List Value → List Value
  | cs, _, [] => cs
  | cs, off, v :: vs => setAll (cs.set off v) (off + 1) vs
theorem setAll_length : ∀ (vs cs : List Value) (off : Nat), (setAll cs off vs).length = cs.length
  | [], _, _ => rfl
  | v :: vs, cs, off => by simp [setAll, setAll_length vs]

theorem World.frozen?_cells {w : World} {b : Nat} {c : Array Value} {e : TypeId} {fr : Nat × Nat} (h : w.heap[b]? = some (.cells c e fr)) (j : Nat) :
    w.frozen? ⟨b, j, none⟩ = (decide (fr.1 ≤ j) && decide (j < fr.2)) := by
  simp [World.frozen?, h]

theorem setCell_at {w : World} {b : Nat} {c : Array Value} {e : TypeId} {fr : Nat × Nat} (h : w.heap[b]? = some (.cells c e fr)) (j : Nat) (v : Value) :
    (w.setCell ⟨b, j, none⟩ v).heap[b]? = some (.cells (c.setIfInBounds j v) e fr) := by
  have hlt := (Array.getElem?_eq_some_iff.1 h).1
  simp [World.setCell, Array.getElem?_modify, h]
theorem setCell_other {w : World} {b b' : Nat} (j : Nat) (v : Value) (hne : b' ≠ b) : (w.setCell ⟨b, j, none⟩ v).heap[b']? = w.heap[b']? := by
  simp only [World.setCell, Array.getElem?_modify]
  rw [if_neg (fun h => hne h.symm)]

/-- A change of one own row: its contents, in both worlds; the rest stands. -/
theorem Rel.change {μ : Mu} {H : Heap} {w : World} (h : Rel μ H w) {i : Nat} {cs cs2 : List Value} {b sh sz : Nat} (hg : H.get i = some (.row true cs)) (hx : μ i = some (b, sh, sz))
    {c : Array Value} {e : TypeId} {fr : Nat × Nat} (hw : w.heap[b]? = some (.cells c e fr)) (c2 : Array Value) (hsz : c2.size = c.size) (w2 : World)
    (h2 : w2.heap[b]? = some (.cells c2 e fr)) (ho : ∀ b', b' ≠ b → w2.heap[b']? = w.heap[b']?) (hs : w2.heap.size = w.heap.size) (hos : w2.os = w.os) (ht : w2.tape = w.tape) (hout : w2.output = w.output)
    (hlen : sh + cs2.length ≤ sz) (hc : ∀ (j : Nat) (v : Value), cs2[j]? = some v → ∃ v' : Value, c2[sh + j]? = some v' ∧ VR μ v v') :
    Rel μ (H.set i (.row true cs2)) w2 ∧ Step μ H w μ (H.set i (.row true cs2)) w2 := by
  have hown : isOwn H i := ⟨_, hg, rfl⟩
  have hal : ∀ j, isAlive (H.set i (.row true cs2)) j → isAlive H j := by
    rintro j ⟨x, h1, h2⟩
    rcases Heap.get_set_or hg h1 with ⟨rfl, _⟩ | ⟨_, h1⟩
    · exact hown.alive
    · exact ⟨x, h1, h2⟩
  have how : ∀ j, isOwn (H.set i (.row true cs2)) j → isOwn H j := by
    rintro j ⟨x, h1, h2⟩
    rcases Heap.get_set_or hg h1 with ⟨rfl, _⟩ | ⟨_, h1⟩
    · exact hown
    · exact ⟨x, h1, h2⟩
  obtain ⟨c', e', fr', r1, r2, r3, r4, r5⟩ := h.row i true cs b sh sz hg hx
  rw [hw] at r1
  cases r1
  have hne : ∀ j b' sh' sz', μ j = some (b', sh', sz') → isAlive H j → j ≠ i → b' ≠ b := by
    rintro j b' sh' sz' hj ha hji rfl
    exact hji (h.excl i j b' sh sz sh' sz' hx hj hown ha).symm
  refine ⟨⟨h.dom, fun j b' s z hj => by rw [hs]; exact h.lt j b' s z hj, ?_, ?_, ?_⟩, ⟨hos, ht, hout, by omega, Mu.le_refl _, by simp, fun _ _ h => h, ?_, ?_⟩⟩
  · intro j o ds b' sh' sz' hgj hj
    rcases Heap.get_set_or hg hgj with ⟨rfl, hb⟩ | ⟨hji, hgj⟩
    · cases hb
      rw [hx] at hj; cases hj
      exact ⟨c2, e, fr, h2, by omega, hlen, hc, r5⟩
    · obtain ⟨c', e', fr', q1, q2⟩ := h.row j o ds b' sh' sz' hgj hj
      exact ⟨c', e', fr', by rw [ho b' (hne j b' sh' sz' hj ⟨_, hgj, rfl⟩ hji)]; exact q1, q2⟩
  · intro j es b' sh' sz' hgj hj
    rcases Heap.get_set_or hg hgj with ⟨rfl, hb⟩ | ⟨hji, hgj⟩
    · cases hb
    · obtain ⟨a, clk, q1, q2⟩ := h.map j es b' sh' sz' hgj hj
      exact ⟨a, clk, by rw [ho b' (hne j b' sh' sz' hj ⟨_, hgj, rfl⟩ hji)]; exact q1, q2⟩
  · intro j k b' s z s' z' hj hk ho' ha
    exact h.excl j k b' s z s' z' hj hk (how j ho') (hal k ha)
  · intro b' hb' hno
    exact ho b' (fun e => hno (e ▸ ⟨i, sh, sz, hx, hown⟩))
  · rintro b' hb' ⟨j, s, z, hj, hjo⟩
    exact ⟨j, s, z, hj, how j hjo⟩

theorem Rel.set_cell {μ : Mu} {H : Heap} {w : World} (h : Rel μ H w) {i : Nat} {cs : List Value} {b sh sz : Nat} (hg : H.get i = some (.row true cs)) (hx : μ i = some (b, sh, sz))
    {off : Nat} (hoff : off < cs.length) {v v' : Value} (hv : VR μ v v') :
    Rel μ (H.set i (.row true (cs.set off v))) (w.setCell ⟨b, sh + off, none⟩ v') ∧ Step μ H w μ (H.set i (.row true (cs.set off v))) (w.setCell ⟨b, sh + off, none⟩ v') ∧
      (∃ u, w.cell? ⟨b, sh + off, none⟩ = some u) ∧ w.frozen? ⟨b, sh + off, none⟩ = false := by
  obtain ⟨c, e, fr, r1, r2, r3, r4, r5⟩ := h.row i true cs b sh sz hg hx
  obtain ⟨u, hu, _⟩ := h.cell hg hx (j := off) (v := cs[off]) (by simp [hoff])
  have := h.change hg hx (cs2 := cs.set off v) r1 (c.setIfInBounds (sh + off) v') (by simp) (w.setCell ⟨b, sh + off, none⟩ v') (setCell_at r1 _ _) (fun b' hb => setCell_other _ _ hb)
    (by simp) rfl rfl rfl (by simpa using r3) (by
      intro j x hj
      rw [List.getElem?_set] at hj
      by_cases e1 : off = j
      · subst e1
        simp [hoff] at hj
        subst hj
        refine ⟨v', ?_, hv⟩
        rw [Array.getElem?_setIfInBounds]
        simp
        omega
      · rw [if_neg e1] at hj
        obtain ⟨x', a1, a2⟩ := r4 j x hj
        refine ⟨x', ?_, a2⟩
        rw [Array.getElem?_setIfInBounds_ne (by omega)]
        exact a1)
  refine ⟨this.1, this.2, ⟨u, hu⟩, ?_⟩
  rw [World.frozen?_cells r1]
  have := r5 rfl (sh + off) (by omega)
  simp only [Bool.and_eq_false_iff, decide_eq_false_iff_not]
  omega

theorem Rel.grow_cell {μ : Mu} {H : Heap} {w : World} (h : Rel μ H w) {i : Nat} {cs : List Value} {b sh sz : Nat} (hg : H.get i = some (.row true cs)) (hx : μ i = some (b, sh, sz))
    (hoff : sh + cs.length < sz) {v v' : Value} (hv : VR μ v v') :
    Rel μ (H.set i (.row true (cs ++ [v]))) (w.setCell ⟨b, sh + cs.length, none⟩ v') ∧ Step μ H w μ (H.set i (.row true (cs ++ [v]))) (w.setCell ⟨b, sh + cs.length, none⟩ v') ∧
      (∃ u, w.cell? ⟨b, sh + cs.length, none⟩ = some u) ∧ w.frozen? ⟨b, sh + cs.length, none⟩ = false := by
  obtain ⟨c, e, fr, r1, r2, r3, r4, r5⟩ := h.row i true cs b sh sz hg hx
  have := h.change hg hx (cs2 := cs ++ [v]) r1 (c.setIfInBounds (sh + cs.length) v') (by simp) (w.setCell ⟨b, sh + cs.length, none⟩ v') (setCell_at r1 _ _) (fun b' hb => setCell_other _ _ hb)
    (by simp) rfl rfl rfl (by simp; omega) (by
      intro j x hj
      rcases Nat.lt_trichotomy j cs.length with e1 | e1 | e1
      · rw [List.getElem?_append_left e1] at hj
        obtain ⟨x', a1, a2⟩ := r4 j x hj
        refine ⟨x', ?_, a2⟩
        rw [Array.getElem?_setIfInBounds_ne (by omega)]
        exact a1
      · subst e1
        simp at hj
        subst hj
        refine ⟨v', ?_, hv⟩
        rw [Array.getElem?_setIfInBounds]
        simp
        omega
      · rw [List.getElem?_eq_none (by simp; omega)] at hj
        cases hj)
  refine ⟨this.1, this.2, ⟨c[sh + cs.length]'(by omega), by simp [World.cell?, r1]⟩, ?_⟩
  rw [World.frozen?_cells r1]
  have := r5 rfl (sh + cs.length) (by omega)
  simp only [Bool.and_eq_false_iff, decide_eq_false_iff_not]
  omega

theorem run_store_ok {P : Program} {w : World} {a : Addr} {v u : Value} (h1 : v.oneCell' = true) (hc : w.cell? a = some u) (hf : w.frozen? a = false) :
    (store a v).run P w = .ok () (w.setCell a v) := by
  rw [run_store P w a v _ h1, hc]; simp [hf]

theorem Rel.store_cells {P : Program} {μ : Mu} {i b sh sz : Nat} (hx : μ i = some (b, sh, sz)) : ∀ (vs vs' : List Value) (H : Heap) (w : World) (cs : List Value) (off k p : Nat), Rel μ H w → VRs μ vs vs' → vs.all Value.oneCell' = true →
    H.get i = some (.row true cs) → off + k = p → p + vs.length ≤ cs.length →
    ∃ w', (storeCells ⟨b, sh + off, none⟩ vs' k).run P w = .ok () w' ∧ Rel μ (H.set i (.row true (setAll cs p vs))) w' ∧ Step μ H w μ (H.set i (.row true (setAll cs p vs))) w'
  | [], vs', H, w, cs, off, k, p, h, hv, h1, hg, hp, hl => by
    cases hv
    have e : H.set i (.row true (setAll cs p [])) = H := by
      unfold Heap.set setAll
      have hi := Heap.get_lt hg
      unfold Heap.get at hg
      simp only [hi, if_true] at hg
      obtain ⟨hl, he⟩ := List.getElem?_eq_some_iff.1 hg
      rw [← he]
      simp
    rw [e]
    exact ⟨w, rfl, h, Step.refl _ _ _⟩
  | v :: vs, vs', H, w, cs, off, k, p, h, hv, h1, hg, hp, hl => by
    obtain _ | ⟨_, v', _, vs', hv0, hvs⟩ := hv
    simp only [List.all_cons, Bool.and_eq_true] at h1
    simp only [List.length_cons] at hl
    obtain ⟨q1, q2, ⟨u, q3⟩, q4⟩ := h.set_cell hg hx (off := p) (by omega) hv0
    have hg1 : (H.set i (.row true (cs.set p v))).get i = some (.row true (cs.set p v)) := Heap.get_set_same _ hg
    obtain ⟨w', e1, e2, e3⟩ := Rel.store_cells (P := P) hx vs vs' _ _ (cs.set p v) off (k + 1) (p + 1) q1 hvs h1.2 hg1 (by omega) (by simp; omega)
    rw [Heap.set_set] at e2 e3
    refine ⟨w', ?_, e2, q2.trans e3⟩
    have ha : (⟨b, sh + off, none⟩ : Addr).add k = ⟨b, sh + p, none⟩ := by rw [Addr.add_lit, Nat.add_assoc, hp]
    unfold storeCells
    simp only [Sem.run_bind, ha]
    rw [run_store_ok (by rw [hv0.oneCell]; exact h1.1) q3 q4]
    simpa using e1

theorem Rel.grow_cells {P : Program} {μ : Mu} {i b sh sz : Nat} (hx : μ i = some (b, sh, sz)) : ∀ (vs vs' : List Value) (H : Heap) (w : World) (cs : List Value) (off k : Nat), Rel μ H w → VRs μ vs vs' → vs.all Value.oneCell' = true →
    H.get i = some (.row true cs) → off + k = sh + cs.length → sh + cs.length + vs.length ≤ sz →
    ∃ w', (storeCells ⟨b, off, none⟩ vs' k).run P w = .ok () w' ∧ Rel μ (H.set i (.row true (cs ++ vs))) w' ∧ Step μ H w μ (H.set i (.row true (cs ++ vs))) w'
  | [], vs', H, w, cs, off, k, h, hv, h1, hg, hp, hl => by
    cases hv
    have e : H.set i (.row true (cs ++ [])) = H := by
      unfold Heap.set
      have hi := Heap.get_lt hg
      unfold Heap.get at hg
      simp only [hi, if_true] at hg
      obtain ⟨hl, he⟩ := List.getElem?_eq_some_iff.1 hg
      rw [List.append_nil, ← he]
      simp
    rw [e]
    exact ⟨w, rfl, h, Step.refl _ _ _⟩
  | v :: vs, vs', H, w, cs, off, k, h, hv, h1, hg, hp, hl => by
    obtain _ | ⟨_, v', _, vs', hv0, hvs⟩ := hv
    simp only [List.all_cons, Bool.and_eq_true] at h1
    simp only [List.length_cons] at hl
    obtain ⟨q1, q2, ⟨u, q3⟩, q4⟩ := h.grow_cell hg hx (by omega) hv0
    have hg1 : (H.set i (.row true (cs ++ [v]))).get i = some (.row true (cs ++ [v])) := Heap.get_set_same _ hg
    obtain ⟨w', e1, e2, e3⟩ := Rel.grow_cells (P := P) hx vs vs' _ _ (cs ++ [v]) off (k + 1) q1 hvs h1.2 hg1 (by simp; omega) (by simp; omega)
    rw [Heap.set_set] at e2 e3
    rw [List.append_assoc] at e2 e3
    refine ⟨w', ?_, e2, q2.trans e3⟩
    have ha : (⟨b, off, none⟩ : Addr).add k = ⟨b, sh + cs.length, none⟩ := by rw [Addr.add_lit, hp]
    unfold storeCells
    simp only [Sem.run_bind, ha]
    rw [run_store_ok (by rw [hv0.oneCell]; exact h1.1) q3 q4]
    simpa using e1

/-- A row is given up. -/
theorem Rel.kill {μ : Mu} {H : Heap} {w : World} (h : Rel μ H w) {i : Nat} {x : Blk} (hg : H.get i = some x) :
    Rel μ (H.set i .dead) w ∧ Step μ H w μ (H.set i .dead) w := by
  have hal : ∀ j, isAlive (H.set i .dead) j → isAlive H j := by
    rintro j ⟨x, h1, h2⟩
    rcases Heap.get_set_or hg h1 with ⟨rfl, rfl⟩ | ⟨_, h1⟩
    · cases h2
    · exact ⟨x, h1, h2⟩
  have how : ∀ j, isOwn (H.set i .dead) j → isOwn H j := by
    rintro j ⟨x, h1, h2⟩
    rcases Heap.get_set_or hg h1 with ⟨rfl, rfl⟩ | ⟨_, h1⟩
    · cases h2
    · exact ⟨x, h1, h2⟩
  refine ⟨⟨h.dom, h.lt, ?_, ?_, ?_⟩, ⟨rfl, rfl, rfl, Nat.le_refl _, Mu.le_refl _, by simp, fun _ _ h => h, fun _ _ _ => rfl, ?_⟩⟩
  · intro j o ds b' sh' sz' hgj hj
    rcases Heap.get_set_or hg hgj with ⟨rfl, hb⟩ | ⟨hji, hgj⟩
    · cases hb
    · exact h.row j o ds b' sh' sz' hgj hj
  · intro j es b' sh' sz' hgj hj
    rcases Heap.get_set_or hg hgj with ⟨rfl, hb⟩ | ⟨hji, hgj⟩
    · cases hb
    · exact h.map j es b' sh' sz' hgj hj
  · intro j k b' s z s' z' hj hk ho' ha
    exact h.excl j k b' s z s' z' hj hk (how j ho') (hal k ha)
  · rintro b' hb' ⟨j, s, z, hj, hjo⟩
    exact ⟨j, s, z, hj, how j hjo⟩

/-- A part of an own row, in its place: a new name for the same memory. -/
theorem Rel.rebase {μ : Mu} {H : Heap} {w : World} (h : Rel μ H w) {i : Nat} {cs : List Value} {b sh sz : Nat} (hg : H.get i = some (.row true cs)) (hx : μ i = some (b, sh, sz))
    (off n : Nat) (hn : off + n ≤ cs.length) :
    Rel (μ.put H.n (b, sh + off, sz)) ((H.set i .dead).push (.row true ((cs.drop off).take n))) w ∧
    Step μ H w (μ.put H.n (b, sh + off, sz)) ((H.set i .dead).push (.row true ((cs.drop off).take n))) w := by
  have hfr := h.fresh
  have hm : μ.le (μ.put H.n (b, sh + off, sz)) := Mu.le_put _ hfr
  have hown : isOwn H i := ⟨_, hg, rfl⟩
  have hi := Heap.get_lt hg
  obtain ⟨c, e, fr, r1, r2, r3, r4, r5⟩ := h.row i true cs b sh sz hg hx
  have hget : ∀ j x, ((H.set i .dead).push (.row true ((cs.drop off).take n))).get j = some x → (j = H.n ∧ x = .row true ((cs.drop off).take n)) ∨ (j = i ∧ x = .dead) ∨ (j ≠ H.n ∧ j ≠ i ∧ H.get j = some x) := by
    intro j x hj
    rcases Heap.get_push_or hj with ⟨e1, e2⟩ | ⟨e1, e2⟩
    · exact .inl ⟨e1, e2⟩
    · rcases Heap.get_set_or hg e2 with ⟨e3, e4⟩ | ⟨e3, e4⟩
      · exact .inr (.inl ⟨e3, e4⟩)
      · exact .inr (.inr ⟨e1, e3, e4⟩)
  have hne : ∀ j b' sh' sz', μ j = some (b', sh', sz') → isAlive H j → j ≠ i → b' ≠ b := by
    rintro j b' sh' sz' hj ha hji rfl
    exact hji (h.excl i j b' sh sz sh' sz' hx hj hown ha).symm
  refine ⟨⟨?_, ?_, ?_, ?_, ?_⟩, ⟨rfl, rfl, rfl, Nat.le_refl _, hm, by simp, fun i hi e => by rw [Mu.put_other _ _ (by omega)]; exact e, fun _ _ _ => rfl, ?_⟩⟩
  · intro j x hj
    by_cases ej : j = H.n
    · subst ej; simp
    · rw [Mu.put_other _ _ ej] at hj
      have := h.dom j x hj
      simp; omega
  · intro j b' s z hj
    by_cases ej : j = H.n
    · subst ej; rw [Mu.put_same] at hj; cases hj; exact h.lt i _ _ _ hx
    · rw [Mu.put_other _ _ ej] at hj; exact h.lt j b' s z hj
  · intro j o ds b' sh' sz' hgj hj
    rcases hget j _ hgj with ⟨rfl, hb⟩ | ⟨rfl, hb⟩ | ⟨e1, e2, hgj⟩
    · cases hb
      rw [Mu.put_same] at hj; cases hj
      refine ⟨c, e, fr, r1, r2, by simp; omega, fun k v hk => ?_, r5⟩
      rw [List.getElem?_take] at hk
      split at hk
      · rw [List.getElem?_drop] at hk
        obtain ⟨v', a1, a2⟩ := r4 (off + k) v hk
        exact ⟨v', by rw [← a1]; congr 1; omega, a2.mono hm⟩
      · cases hk
    · cases hb
    · rw [Mu.put_other _ _ e1] at hj
      obtain ⟨c', e', fr', q1, q2, q3, q4, q5⟩ := h.row j o ds b' sh' sz' hgj hj
      exact ⟨c', e', fr', q1, q2, q3, fun k v hk => by
        obtain ⟨v', a1, a2⟩ := q4 k v hk
        exact ⟨v', a1, a2.mono hm⟩, q5⟩
  · intro j es b' sh' sz' hgj hj
    rcases hget j _ hgj with ⟨rfl, hb⟩ | ⟨rfl, hb⟩ | ⟨e1, e2, hgj⟩
    · cases hb
    · cases hb
    · rw [Mu.put_other _ _ e1] at hj
      obtain ⟨a, clk, q1, q2⟩ := h.map j es b' sh' sz' hgj hj
      exact ⟨a, clk, q1, q2.mono hm⟩
  · intro j k b' s z s' z' hj hk ho' ha
    obtain ⟨x, x1, x2⟩ := ho'
    obtain ⟨y, y1, y2⟩ := ha
    rcases hget j _ x1 with ⟨ej, hb⟩ | ⟨ej, hb⟩ | ⟨e1, e2, hgj⟩
    · subst ej
      rw [Mu.put_same] at hj; cases hj
      rcases hget k _ y1 with ⟨ek, _⟩ | ⟨ek, hb'⟩ | ⟨f1, f2, hgk⟩
      · exact ek.symm
      · subst hb'; cases y2
      · rw [Mu.put_other _ _ f1] at hk
        exact absurd rfl (hne k _ _ _ hk ⟨y, hgk, y2⟩ f2)
    · subst hb; cases x2
    · rw [Mu.put_other _ _ e1] at hj
      rcases hget k _ y1 with ⟨ek, _⟩ | ⟨ek, hb'⟩ | ⟨f1, f2, hgk⟩
      · subst ek
        rw [Mu.put_same] at hk; cases hk
        exact absurd rfl (hne j _ _ _ hj (isOwn.alive ⟨x, hgj, x2⟩) e2)
      · subst hb'; cases y2
      · rw [Mu.put_other _ _ f1] at hk
        exact h.excl j k b' s z s' z' hj hk ⟨x, hgj, x2⟩ ⟨y, hgk, y2⟩
  · rintro b' hb' ⟨j, s, z, hj, x, x1, x2⟩
    rcases hget j _ x1 with ⟨ej, hb⟩ | ⟨ej, hb⟩ | ⟨e1, e2, hgj⟩
    · subst ej; rw [Mu.put_same] at hj; cases hj; exact ⟨i, sh, sz, hx, hown⟩
    · subst hb; cases x2
    · rw [Mu.put_other _ _ e1] at hj; exact ⟨j, s, z, hj, x, hgj, x2⟩
end Go.Ae
