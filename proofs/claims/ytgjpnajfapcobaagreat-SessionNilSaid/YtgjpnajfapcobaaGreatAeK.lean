/- An operation that allocates or only reads keeps its meaning when other blocks are made beside it. -/
import Derived.Test.YtgjpnajfapcobaaGreatAeJ
set_option autoImplicit false
set_option linter.unusedVariables false
set_option linter.unusedSimpArgs false
namespace Go.Ae

/-! ### 26. Making operations, whatever name their row gets -/
theorem allocShape {P : Program} {μ : Mu} {w : World} {e : Operand → Option Value} {ρ : Operand → Value} {o : Oper} {cs : List Value} {mk : Nat → Value}
    (hρ : ∀ x ∈ o.op.operands.toList, ∀ v, e x = some v → VR μ v (ρ x)) (he : allocCells P e o.op = some (cs, mk)) :
    ∃ (v' : Value) (c : Array Value) (el : TypeId), (execOp ρ o).run P w = .ok (.value v') (w.alloc (.cells c el)) ∧ cs.length ≤ c.size ∧
      (∀ (j : Nat) (v : Value), cs[j]? = some v → ∃ v' : Value, c[j]? = some v' ∧ VR μ v v') ∧ ∀ (μ' : Mu) (i : Nat), μ' i = some (w.heap.size, 0, c.size) → VR μ' (mk i) v' := by
  obtain ⟨dst, op, ty, pos, after, guard⟩ := o
  simp only at he hρ ⊢
  have row : ∀ (t : TypeId) (v v' : Value), VR μ v v' → ∀ s : Sem Value, s.run P w = .ok (.pointer (some ⟨w.heap.size, 0, none⟩)) (w.alloc (.cells v'.cells t)) → (∀ b, (do pure (.value (← s)) : Sem Next).run P b = (s.run P b).andThen fun x w' => .ok (.value x) w') →
      ∃ (u : Value) (c : Array Value) (el : TypeId), (do pure (.value (← s)) : Sem Next).run P w = .ok (.value u) (w.alloc (.cells c el)) ∧ v.cells.toList.length ≤ c.size ∧
      (∀ (j : Nat) (x : Value), v.cells.toList[j]? = some x → ∃ v' : Value, c[j]? = some v' ∧ VR μ x v') ∧ ∀ (μ' : Mu) (i : Nat), μ' i = some (w.heap.size, 0, c.size) → VR μ' (.pointer (some ⟨i, 0, none⟩)) u := by
    intro t v v' hv s hs hb
    have hc := hv.cells
    have hl := hc.length
    refine ⟨_, v'.cells, t, by rw [hb, hs]; rfl, by simp only [Array.length_toList] at hl ⊢; omega, fun j x hj => ?_, fun μ' i hi => ?_⟩
    · obtain ⟨x', a1, a2⟩ := hc.get j x hj
      exact ⟨x', by simpa using a1, a2⟩
    · have := VR.ptr (μ := μ') i 0 w.heap.size 0 _ hi
      simpa using this
  unfold allocCells at he
  split at he
  · rename_i t
    split at he
    · rename_i z hz
      cases he
      exact row t z z (zeroOf_VR hz μ) (Instr.alloc t true (.tuple #[])) (by simp [Instr.alloc, run_zeroValue hz, newVar, newRow]) (fun b => by simp)
    · cases he
  · rename_i t x
    split at he
    · rename_i v hv
      cases he
      exact row t v (ρ x) (hρ x (by simp [Op.operands]) _ hv) (Instr.box t (ρ x)) (by simp [Instr.box, newVar, newRow]) (fun b => by simp)
    · cases he
  · rename_i t len ps
    split at he
    · rename_i vs el hvs hu
      split at he
      · rename_i size z hs hz
        split at he
        · rename_i hc
          obtain ⟨c1, c2, c3⟩ := hc
          obtain ⟨cs0, hf, hr⟩ := Option.map_eq_some_iff.1 he
          simp only [Prod.mk.injEq] at hr
          obtain ⟨rfl, rfl⟩ := hr
          have hp := evP_sound ps.toList vs (fun x hx => hρ x (by simpa [Op.operands] using hx)) hvs
          have hp' : VRp μ vs (ps.map fun p => (p.1, ρ p.2)).toList := by simpa using hp
          have hzs : z.cells.size = size := by simpa using c3
          have hzz : VRs μ (zeros z.cells.toList len) ((Array.range (len * size)).map (fun i => z.cells[i % z.cells.size]!)).toList := by
            rw [← hzs, range_zeros _ _ (by omega)]
            exact (zeroOf_VR hz μ).cells.zeros len
          obtain ⟨r', q1, q2⟩ := fill_sound _ _ _ _ _ hp' hzz hf
          have hl := q2.length
          simp only [Array.length_toList] at hl
          refine ⟨.slice (some ⟨w.heap.size, 0, none⟩) len len, r', el, ?_, by omega, fun j x hj => ?_, fun μ' i hi => ?_⟩
          · have hrun : (Instr.buildSlice t len (ps.map fun p => (p.1, ρ p.2))).run P w = .ok (.slice (some ⟨w.heap.size, 0, none⟩) len len) (w.alloc (.cells r' el)) := by
              simp only [Instr.buildSlice, Sem.run_bind, run_underlying hu, Result.andThen_ok, run_sizeOf hs]
              rw [if_neg (by omega)]
              by_cases h0 : len * size = 0
              · have hl0 : len = 0 := by
                  rcases Nat.mul_eq_zero.1 h0 with h1 | h1
                  · exact h1
                  · omega
                subst hl0
                simp only [Nat.zero_mul, if_true, Sem.run_pure, Result.andThen_ok, Sem.run_bind]
                have e1 : Instr.fill (fun i => some (i * size, size)) (Array.map (fun i => (#[] : Array Value)[i % (#[] : Array Value).size]!) (Array.range 0)) (ps.map fun p => (p.1, ρ p.2)).toList = some r' := by
                  rw [← q1]; congr 1; simp
                rw [e1]
                simp [newRow]
              · simp only [h0, if_false, Sem.run_bind, run_zeroValue hz, Result.andThen_ok, Sem.run_pure, q1]
                simp [newRow]
            show (do pure (.value (← Instr.buildSlice t len (ps.map fun p => (p.1, ρ p.2)))) : Sem Next).run P w = _
            simp only [Sem.run_bind, hrun, Result.andThen_ok, Sem.run_pure]
          · obtain ⟨x', b1, b2⟩ := q2.get j x hj
            exact ⟨x', by simpa using b1, b2⟩
          · have := VR.slice (μ := μ') i 0 len len w.heap.size 0 r'.size len ⟨w.heap.size, 0, none⟩ hi (fun _ => rfl) (Nat.le_refl _) (fun _ => rfl) (fun k hk hh => by omega)
            exact this
        · cases he
      · cases he
    · cases he
  · rename_i t x y
    split at he
    · rename_i kl l kc c hx hy
      split at he
      · rename_i el hu
        split at he
        · rename_i size by_ z hs hb hz
          split at he
          · rename_i hc
            obtain ⟨c1, c2, c3, c4, c5, c6⟩ := hc
            simp only [Option.some.injEq, Prod.mk.injEq] at he
            obtain ⟨rfl, rfl⟩ := he
            obtain ⟨i0, hi, hz'⟩ := zeroOf_info hz
            have hsz := szOf_info hs hi
            have hby := bytesOf_info hb hi
            have hr := run_make (P := P) w t el i0 z hu hi hz' kl kc l c c1 c2 (by rw [hby]; exact c3) c4
            have hzs : z.cells.size = size := by simpa using c6
            have hmc : (madeCells z.cells (c.toNat * i0.size)).toList = zeros z.cells.toList c.toNat := by
              unfold madeCells; rw [hsz, ← hzs]; exact range_zeros _ _ (by omega)
            have hsize : (madeCells z.cells (c.toNat * i0.size)).size = c.toNat * size := by rw [size_madeCells, hsz]
            have e1 := (hρ x (by simp [Op.operands]) _ hx).inv_int
            have e2 := (hρ y (by simp [Op.operands]) _ hy).inv_int
            refine ⟨.slice (some ⟨w.heap.size, 0, none⟩) l.toNat c.toNat, madeCells z.cells (c.toNat * i0.size), el, ?_, by rw [← hmc]; simp, fun j u hj => ?_, fun μ' i hi => ?_⟩
            · show (do pure (.value (← Instr.makeSlice t (ρ x) (ρ y))) : Sem Next).run P w = _
              rw [e1, e2]
              simp only [Sem.run_bind, hr, Result.andThen_ok, Sem.run_pure]
            · obtain ⟨u', b1, b2⟩ := ((zeroOf_VR hz μ).cells.zeros c.toNat).get j u hj
              exact ⟨u', by rw [← Array.getElem?_toList, hmc]; exact b1, b2⟩
            · exact VR.slice (μ := μ') i 0 l.toNat (if l = c then l.toNat else l.toNat + 1 + size) w.heap.size 0 _ c.toNat ⟨w.heap.size, 0, none⟩ hi (fun _ => rfl) (by omega)
                (fun hh => by split at hh <;> omega) (fun k hk hh => by
                  rw [hsize]
                  split at hh
                  · omega
                  · have : k = size := by omega
                    subst this; omega)
          · cases he
        · cases he
      · cases he
    · cases he
  · cases he

/-- What a making operation does to the abstract heap. -/
theorem aop_alloc {P : Program} {e : Operand → Option Value} {H H' : Heap} {op : Op} {v : Value} (ha : allocOp op = true) (he : aop P e H op = some (v, H')) :
    ∃ cs mk, allocCells P e op = some (cs, mk) ∧ v = mk H.n ∧ H' = H.push (.row true cs) := by
  cases op
  case alloc t =>
    simp only [aop] at he
    split at he
    · rename_i z hz; cases he; exact ⟨_, fun i => .pointer (some ⟨i, 0, none⟩), by simp only [allocCells, hz], rfl, rfl⟩
    · cases he
  case box t x =>
    simp only [aop] at he
    split at he
    · rename_i z hz; cases he; exact ⟨_, fun i => .pointer (some ⟨i, 0, none⟩), by simp only [allocCells, hz], rfl, rfl⟩
    · cases he
  case buildSlice t len ps =>
    simp only [aop] at he
    split at he
    · rename_i vs hvs
      unfold aBuildSlice at he
      split at he
      · rename_i el hu
        split at he
        · rename_i size z hs hz
          split at he
          · rename_i hc
            obtain ⟨cs, hf, hr⟩ := Option.map_eq_some_iff.1 he
            cases hr
            exact ⟨cs, fun i => .slice (some ⟨i, 0, none⟩) len len, by simp only [allocCells, hvs, hu, hs, hz, if_pos hc, hf, Option.map_some], rfl, rfl⟩
          · cases he
        · cases he
      · cases he
    · cases he
  case makeSlice t x y =>
    simp only [aop] at he
    split at he
    · rename_i u u2 hx hy
      unfold aMake at he
      split at he
      · rename_i kl l kc c
        split at he
        · rename_i el hu
          split at he
          · rename_i size by_ z hs hb hz
            split at he
            · rename_i hc
              cases he
              exact ⟨_, fun i => .slice (some ⟨i, 0, none⟩) l.toNat (if l = c then l.toNat else l.toNat + 1 + size), by simp only [allocCells, hx, hy, hu, hs, hb, hz, if_pos hc], rfl, rfl⟩
            · cases he
          · cases he
        · cases he
      · cases he
    · cases he
  all_goals (simp [allocOp] at ha)

/-- The other light ones leave the heap. -/
theorem aop_light {P : Program} {e : Operand → Option Value} {H H' : Heap} {op : Op} {v : Value} (hl : lightOp P op = true) (ha : allocOp op = false) (he : aop P e H op = some (v, H')) : H' = H := by
  cases op
  case move x => obtain ⟨u, h1, h2⟩ := Option.map_eq_some_iff.1 he; cases h2; rfl
  case pick c a b =>
    simp only [aop] at he
    split at he
    · cases he; rfl
    · cases he
  case build t ps =>
    simp only [aop] at he
    split at he
    · obtain ⟨u, h1, h2⟩ := Option.map_eq_some_iff.1 he; cases h2; rfl
    · cases he
  case load t x =>
    simp only [aop] at he
    split at he
    · obtain ⟨u, h1, h2⟩ := Option.map_eq_some_iff.1 he; cases h2; rfl
    · cases he
  case nilCheck x =>
    simp only [aop] at he
    split at he
    · obtain ⟨u, h1, h2⟩ := Option.map_eq_some_iff.1 he; cases h2; rfl
    · cases he
  case binOp o t x y yt =>
    simp only [aop] at he
    split at he
    · obtain ⟨u, h1, h2⟩ := Option.map_eq_some_iff.1 he; cases h2; rfl
    · cases he
  case unOp o t x =>
    simp only [aop] at he
    split at he
    · obtain ⟨u, h1, h2⟩ := Option.map_eq_some_iff.1 he; cases h2; rfl
    · cases he
  case convert s d x =>
    simp only [lightOp, Bool.and_eq_true, Bool.not_eq_true'] at hl
    simp only [aop] at he
    split at he
    · unfold aConvert at he
      split at he
      · cases he; rfl
      · cases he; rfl
      · rename_i hs hd hx
        have := hl.2
        unfold isSliceT at this
        rw [hd] at this
        cases this
      · rename_i hs hd hx
        have := hl.1
        unfold isSliceT at this
        rw [hs] at this
        cases this
      · rename_i hs hd hx
        have := hl.1
        unfold isSliceT at this
        rw [hs] at this
        cases this
      · cases he
    · cases he
  case makeInterface t x =>
    simp only [aop] at he
    split at he
    · split at he
      · cases he
      · cases he; rfl
    · cases he
  case makeFunc fn xs ys =>
    simp only [aop] at he
    split at he
    · cases he; rfl
    · cases he
  case slice t x lo hi mx =>
    simp only [aop] at he
    split at he
    · obtain ⟨u, h1, h2⟩ := Option.map_eq_some_iff.1 he; cases h2; rfl
    · cases he
  case fieldAddr t x f =>
    simp only [aop] at he
    split at he
    · obtain ⟨u, h1, h2⟩ := Option.map_eq_some_iff.1 he; cases h2; rfl
    · cases he
  case field t x f =>
    simp only [aop] at he
    split at he
    · obtain ⟨u, h1, h2⟩ := Option.map_eq_some_iff.1 he; cases h2; rfl
    · cases he
  case indexAddr t x y =>
    simp only [aop] at he
    split at he
    · obtain ⟨u, h1, h2⟩ := Option.map_eq_some_iff.1 he; cases h2; rfl
    · cases he
  case index t x y =>
    simp only [aop] at he
    split at he
    · obtain ⟨u, h1, h2⟩ := Option.map_eq_some_iff.1 he; cases h2; rfl
    · cases he
  case lookup t x y ok =>
    simp only [aop] at he
    split at he
    · obtain ⟨u, h1, h2⟩ := Option.map_eq_some_iff.1 he; cases h2; rfl
    · cases he
  case typeAssert x xt t ok =>
    simp only [aop] at he
    split at he
    · obtain ⟨u, h1, h2⟩ := Option.map_eq_some_iff.1 he; cases h2; rfl
    · cases he
  case extract x i =>
    simp only [aop] at he
    split at he
    · obtain ⟨u, h1, h2⟩ := Option.map_eq_some_iff.1 he; cases h2; rfl
    · cases he
  case call c =>
    obtain ⟨cal, as, ts⟩ := c
    cases cal with
    | value f => simp [lightOp] at hl
    | invoke r n => simp [lightOp] at hl
    | builtin b =>
      simp only [aop] at he
      split at he
      · cases b <;> simp only [lightOp, Bool.false_eq_true] at hl
        all_goals
          unfold aBuiltin at he
          split at he <;> first
            | contradiction
            | (obtain ⟨u, h1, h2⟩ := Option.map_eq_some_iff.1 he; cases h2; rfl)
            | (cases he; rfl)
            | cases he
      · cases he
  all_goals first
    | (simp [lightOp] at hl; done)
    | (simp [allocOp] at ha; done)

theorem stepOp_light {call : CallFn} {P : Program} {e : Operand → Option Value} {H : Heap} {o : Oper} (hl : lightOp P o.op = true) : stepOp call P e H o = aop P e H o.op := by
  unfold stepOp
  split
  · rename_i c hc
    rw [hc] at hl ⊢
    obtain ⟨cal, as, ts⟩ := c
    cases cal with
    | builtin b => rfl
    | value f => simp [lightOp] at hl
    | invoke r n => simp [lightOp] at hl
  · rfl

theorem Rel.push {μ : Mu} {H : Heap} {w : World} (h : Rel μ H w) (b : Blk) : Rel μ (H.push b) w := by
  have hne : ∀ i x, μ i = some x → i ≠ H.n := fun i x hx => by have := h.dom i x hx; omega
  refine ⟨fun i x hx => by have := h.dom i x hx; simp; omega, h.lt, ?_, ?_, ?_⟩
  · intro i o cs b' sh sz hg hx
    rw [Heap.get_push_old _ _ (hne i _ hx)] at hg
    exact h.row i o cs b' sh sz hg hx
  · intro i es b' sh sz hg hx
    rw [Heap.get_push_old _ _ (hne i _ hx)] at hg
    exact h.map i es b' sh sz hg hx
  · intro i j b' sh sz sh' sz' hi hj ho ha
    refine h.excl i j b' sh sz sh' sz' hi hj ?_ ?_
    · obtain ⟨x, h1, h2⟩ := ho; rw [Heap.get_push_old _ _ (hne i _ hi)] at h1; exact ⟨x, h1, h2⟩
    · obtain ⟨x, h1, h2⟩ := ha; rw [Heap.get_push_old _ _ (hne j _ hj)] at h1; exact ⟨x, h1, h2⟩
theorem Step.push {μ μ' : Mu} {H H' : Heap} {w w' : World} (h : Step μ H w μ' H' w') (hr : Rel μ' H' w') (b : Blk) : Step μ H w μ' (H'.push b) w' :=
  ⟨h.os, h.tape, h.output, h.size, h.mu, by have := h.n; simp; omega, h.fresh, h.frame, fun b' hb ⟨i, sh, sz, hx, ho⟩ => h.own b' hb ⟨i, sh, sz, hx, by
    have : i ≠ H'.n := by have := hr.dom i _ hx; omega
    obtain ⟨x, h1, h2⟩ := ho; rw [Heap.get_push_old _ _ this] at h1; exact ⟨x, h1, h2⟩⟩⟩

/-- A row that has a name already comes to be in memory. -/
theorem Rel.alloc_at {μ0 μ : Mu} {H0 H : Heap} {w0 w : World} (h : Rel μ H w) (hst : Step μ0 H0 w0 μ H w) {i0 : Nat} {cs : List Value} (hg : H.get i0 = some (.row true cs)) (hn : μ i0 = none) (h0 : H0.n ≤ i0) (c : Array Value) (e : TypeId)
    (hlen : cs.length ≤ c.size) (hc : ∀ (j : Nat) (v : Value), cs[j]? = some v → ∃ v' : Value, c[j]? = some v' ∧ VR μ v v') :
    Rel (μ.put i0 (w.heap.size, 0, c.size)) H (w.alloc (.cells c e)) ∧ Step μ0 H0 w0 (μ.put i0 (w.heap.size, 0, c.size)) H (w.alloc (.cells c e)) := by
  have hm : μ.le (μ.put i0 (w.heap.size, 0, c.size)) := Mu.le_put _ hn
  have hi0 := Heap.get_lt hg
  have hold : ∀ b, b < w.heap.size → (w.alloc (.cells c e)).heap[b]? = w.heap[b]? := fun b hb => by
    simp only [World.alloc, Array.getElem?_push]; rw [if_neg (by omega)]
  have hnew : (w.alloc (.cells c e)).heap[w.heap.size]? = some (.cells c e) := heap_alloc_new w _
  refine ⟨⟨?_, ?_, ?_, ?_, ?_⟩, ⟨hst.os, hst.tape, hst.output, by have := hst.size; simp; omega, Mu.le_trans hst.mu hm, hst.n, ?_, ?_, ?_⟩⟩
  · intro i x hx
    by_cases hi : i = i0
    · subst hi; exact hi0
    · rw [Mu.put_other _ _ hi] at hx; exact h.dom i x hx
  · intro i b sh sz hx
    by_cases hi : i = i0
    · subst hi; rw [Mu.put_same] at hx; cases hx; simp
    · rw [Mu.put_other _ _ hi] at hx
      have := h.lt i b sh sz hx
      simp; omega
  · intro i o ds b sh sz hg' hx
    by_cases hi : i = i0
    · subst hi
      rw [hg] at hg'
      rw [Mu.put_same] at hx
      cases hg'; cases hx
      exact ⟨c, e, (0, 0), hnew, rfl, by omega, fun j v hj => by
        obtain ⟨v', h1, h2⟩ := hc j v hj
        exact ⟨v', by simpa using h1, h2.mono hm⟩, fun _ j _ => by omega⟩
    · rw [Mu.put_other _ _ hi] at hx
      obtain ⟨c', e', fr', h1, h2, h3, h4, h5⟩ := h.row i o ds b sh sz hg' hx
      have hb : b < w.heap.size := (Array.getElem?_eq_some_iff.1 h1).1
      exact ⟨c', e', fr', by rw [hold b hb]; exact h1, h2, h3, fun j v hj => by
        obtain ⟨v', a1, a2⟩ := h4 j v hj
        exact ⟨v', a1, a2.mono hm⟩, h5⟩
  · intro i es b sh sz hg' hx
    by_cases hi : i = i0
    · subst hi; rw [hg] at hg'; cases hg'
    · rw [Mu.put_other _ _ hi] at hx
      obtain ⟨a, clk, h1, h2⟩ := h.map i es b sh sz hg' hx
      have hb : b < w.heap.size := (Array.getElem?_eq_some_iff.1 h1).1
      exact ⟨a, clk, by rw [hold b hb]; exact h1, h2.mono hm⟩
  · intro i j b sh sz sh' sz' hi hj ho ha
    by_cases ei : i = i0
    · subst ei
      rw [Mu.put_same] at hi
      cases hi
      by_cases ej : j = i
      · exact ej.symm
      · rw [Mu.put_other _ _ ej] at hj
        have := h.lt j _ _ _ hj
        omega
    · rw [Mu.put_other _ _ ei] at hi
      have hlt := h.lt i _ _ _ hi
      by_cases ej : j = i0
      · subst ej; rw [Mu.put_same] at hj; cases hj; omega
      · rw [Mu.put_other _ _ ej] at hj
        exact h.excl i j b sh sz sh' sz' hi hj ho ha
  · intro i hi hx
    rw [Mu.put_other _ _ (by omega)]
    exact hst.fresh i hi hx
  · intro b hb hno
    have := hst.size
    rw [hold b (by omega)]
    exact hst.frame b hb hno
  · rintro b hb ⟨i, sh, sz, hx, hown⟩
    have := hst.size
    by_cases hi : i = i0
    · subst hi; rw [Mu.put_same] at hx; cases hx; omega
    · rw [Mu.put_other _ _ hi] at hx
      exact hst.own b hb ⟨i, sh, sz, hx, hown⟩
end Go.Ae
