/- Loads and stores of the evaluator stand for the machine's, wherever the relation holds. -/
import Derived.Test.YtgjpnajfapcobaaGreatAeB
set_option autoImplicit false
set_option linter.unusedVariables false
set_option linter.unusedSimpArgs false
namespace Go.Ae

/-! ### 8. What an operation comes to -/
def OutV (P : Program) (s : Sem Value) (μ : Mu) (H : Heap) (w : World) (v : Value) (H' : Heap) : Prop :=
  ∃ v' w' μ', s.run P w = .ok v' w' ∧ VR μ' v v' ∧ Rel μ' H' w' ∧ Step μ H w μ' H' w'
def OutU (P : Program) (s : Sem Unit) (μ : Mu) (H : Heap) (w : World) (H' : Heap) : Prop :=
  ∃ w' μ', s.run P w = .ok () w' ∧ Rel μ' H' w' ∧ Step μ H w μ' H' w'

theorem OutV.pure {P : Program} {s : Sem Value} {μ : Mu} {H : Heap} {w : World} {v v' : Value} (h : Rel μ H w) (hs : s.run P w = .ok v' w) (hv : VR μ v v') : OutV P s μ H w v H :=
  ⟨v', w, μ, hs, hv, h, Step.refl _ _ _⟩

/-! ### 9. Types -/
def szOf (P : Program) (t : TypeId) : Option Nat := (P.info? t).map (·.size)
def bytesOf (P : Program) (t : TypeId) : Option Nat := (P.info? t).map (·.bytes)
def zeroOf (P : Program) (t : TypeId) : Option Value :=
  match (P.info? t).bind (·.zero) with
  | some z => if pureV 4 z then some z else none
  | none => none
def aggB (P : Program) (t : TypeId) : Option Bool :=
  match P.underlying t with
  | some (.struct _) => some true
  | some (.array _ _) => some true
  | some _ => some false
  | none => none

theorem run_sizeOf {P : Program} {t : TypeId} {n : Nat} (h : szOf P t = some n) (w : World) : (sizeOf t).run P w = .ok n w := by
  unfold szOf at h
  cases hi : P.info? t with
  | none => rw [hi] at h; cases h
  | some i => rw [hi] at h; cases h; simp [sizeOf, typeInfo, hi]
theorem run_zeroValue {P : Program} {t : TypeId} {z : Value} (h : zeroOf P t = some z) (w : World) : (zeroValue t).run P w = .ok z w := by
  unfold zeroOf at h
  cases hi : P.info? t with
  | none => rw [hi] at h; cases h
  | some i =>
    rw [hi] at h
    simp only [Option.bind_some] at h
    split at h
    · rename_i z' hz
      split at h
      · cases h; simp [zeroValue, typeInfo, hi, hz]
      · cases h
    · cases h
theorem zeroOf_VR {P : Program} {t : TypeId} {z : Value} (h : zeroOf P t = some z) (μ : Mu) : VR μ z z := by
  unfold zeroOf at h
  split at h
  · split at h
    · rename_i hp; cases h; exact pureV_VR μ 4 _ hp
    · cases h
  · cases h
theorem run_isAgg {P : Program} {t : TypeId} {b : Bool} (h : aggB P t = some b) (w : World) : (isAgg t).run P w = .ok b w := by
  unfold aggB at h
  split at h <;> first
    | (rename_i hu; cases h; simp [isAgg, run_underlying hu]; done)
    | cases h

/-! ### 10. load, store, new variables -/
def aLoad (P : Program) (H : Heap) (t : TypeId) : Value → Option Value
  | .pointer (some a) =>
    match a.spot, H.get a.block, aggB P t, szOf P t with
    | none, some (.row _ cs), some true, some n => if a.off + n ≤ cs.length then some (.agg ⟨(cs.drop a.off).take n⟩) else none
    | none, some (.row _ cs), some false, _ => cs[a.off]?
    | _, _, _, _ => none
  | _ => none

theorem VR.inv_ptr {μ : Mu} {a : Addr} {v' : Value} (h : VR μ (.pointer (some a)) v') : ∃ b sh sz, μ a.block = some (b, sh, sz) ∧ v' = .pointer (some ⟨b, sh + a.off, none⟩) ∧ a.spot = none := by
  cases h with
  | ptr i off b sh sz hm => exact ⟨b, sh, sz, hm, rfl, rfl⟩

theorem aLoad_sound {P : Program} {μ : Mu} {H : Heap} {w : World} (h : Rel μ H w) {t : TypeId} {x x' v : Value} (hx : VR μ x x') (he : aLoad P H t x = some v) :
    ∃ v', (Instr.loadAt t x').run P w = .ok v' w ∧ VR μ v v' := by
  unfold aLoad at he
  split at he
  · rename_i a
    obtain ⟨b, sh, sz, hm, rfl, hsp⟩ := hx.inv_ptr
    split at he
    · rename_i o cs n hs0 hg ha hs
      split at he
      · rename_i hlen
        cases he
        obtain ⟨l', h1, h2, h3⟩ := h.cells hg hm a.off n hlen
        refine ⟨.agg ⟨l'⟩, ?_, .agg _ _ h1⟩
        have hl := run_loadCells_list (P := P) w ⟨b, sh + a.off, none⟩ l' h3
        rw [h2] at hl
        simp only [Instr.loadAt, Instr.sureAddr, loadVar, Sem.run_bind, Sem.run_pure, Result.andThen_ok, run_isAgg ha, if_true, run_sizeOf hs, hl]
      · cases he
    · rename_i o cs hs0 hg ha
      obtain ⟨v', h1, h2⟩ := h.cell hg hm he
      refine ⟨v', ?_, h2⟩
      simp only [Instr.loadAt, Instr.sureAddr, loadVar, Sem.run_bind, Sem.run_pure, Result.andThen_ok, run_isAgg ha, Bool.false_eq_true, if_false, run_load, h1]
    · cases he
  · cases he

def aStore (P : Program) (H : Heap) (t : TypeId) (x v : Value) : Option Heap :=
  match x with
  | .pointer (some a) =>
    match a.spot, H.get a.block, szOf P t with
    | none, some (.row true cs), some n =>
      if v.cells.toList.length = n ∧ a.off + n ≤ cs.length ∧ v.cells.toList.all Value.oneCell' = true then some (H.set a.block (.row true (setAll cs a.off v.cells.toList))) else none
    | _, _, _ => none
  | _ => none

theorem aStore_sound {P : Program} {μ : Mu} {H H' : Heap} {w : World} (h : Rel μ H w) {t : TypeId} {x x' v v' : Value} (hx : VR μ x x') (hv : VR μ v v') (he : aStore P H t x v = some H') :
    ∃ w', (Instr.storeAt t x' v').run P w = .ok () w' ∧ Rel μ H' w' ∧ Step μ H w μ H' w' := by
  unfold aStore at he
  split at he
  · rename_i a
    obtain ⟨b, sh, sz, hm, rfl, hsp⟩ := hx.inv_ptr
    split at he
    · rename_i cs n hs0 hg hs
      split at he
      · rename_i hc
        obtain ⟨c1, c2, c3⟩ := hc
        cases he
        obtain ⟨w', q1, q2, q3⟩ := Rel.store_cells (P := P) hm _ _ H w cs a.off 0 a.off h hv.cells c3 hg rfl (by omega)
        refine ⟨w', ?_, q2, q3⟩
        have hsz : v'.cells.size = n := by
          have := hv.cells.length
          simp only [Array.length_toList] at this c1
          omega
        simp only [Instr.storeAt, Instr.sureAddr, storeVar, Sem.run_bind, Sem.run_pure, Result.andThen_ok, run_sizeOf hs, hsz, ne_eq, not_true_eq_false, if_false]
        exact q1
      · cases he
    · cases he
  · cases he

theorem new_row_sound {P : Program} {μ : Mu} {H : Heap} {w : World} (h : Rel μ H w) {t : TypeId} {v v' : Value} (hv : VR μ v v') :
    OutV P (do pure (.pointer (some (← newVar t v')))) μ H w (.pointer (some ⟨H.n, 0, none⟩)) (H.push (.row true v.cells.toList)) := by
  have hc := hv.cells
  have hl := hc.length
  obtain ⟨q1, q2⟩ := h.alloc_row v.cells.toList v'.cells t (0, 0) (by simp only [Array.length_toList] at hl ⊢; omega) (fun j x hj => by
    obtain ⟨x', a1, a2⟩ := hc.get j x hj
    exact ⟨x', by simpa using a1, a2⟩) (fun j _ => by omega)
  refine ⟨.pointer (some ⟨w.heap.size, 0, none⟩), w.alloc (.cells v'.cells t), _, ?_, ?_, q1, q2⟩
  · simp [newVar, newRow]
  · exact .ptr H.n 0 w.heap.size 0 v'.cells.size (Mu.put_same _ _ _)

/-! ### 11. build, buildSlice -/
def fillL (place : Nat → Option (Nat × Nat)) (cells : List Value) : List (Nat × Value) → Option (List Value)
  | [] => some cells
  | (i, v) :: rest =>
    match place i with
    | none => none
    | some (off, size) => if v.cells.toList.length = size ∧ off + size ≤ cells.length then fillL place (setAll cells off v.cells.toList) rest else none

theorem foldl_setAll : ∀ (l : List Value) (off k : Nat) (cs : Array Value),
    ((l.zipIdx k).foldl (fun cs (x : Value × Nat) => cs.setIfInBounds (off + x.2) x.1) cs).toList = setAll cs.toList (off + k) l
  | [], _, _, _ => rfl
  | v :: l, off, k, cs => by
    rw [List.zipIdx_cons, List.foldl_cons, foldl_setAll l off (k + 1)]
    simp [setAll, Nat.add_assoc]

theorem VRs.setAll {μ : Mu} : ∀ (vs vs' : List Value), VRs μ vs vs' → ∀ (off : Nat) (cs cs' : List Value), VRs μ cs cs' → VRs μ (setAll cs off vs) (Ae.setAll cs' off vs')
  | [], _, h0, off, _, _, h => by cases h0; exact h
  | a :: l, _, h0, off, cs, cs', h => by
    cases h0 with
    | cons _ a' _ l' ha hl => exact VRs.setAll l l' hl (off + 1) _ _ (h.set ha off)

def VRp (μ : Mu) : List (Nat × Value) → List (Nat × Value) → Prop
  | [], [] => True
  | (i, v) :: l, (j, v') :: l' => i = j ∧ VR μ v v' ∧ VRp μ l l'
  | _, _ => False

theorem fill_sound {μ : Mu} {place : Nat → Option (Nat × Nat)} : ∀ (ps ps' : List (Nat × Value)) (cs : List Value) (cs' : Array Value) (r : List Value), VRp μ ps ps' → VRs μ cs cs'.toList → fillL place cs ps = some r →
    ∃ r', Instr.fill place cs' ps' = some r' ∧ VRs μ r r'.toList
  | [], [], cs, cs', r, _, h, he => by
    simp only [fillL, Option.some.injEq] at he
    subst he
    exact ⟨cs', by simp [Instr.fill], h⟩
  | [], _ :: _, _, _, _, hp, _, _ => hp.elim
  | (_, _) :: _, [], _, _, _, hp, _, _ => hp.elim
  | (i, v) :: ps, (j, v') :: ps', cs, cs', r, hp, h, he => by
    obtain ⟨rfl, hv, hps⟩ := hp
    simp only [fillL] at he
    split at he
    · cases he
    · rename_i off size hpl
      split at he
      · rename_i hc
        have hl := hv.cells.length
        have hcl := h.length
        simp only [Array.length_toList] at hl hcl hc
        have hset := VRs.setAll _ _ hv.cells off _ _ h
        have hf := foldl_setAll v'.cells.toList off 0 cs'
        obtain ⟨r', q1, q2⟩ := fill_sound ps ps' _ (v'.cells.zipIdx.foldl (fun cs (x : Value × Nat) => cs.setIfInBounds (off + x.2) x.1) cs') r hps (by
          rw [← Array.foldl_toList, Array.toList_zipIdx, hf]; exact hset) he
        refine ⟨r', ?_, q2⟩
        simp only [Instr.fill, hpl]
        rw [if_neg (by simp; omega)]
        exact q1
      · cases he

def fieldPlaces (P : Program) (fs : List Field) (i : Nat) : Option (Nat × Nat) :=
  match fs[i]? with
  | some f => (szOf P f.type).map (f.offset, ·)
  | none => none

def aBuild (P : Program) (t : TypeId) (parts : List (Nat × Value)) : Option Value :=
  match zeroOf P t, P.underlying t with
  | some z, some (.struct fs) =>
    if fs.toList.all (fun f => (szOf P f.type).isSome) then (fillL (fieldPlaces P fs.toList) z.cells.toList parts).map fun cs => .agg ⟨cs⟩ else none
  | some z, some (.array _ e) =>
    match szOf P e with
    | some size => (fillL (fun i => some (i * size, size)) z.cells.toList parts).map fun cs => .agg ⟨cs⟩
    | none => none
  | _, _ => none

theorem mapM_places {P : Program} (w : World) (fs : Array Field) (h : fs.toList.all (fun f => (szOf P f.type).isSome) = true) :
    ∃ ps : Array (Nat × Nat), (fs.mapM fun f => (do pure (f.offset, ← sizeOf f.type) : Sem (Nat × Nat))).run P w = .ok ps w ∧ ∀ i, ps[i]? = fieldPlaces P fs.toList i := by
  obtain ⟨l⟩ := fs
  simp only at h
  rw [List.mapM_toArray]
  suffices hh : ∃ ps : List (Nat × Nat), (l.mapM fun f => (do pure (f.offset, ← sizeOf f.type) : Sem (Nat × Nat))).run P w = .ok ps w ∧ ∀ i, ps[i]? = fieldPlaces P l i by
    obtain ⟨ps, h1, h2⟩ := hh
    refine ⟨ps.toArray, ?_, fun i => by simpa using h2 i⟩
    simp only [Sem.run_map, h1, Result.andThen_ok]
  induction l with
  | nil => exact ⟨[], rfl, fun i => by simp [fieldPlaces]⟩
  | cons f l ih =>
    simp only [List.all_cons, Bool.and_eq_true] at h
    obtain ⟨n, hn⟩ := Option.isSome_iff_exists.1 h.1
    obtain ⟨ps, h1, h2⟩ := ih h.2
    refine ⟨(f.offset, n) :: ps, ?_, fun i => ?_⟩
    · simp only [List.mapM_cons, Sem.run_bind, run_sizeOf hn, Result.andThen_ok, Sem.run_pure, h1]
    · cases i with
      | zero => simp [fieldPlaces, hn]
      | succ i => simpa [fieldPlaces] using h2 i

theorem aBuild_sound {P : Program} {μ : Mu} {w : World} {t : TypeId} {ps : List (Nat × Value)} {ps' : Array (Nat × Value)} {v : Value} (hp : VRp μ ps ps'.toList) (he : aBuild P t ps = some v) :
    ∃ v', (Instr.build t ps').run P w = .ok v' w ∧ VR μ v v' := by
  unfold aBuild at he
  split at he
  · rename_i z fs hz hu
    split at he
    · rename_i hall
      obtain ⟨cs, hf, rfl⟩ := Option.map_eq_some_iff.1 he
      obtain ⟨r', q1, q2⟩ := fill_sound _ _ _ z.cells _ hp (zeroOf_VR hz μ).cells hf
      obtain ⟨pl, m1, m2⟩ := mapM_places w fs hall
      refine ⟨.agg r', ?_, .agg _ r'.toList q2⟩
      have hpl : (fun i => pl[i]?) = fieldPlaces P fs.toList := funext m2
      simp only [Instr.build, Sem.run_bind, run_zeroValue hz, Result.andThen_ok, run_underlying hu, m1, hpl, q1, Sem.run_pure]
    · cases he
  · rename_i z n e hz hu
    split at he
    · rename_i size hs
      obtain ⟨cs, hf, rfl⟩ := Option.map_eq_some_iff.1 he
      obtain ⟨r', q1, q2⟩ := fill_sound _ _ _ z.cells _ hp (zeroOf_VR hz μ).cells hf
      refine ⟨.agg r', ?_, .agg _ r'.toList q2⟩
      simp only [Instr.build, Sem.run_bind, run_zeroValue hz, Result.andThen_ok, run_underlying hu, run_sizeOf hs, q1, Sem.run_pure]
    · cases he
  · cases he

/-- So many zero values, one behind the other. -/
def zeros (z : List Value) : Nat → List Value
  | 0 => []
  | n + 1 => z ++ zeros z n
theorem zeros_length (z : List Value) : ∀ n, (zeros z n).length = n * z.length
  | 0 => by simp [zeros]
  | n + 1 => by simp [zeros, zeros_length z n, Nat.succ_mul]; omega
theorem zeros_get (z : List Value) (hz : 0 < z.length) : ∀ (n j : Nat), j < n * z.length → (zeros z n)[j]? = z[j % z.length]?
  | 0, j, h => by omega
  | n + 1, j, h => by
    rw [Nat.succ_mul] at h
    unfold zeros
    rcases Nat.lt_or_ge j z.length with e | e
    · rw [List.getElem?_append_left e, Nat.mod_eq_of_lt e]
    · rw [List.getElem?_append_right e, zeros_get z hz n (j - z.length) (by omega)]
      congr 1
      exact (Nat.mod_eq_sub_mod e).symm

theorem range_zeros (z : Array Value) (n : Nat) (h : 0 < z.size) : ((Array.range (n * z.size)).map (fun i => z[i % z.size]!)).toList = zeros z.toList n := by
  apply List.ext_getElem?
  intro j
  rcases Nat.lt_or_ge j (n * z.size) with e | e
  · rw [zeros_get _ (by simpa using h) n j (by simpa using e)]
    have hm : j % z.size < z.size := Nat.mod_lt _ h
    simp [e, hm]
  · rw [List.getElem?_eq_none (by simpa using e), List.getElem?_eq_none (by rw [zeros_length]; simpa using e)]

def aBuildSlice (P : Program) (H : Heap) (t : TypeId) (len : Nat) (parts : List (Nat × Value)) : Option (Value × Heap) :=
  match P.underlying t with
  | some (.slice e) =>
    match szOf P e, zeroOf P e with
    | some size, some z =>
      if 0 < size ∧ len * size ≤ 16777216 ∧ z.cells.toList.length = size then
        (fillL (fun i => some (i * size, size)) (zeros z.cells.toList len) parts).map fun cs => (.slice (some ⟨H.n, 0, none⟩) len len, H.push (.row true cs))
      else none
    | _, _ => none
  | _ => none

theorem VRs.zeros {μ : Mu} {z z' : List Value} (h : VRs μ z z') : ∀ n, VRs μ (zeros z n) (Ae.zeros z' n)
  | 0 => .nil
  | n + 1 => h.append (VRs.zeros h n)
theorem fillL_length {place : Nat → Option (Nat × Nat)} : ∀ (ps : List (Nat × Value)) (cs r : List Value), fillL place cs ps = some r → r.length = cs.length
  | [], cs, r, h => by simp [fillL] at h; rw [h]
  | (i, v) :: ps, cs, r, h => by
    simp only [fillL] at h
    split at h
    · cases h
    · split at h
      · rw [fillL_length ps _ r h, setAll_length]
      · cases h

theorem aBuildSlice_sound {P : Program} {μ : Mu} {H H' : Heap} {w : World} (h : Rel μ H w) {t : TypeId} {len : Nat} {ps : List (Nat × Value)} {ps' : Array (Nat × Value)} {v : Value}
    (hp : VRp μ ps ps'.toList) (he : aBuildSlice P H t len ps = some (v, H')) : OutV P (Instr.buildSlice t len ps') μ H w v H' := by
  unfold aBuildSlice at he
  split at he
  · rename_i e hu
    split at he
    · rename_i size z hs hz
      split at he
      · rename_i hc
        obtain ⟨c1, c2, c3⟩ := hc
        obtain ⟨cs, hf, hr⟩ := Option.map_eq_some_iff.1 he
        simp only [Prod.mk.injEq] at hr
        obtain ⟨rfl, rfl⟩ := hr
        have hzs : z.cells.size = size := by simpa using c3
        have hzz : VRs μ (zeros z.cells.toList len) ((Array.range (len * size)).map (fun i => z.cells[i % z.cells.size]!)).toList := by
          rw [← hzs, range_zeros _ _ (by omega)]
          exact (zeroOf_VR hz μ).cells.zeros len
        obtain ⟨r', q1, q2⟩ := fill_sound _ _ _ _ _ hp hzz hf
        have hl := q2.length
        simp only [Array.length_toList] at hl
        obtain ⟨a1, a2⟩ := h.alloc_row cs r' e (0, 0) (by omega) (fun j x hj => by
          obtain ⟨x', b1, b2⟩ := q2.get j x hj
          exact ⟨x', by simpa using b1, b2⟩) (fun j _ => by omega)
        refine ⟨.slice (some ⟨w.heap.size, 0, none⟩) len len, w.alloc (.cells r' e), _, ?_, ?_, a1, a2⟩
        · simp only [Instr.buildSlice, Sem.run_bind, run_underlying hu, Result.andThen_ok, run_sizeOf hs]
          rw [if_neg (by omega)]
          by_cases h0 : len * size = 0
          · have hl0 : len = 0 := by
              rcases Nat.mul_eq_zero.1 h0 with h1 | h1
              · exact h1
              · omega
            subst hl0
            simp only [Nat.zero_mul, if_true, Sem.run_pure, Result.andThen_ok, Sem.run_bind]
            have e1 : Instr.fill (fun i => some (i * size, size)) (Array.map (fun i => (#[] : Array Value)[i % (#[] : Array Value).size]!) (Array.range 0)) ps'.toList = some r' := by
              rw [← q1]; congr 1; simp
            rw [e1]
            simp [newRow]
          · simp only [h0, if_false, Sem.run_bind, run_zeroValue hz, Result.andThen_ok, Sem.run_pure, q1]
            simp [newRow]
        · have := VR.slice (μ := μ.put H.n (w.heap.size, 0, r'.size)) H.n 0 len len w.heap.size 0 r'.size len ⟨w.heap.size, 0, none⟩ (Mu.put_same _ _ _) (fun _ => rfl) (Nat.le_refl _) (fun _ => rfl) (fun k hk hh => by omega)
          simpa using this
      · cases he
    · cases he
  · cases he
end Go.Ae
