/- Made rows, slices and addresses of the evaluator stand for the machine's, wherever the relation holds. -/
import Derived.Test.YtgjpnajfapcobaaGreatAeC
set_option autoImplicit false
set_option linter.unusedVariables false
set_option linter.unusedSimpArgs false
namespace Go.Ae

theorem VR.inv_int {μ : Mu} {k : IntKind} {n : Int} {v' : Value} (h : VR μ (.int k n) v') : v' = .int k n := by cases h; rfl
theorem VR.inv_bool {μ : Mu} {b : Bool} {v' : Value} (h : VR μ (.bool b) v') : v' = .bool b := by cases h; rfl
theorem VR.inv_string {μ : Mu} {s : ByteArray} {v' : Value} (h : VR μ (.string s) v') : v' = .string s := by cases h; rfl
theorem VR.inv_nilptr {μ : Mu} {v' : Value} (h : VR μ (.pointer none) v') : v' = .pointer none := by cases h; rfl
theorem VR.inv_nilFunc {μ : Mu} {v' : Value} (h : VR μ .nilFunc v') : v' = .nilFunc := by cases h; rfl
theorem VR.inv_nilIface {μ : Mu} {v' : Value} (h : VR μ .nilIface v') : v' = .nilIface := by cases h; rfl
theorem VR.inv_nilslice {μ : Mu} {l c : Nat} {v' : Value} (h : VR μ (.slice none l c) v') : v' = .slice none 0 0 ∧ l = 0 ∧ c = 0 := by cases h; exact ⟨rfl, rfl, rfl⟩
theorem VR.inv_slice {μ : Mu} {a : Addr} {len cap : Nat} {v' : Value} (h : VR μ (.slice (some a) len cap) v') :
    ∃ b sh sz a' cap', v' = .slice (some a') len cap' ∧ μ a.block = some (b, sh, sz) ∧ (cap' ≠ 0 → a' = ⟨b, sh + a.off, none⟩) ∧ len ≤ cap' ∧ (cap = len → cap' = len) ∧
      (∀ k, 0 < k → cap = len + 1 + k → sh + a.off + cap' * k ≤ sz) ∧ a.spot = none := by
  cases h with
  | slice i off len cap b sh sz cap' a' hm ha hl hc hr => exact ⟨b, sh, sz, a', cap', rfl, hm, ha, hl, hc, hr, rfl⟩
theorem VR.inv_agg {μ : Mu} {x : Array Value} {v' : Value} (h : VR μ (.agg x) v') : ∃ x' : Array Value, v' = .agg x' ∧ VRs μ x.toList x'.toList := by
  cases h with
  | agg l l' h => exact ⟨⟨l'⟩, rfl, h⟩
theorem VR.inv_tuple {μ : Mu} {x : Array Value} {v' : Value} (h : VR μ (.tuple x) v') : ∃ x' : Array Value, v' = .tuple x' ∧ VRs μ x.toList x'.toList := by
  cases h with
  | tuple l l' h => exact ⟨⟨l'⟩, rfl, h⟩
theorem VR.inv_iface {μ : Mu} {t : TypeId} {v v' : Value} (h : VR μ (.iface t v) v') : ∃ u, v' = .iface t u ∧ VR μ v u := by
  cases h with
  | iface _ _ u h => exact ⟨u, rfl, h⟩
theorem VR.inv_map {μ : Mu} {i : Nat} {v' : Value} (h : VR μ (.map (some i)) v') : ∃ b sh sz, v' = .map (some b) ∧ μ i = some (b, sh, sz) := by
  cases h with
  | map i b sh sz h => exact ⟨b, sh, sz, rfl, h⟩
theorem VR.inv_func {μ : Mu} {fn : Fn} {x y : Array Value} {v' : Value} (h : VR μ (.func fn x y) v') : ∃ x' y' : Array Value, v' = .func fn x' y' ∧ VRs μ x.toList x'.toList ∧ VRs μ y.toList y'.toList := by
  cases h with
  | func _ x x' y y' h k => exact ⟨⟨x'⟩, ⟨y'⟩, rfl, h, k⟩

/-! ### 12. make -/
def aMake (P : Program) (H : Heap) (t : TypeId) (x y : Value) : Option (Value × Heap) :=
  match x, y with
  | .int _ l, .int _ c =>
    match P.underlying t with
    | some (.slice e) =>
      match szOf P e, bytesOf P e, zeroOf P e with
      | some size, some by_, some z =>
        if 0 ≤ l ∧ l ≤ c ∧ (by_ : Int) * c ≤ 281474976710656 ∧ c ≤ 9223372036854775807 ∧ 0 < size ∧ z.cells.toList.length = size then
          some (.slice (some ⟨H.n, 0, none⟩) l.toNat (if l = c then l.toNat else l.toNat + 1 + size), H.push (.row true (zeros z.cells.toList c.toNat)))
        else none
      | _, _, _ => none
    | _ => none
  | _, _ => none

theorem zeroOf_info {P : Program} {t : TypeId} {z : Value} (h : zeroOf P t = some z) : ∃ i, P.info? t = some i ∧ i.zero = some z := by
  unfold zeroOf at h
  cases hi : P.info? t with
  | none => rw [hi] at h; cases h
  | some i =>
    rw [hi] at h
    simp only [Option.bind_some] at h
    split at h
    · rename_i z' hz
      split at h
      · cases h; exact ⟨i, rfl, hz⟩
      · cases h
    · cases h
theorem szOf_info {P : Program} {t : TypeId} {n : Nat} {i : TypeInfo} (h : szOf P t = some n) (hi : P.info? t = some i) : i.size = n := by
  unfold szOf at h; rw [hi] at h; simpa using h
theorem bytesOf_info {P : Program} {t : TypeId} {n : Nat} {i : TypeInfo} (h : bytesOf P t = some n) (hi : P.info? t = some i) : i.bytes = n := by
  unfold bytesOf at h; rw [hi] at h; simpa using h

theorem aMake_sound {P : Program} {μ : Mu} {H H' : Heap} {w : World} (h : Rel μ H w) {t : TypeId} {x x' y y' v : Value} (hx : VR μ x x') (hy : VR μ y y') (he : aMake P H t x y = some (v, H')) :
    OutV P (Instr.makeSlice t x' y') μ H w v H' := by
  unfold aMake at he
  split at he
  · rename_i kl l kc c
    rw [hx.inv_int, hy.inv_int]
    split at he
    · rename_i e hu
      split at he
      · rename_i size by_ z hs hb hz
        split at he
        · rename_i hc
          obtain ⟨c1, c2, c3, c4, c5, c6⟩ := hc
          cases he
          obtain ⟨i, hi, hz'⟩ := zeroOf_info hz
          have hsz := szOf_info hs hi
          have hby := bytesOf_info hb hi
          have hr := run_make (P := P) w t e i z hu hi hz' kl kc l c c1 c2 (by rw [hby]; exact c3) c4
          have hzs : z.cells.size = size := by simpa using c6
          have hmc : (madeCells z.cells (c.toNat * i.size)).toList = zeros z.cells.toList c.toNat := by
            unfold madeCells; rw [hsz, ← hzs]; exact range_zeros _ _ (by omega)
          obtain ⟨a1, a2⟩ := h.alloc_row (zeros z.cells.toList c.toNat) (madeCells z.cells (c.toNat * i.size)) e (0, 0) (by
            rw [← hmc]; simp) (fun j u hj => by
            have hv := ((zeroOf_VR hz μ).cells.zeros c.toNat).get j u hj
            obtain ⟨u', b1, b2⟩ := hv
            refine ⟨u', ?_, b2⟩
            rw [← Array.getElem?_toList, hmc]; exact b1) (fun j _ => by omega)
          have hsize : (madeCells z.cells (c.toNat * i.size)).size = c.toNat * size := by rw [size_madeCells, hsz]
          refine ⟨_, _, _, hr, ?_, a1, a2⟩
          have := VR.slice (μ := μ.put H.n (w.heap.size, 0, (madeCells z.cells (c.toNat * i.size)).size)) H.n 0 l.toNat (if l = c then l.toNat else l.toNat + 1 + size) w.heap.size 0 _ c.toNat ⟨w.heap.size, 0, none⟩ (Mu.put_same _ _ _) (fun _ => rfl) (by omega)
            (fun hh => by split at hh <;> omega) (fun k hk hh => by
              rw [hsize]
              split at hh
              · omega
              · have : k = size := by omega
                subst this; omega)
          exact this
        · cases he
      · cases he
    · cases he
  · cases he

/-! ### 13. slice expressions -/
def bnd (y : Nat) (d : Nat) : Option Value → Option Nat
  | none => some d
  | some (.int _ i) => if 0 ≤ i ∧ i ≤ (y : Int) then some i.toNat else none
  | some _ => none

def VRo (μ : Mu) : Option Value → Option Value → Prop
  | none, none => True
  | some v, some v' => VR μ v v'
  | _, _ => False

theorem bnd_sound {P : Program} {μ : Mu} {w : World} {y y' d n : Nat} {x x' : Option Value} (hx : VRo μ x x') (hb : bnd y d x = some n) (hy : y ≤ y') (code : BoundsCode) :
    (x = none ∧ x' = none ∧ n = d) ∨ ∃ k i, x' = some (.int k i) ∧ n = i.toNat ∧ 0 ≤ i ∧ i ≤ (y : Int) ∧ (Instr.sliceBound (.int k i) y' code).run P w = .ok n w := by
  cases x with
  | none =>
    cases x' with
    | none => simp only [bnd, Option.some.injEq] at hb; exact .inl ⟨rfl, rfl, hb.symm⟩
    | some _ => exact hx.elim
  | some v =>
    cases x' with
    | none => exact hx.elim
    | some v' =>
      cases v <;> simp only [bnd] at hb <;> try cases hb
      rename_i k i
      have : v' = .int k i := VR.inv_int hx
      subst this
      split at hb
      · rename_i hc
        cases hb
        exact .inr ⟨k, i, rfl, rfl, hc.1, hc.2, run_sliceBound (P := P) w k i y' code hc.1 (by omega)⟩
      · cases hb

/-- low, high, max: within the length. -/
def aBounds (len : Nat) (lo hi mx : Option Value) : Option (Nat × Nat × Option Nat) :=
  match bnd len len mx with
  | none => none
  | some m =>
    match hi, mx with
    | none, some _ => none
    | _, _ =>
      match bnd m len hi with
      | none => none
      | some h =>
        match bnd h 0 lo with
        | none => none
        | some l => if l ≤ h ∧ h ≤ len then some (l, h, mx.map fun _ => m) else none

theorem aBounds_sound {P : Program} {μ : Mu} {w : World} {isS : Bool} {len cap : Nat} {lo hi mx lo' hi' mx' : Option Value} (h1 : VRo μ lo lo') (h2 : VRo μ hi hi') (h3 : VRo μ mx mx')
    {l h : Nat} {m : Option Nat} (he : aBounds len lo hi mx = some (l, h, m)) (hc : len ≤ cap) :
    (Instr.sliceBounds isS len cap lo' hi' mx').run P w = .ok (l, h, m.getD cap) w ∧ l ≤ h ∧ h ≤ len ∧ (∀ x, m = some x → h ≤ x ∧ x ≤ len) := by
  unfold aBounds at he
  split at he
  · cases he
  · rename_i mm hm
    split at he
    · cases he
    · rename_i hno
      split at he
      · cases he
      · rename_i hh hhi
        split at he
        · cases he
        · rename_i ll hlo
          split at he
          · rename_i hcond
            simp only [Option.some.injEq, Prod.mk.injEq] at he
            obtain ⟨rfl, rfl, rfl⟩ := he
            cases mx with
            | none =>
              cases mx' with
              | some _ => exact h3.elim
              | none =>
                simp only [bnd, Option.some.injEq] at hm
                subst hm
                refine ⟨?_, hcond.1, hcond.2, fun x hx => by simp at hx⟩
                rcases bnd_sound (P := P) (w := w) (y' := cap) h2 hhi hc (if isS then .sliceAcap else .sliceAlen) with ⟨rfl, rfl, rfl⟩ | ⟨k, i, rfl, e1, e2, e3, e4⟩
                · rcases bnd_sound (P := P) (w := w) (y' := hh) h1 hlo (Nat.le_refl _) .sliceB with ⟨rfl, rfl, rfl⟩ | ⟨k, i, rfl, f1, f2, f3, f4⟩
                  · simp [Instr.sliceBounds]
                  · simp only [Instr.sliceBounds, Sem.run_bind, Sem.run_pure, Result.andThen_ok, Option.isSome_none, Bool.false_eq_true, if_false, f4, Option.map_none, Option.getD_none]
                · rcases bnd_sound (P := P) (w := w) (y' := hh) h1 hlo (Nat.le_refl _) .sliceB with ⟨rfl, rfl, rfl⟩ | ⟨k', i', rfl, f1, f2, f3, f4⟩
                  · simp only [Instr.sliceBounds, Sem.run_bind, Sem.run_pure, Result.andThen_ok, Option.isSome_none, Bool.false_eq_true, if_false, e4, Option.map_none, Option.getD_none]
                  · simp only [Instr.sliceBounds, Sem.run_bind, Sem.run_pure, Result.andThen_ok, Option.isSome_none, Bool.false_eq_true, if_false, e4, f4, Option.map_none, Option.getD_none]
            | some mv =>
              cases mx' with
              | none => exact h3.elim
              | some mv' =>
                rcases bnd_sound (P := P) (w := w) (y' := cap) h3 hm hc (if isS then .slice3Acap else .slice3Alen) with ⟨q, _, _⟩ | ⟨km, im, q1, g1, g2, g3, g4⟩
                · cases q
                · simp only [Option.some.injEq] at q1
                  subst q1
                  rcases bnd_sound (P := P) (w := w) (y' := mm) h2 hhi (Nat.le_refl _) .slice3B with ⟨rfl, rfl, rfl⟩ | ⟨k, i, rfl, e1, e2, e3, e4⟩
                  · exact (hno _ rfl rfl).elim
                  · refine ⟨?_, hcond.1, hcond.2, fun x hx => by simp at hx; omega⟩
                    rcases bnd_sound (P := P) (w := w) (y' := hh) h1 hlo (Nat.le_refl _) .slice3C with ⟨rfl, rfl, rfl⟩ | ⟨k', i', rfl, f1, f2, f3, f4⟩
                    · simp only [Instr.sliceBounds, Sem.run_bind, Sem.run_pure, Result.andThen_ok, Option.isSome_some, if_true, g4, e4, Option.map_some, Option.getD_some]
                    · simp only [Instr.sliceBounds, Sem.run_bind, Sem.run_pure, Result.andThen_ok, Option.isSome_some, if_true, g4, e4, f4, Option.map_some, Option.getD_some]
          · cases he

def aSlice (P : Program) (H : Heap) (t : TypeId) (x : Value) (lo hi mx : Option Value) : Option Value :=
  match P.underlying t, x with
  | some .string, .string s =>
    match mx, aBounds s.size lo hi none with
    | none, some (l, h, _) => some (.string (s.extract l h))
    | _, _ => none
  | some (.slice e), .slice none len cap =>
    match szOf P e, aBounds len lo hi mx with
    | some _, some (l, h, _) => if len = 0 ∧ cap = 0 then some (.slice none 0 0) else none
    | _, _ => none
  | some (.slice e), .slice (some a) len cap =>
    match szOf P e, aBounds len lo hi mx with
    | some size, some (l, h, m) =>
      let k := match m with
        | some m => if m = h then h - l else h - l + 1
        | none => if cap = len then (if h = len then h - l else h - l + 1) else if cap = len + 1 + size then h - l + 1 + size else h - l + 1
      some (.slice (some ⟨a.block, a.off + l * size, none⟩) (h - l) k)
    | _, _ => none
  | some (.array n e), .pointer (some a) =>
    match a.spot, szOf P e, aBounds n lo hi mx with
    | none, some size, some (l, h, m) =>
      let k := if m.getD n = h then h - l else h - l + 1
      some (.slice (some ⟨a.block, a.off + l * size, none⟩) (h - l) k)
    | _, _, _ => none
  | _, _ => none

theorem aSlice_sound {P : Program} {μ : Mu} {H : Heap} {w : World} {t : TypeId} {x x' v : Value} {lo hi mx lo' hi' mx' : Option Value} (hx : VR μ x x') (h1 : VRo μ lo lo') (h2 : VRo μ hi hi') (h3 : VRo μ mx mx')
    (he : aSlice P H t x lo hi mx = some v) : ∃ v', (Instr.sliceAt t x' lo' hi' mx').run P w = .ok v' w ∧ VR μ v v' := by
  unfold aSlice at he
  split at he
  · rename_i s hu
    split at he
    · rename_i l h m hb
      cases he
      cases mx' with
      | some _ => exact h3.elim
      | none =>
      obtain ⟨q, _, _, _⟩ := aBounds_sound (P := P) (w := w) (isS := false) (cap := s.size) h1 h2 (mx := none) (mx' := none) trivial hb (Nat.le_refl _)
      refine ⟨_, ?_, .string _⟩
      rw [hx.inv_string]
      simp only [Instr.sliceAt, Instr.slice, Sem.run_bind, run_underlying hu, Result.andThen_ok, q, Option.isSome_none, Bool.false_eq_true, if_false, Sem.run_pure]
    · cases he
  · rename_i e len cap hu
    split at he
    · rename_i size l h m hs hb
      split at he
      · rename_i hc
        obtain ⟨rfl, rfl⟩ := hc
        cases he
        obtain ⟨q, q1, q2, q3⟩ := aBounds_sound (P := P) (w := w) (isS := true) (cap := 0) h1 h2 h3 hb (Nat.le_refl _)
        refine ⟨_, ?_, .nilslice⟩
        rw [hx.inv_nilslice.1]
        obtain rfl : h = 0 := by omega
        obtain rfl : l = 0 := by omega
        have hm : m.getD 0 = 0 := by
          cases m with
          | none => rfl
          | some x => have := q3 x rfl; simp; omega
        simp only [Instr.sliceAt, Instr.slice, Sem.run_bind, run_underlying hu, Result.andThen_ok, q, run_sizeOf hs, Sem.run_pure, hm]
        simp
      · cases he
    · cases he
  · rename_i e a len cap hu
    split at he
    · rename_i size l h m hs hb
      cases he
      obtain ⟨b, sh, sz, a', cap', rfl, hm, ha, hl, hc, hr, hsp⟩ := hx.inv_slice
      obtain ⟨q, q1, q2, q3⟩ := aBounds_sound (P := P) (w := w) (isS := true) (cap := cap') h1 h2 h3 hb hl
      refine ⟨.slice (some (if m.getD cap' = l then a' else a'.add (l * size))) (h - l) (m.getD cap' - l), ?_, ?_⟩
      · simp only [Instr.sliceAt, Instr.slice, Sem.run_bind, run_underlying hu, Result.andThen_ok, q, run_sizeOf hs, Sem.run_pure]
        congr 2
        split <;> rfl
      · refine .slice _ _ _ _ b sh sz _ _ hm ?_ ?_ ?_ ?_
        · intro hne
          rw [if_neg (by omega), ha (by
            cases m with
            | none => simp only [Option.getD_none] at hne; omega
            | some x => have := q3 x rfl; simp only [Option.getD_some] at hne; omega), Addr.add_lit, Nat.add_assoc]
        · cases m with
          | none => simp only [Option.getD_none]; omega
          | some x => have := q3 x rfl; simp only [Option.getD_some]; omega
        · cases m with
          | none =>
            simp only [Option.getD_none]
            intro hk
            split at hk
            · rename_i hcl
              split at hk
              · have := hc hcl; omega
              · omega
            · split at hk <;> omega
          | some x =>
            simp only [Option.getD_some]
            intro hk
            split at hk
            · omega
            · omega
        · intro k hk hh
          cases m with
          | none =>
            simp only [Option.getD_none] at hh ⊢
            split at hh
            · split at hh <;> omega
            · split at hh
              · rename_i hcap
                have hkk : k = size := by omega
                subst hkk
                have := hr k hk hcap
                have hle : l ≤ cap' := by omega
                have e1 : l * k + (cap' - l) * k = cap' * k := by rw [← Nat.add_mul]; congr 1; omega
                omega
              · omega
          | some x =>
            simp only [Option.getD_some] at hh ⊢
            split at hh <;> omega
    · cases he
  · rename_i n e a hu
    split at he
    · rename_i size l h m hs0 hs hb
      cases he
      obtain ⟨b, sh, sz, hm, rfl, hsp⟩ := hx.inv_ptr
      obtain ⟨q, q1, q2, q3⟩ := aBounds_sound (P := P) (w := w) (isS := false) (cap := n) h1 h2 h3 hb (Nat.le_refl _)
      refine ⟨.slice (some (if m.getD n = l then ⟨b, sh + a.off, none⟩ else (⟨b, sh + a.off, none⟩ : Addr).add (l * size))) (h - l) (m.getD n - l), ?_, ?_⟩
      · simp only [Instr.sliceAt, Sem.run_bind, run_underlying hu, Result.andThen_ok, Instr.sureAddr, Sem.run_pure, q, run_sizeOf hs]
      · have hmn : h ≤ m.getD n := by
          cases m with
          | none => simp only [Option.getD_none]; omega
          | some x => have := q3 x rfl; simp only [Option.getD_some]; omega
        refine .slice _ _ _ _ b sh sz _ _ hm ?_ (by omega) ?_ ?_
        · intro hne
          rw [if_neg (by omega), Addr.add_lit, Nat.add_assoc]
        · intro hk
          split at hk <;> omega
        · intro k hk hh
          split at hh <;> omega
    · cases he
  · cases he

/-! ### 14. Addresses, fields, elements -/
def aFieldAddr (P : Program) (t : TypeId) (x : Value) (f : Nat) : Option Value :=
  match P.underlying t, x with
  | some (.struct fs), .pointer (some a) =>
    match a.spot, fs.toList[f]? with
    | none, some fd =>
      match szOf P fd.type with
      | some n => if n = 0 then none else some (.pointer (some ⟨a.block, a.off + fd.offset, none⟩))
      | none => none
    | _, _ => none
  | _, _ => none
theorem aFieldAddr_sound {P : Program} {μ : Mu} {w : World} {t : TypeId} {x x' v : Value} {f : Nat} (hx : VR μ x x') (he : aFieldAddr P t x f = some v) :
    ∃ v', (Instr.fieldAt t x' f).run P w = .ok v' w ∧ VR μ v v' := by
  unfold aFieldAddr at he
  split at he
  · rename_i fs a hu
    split at he
    · rename_i fd hs0 hf
      split at he
      · rename_i n hs
        split at he
        · cases he
        · rename_i hn
          cases he
          obtain ⟨b, sh, sz, hm, rfl, hsp⟩ := hx.inv_ptr
          refine ⟨.pointer (some ⟨b, sh + (a.off + fd.offset), none⟩), ?_, .ptr _ _ b sh sz hm⟩
          have hf' : fs[f]? = some fd := by simpa using hf
          simp only [Instr.fieldAt, Sem.run_bind, run_underlying hu, Result.andThen_ok, hf', Instr.sureAddr, Sem.run_pure, fieldPlace, run_sizeOf hs, hn, if_false, Addr.add_lit, Nat.add_assoc]
      · cases he
    · cases he
  · cases he

def aPart (P : Program) (t : TypeId) (cs : List Value) (off : Nat) : Option Value :=
  match aggB P t, szOf P t with
  | some true, some n => if off + n ≤ cs.length then some (.agg ⟨(cs.drop off).take n⟩) else none
  | some false, _ => cs[off]?
  | _, _ => none
theorem aPart_sound {P : Program} {μ : Mu} {w : World} {t : TypeId} {cs : List Value} {cs' : Array Value} {off : Nat} {v : Value} (h : VRs μ cs cs'.toList) (he : aPart P t cs off = some v) :
    ∃ v', (part t cs' off).run P w = .ok v' w ∧ VR μ v v' := by
  unfold aPart at he
  split at he
  · rename_i n ha hs
    split at he
    · rename_i hl
      cases he
      refine ⟨.agg (cs'.extract off (off + n)), ?_, ?_⟩
      · simp only [part, Sem.run_bind, run_isAgg ha, Result.andThen_ok, if_true, run_sizeOf hs, Sem.run_pure]
      · have hv := (h.drop off).take n
        have e : cs'.extract off (off + n) = ⟨(cs'.toList.drop off).take n⟩ := by
          apply Array.ext'
          simp
        rw [e]
        exact .agg _ _ hv
    · cases he
  · rename_i ha
    obtain ⟨v', a1, a2⟩ := h.get off v he
    refine ⟨v', ?_, a2⟩
    have : cs'[off]? = some v' := by simpa using a1
    simp only [part, Sem.run_bind, run_isAgg ha, Result.andThen_ok, Bool.false_eq_true, if_false, this, Sem.run_pure]
  · cases he

def aField (P : Program) (t : TypeId) (x : Value) (f : Nat) : Option Value :=
  match P.underlying t, x with
  | some (.struct fs), .agg cs =>
    match fs.toList[f]? with
    | some fd => aPart P fd.type cs.toList fd.offset
    | none => none
  | _, _ => none
theorem aField_sound {P : Program} {μ : Mu} {w : World} {t : TypeId} {x x' v : Value} {f : Nat} (hx : VR μ x x') (he : aField P t x f = some v) :
    ∃ v', (Instr.field t x' f).run P w = .ok v' w ∧ VR μ v v' := by
  unfold aField at he
  split at he
  · rename_i fs cs hu
    split at he
    · rename_i fd hf
      obtain ⟨cs', rfl, hcs⟩ := hx.inv_agg
      obtain ⟨v', a1, a2⟩ := aPart_sound (w := w) hcs he
      refine ⟨v', ?_, a2⟩
      have hf' : fs[f]? = some fd := by simpa using hf
      simp only [Instr.field, Sem.run_bind, run_underlying hu, Result.andThen_ok, hf', asAgg, Sem.run_pure, a1]
    · cases he
  · cases he

def aIndexAddr (P : Program) (t : TypeId) (x y : Value) : Option Value :=
  match P.underlying t, x, y with
  | some (.slice e), .slice (some a) len _, .int _ i =>
    match szOf P e with
    | some n => if 0 ≤ i ∧ i < (len : Int) then some (.pointer (some ⟨a.block, a.off + i.toNat * n, none⟩)) else none
    | none => none
  | some (.array len e), .pointer (some a), .int _ i =>
    match a.spot, szOf P e with
    | none, some n => if 0 ≤ i ∧ i < (len : Int) then some (.pointer (some ⟨a.block, a.off + i.toNat * n, none⟩)) else none
    | _, _ => none
  | _, _, _ => none
theorem aIndexAddr_sound {P : Program} {μ : Mu} {w : World} {t : TypeId} {x x' y y' v : Value} (hx : VR μ x x') (hy : VR μ y y') (he : aIndexAddr P t x y = some v) :
    ∃ v', (Instr.indexAt t x' y').run P w = .ok v' w ∧ VR μ v v' := by
  unfold aIndexAddr at he
  split at he
  · rename_i e a len cap k i hu
    rw [hy.inv_int]
    split at he
    · rename_i n hs
      split at he
      · rename_i hc
        cases he
        obtain ⟨b, sh, sz, a', cap', rfl, hm, ha, hl, _, _, hsp⟩ := hx.inv_slice
        obtain rfl := ha (by omega)
        refine ⟨.pointer (some ⟨b, sh + (a.off + i.toNat * n), none⟩), ?_, .ptr _ _ b sh sz hm⟩
        simp only [Instr.indexAt, asIntOf, Sem.run_bind, Sem.run_pure, Result.andThen_ok, run_underlying hu, hc, and_self, if_true, run_sizeOf hs, Addr.add_lit, Nat.add_assoc]
      · cases he
    · cases he
  · rename_i len e a k i hu
    rw [hy.inv_int]
    split at he
    · rename_i n hs0 hs
      split at he
      · rename_i hc
        cases he
        obtain ⟨b, sh, sz, hm, rfl, hsp⟩ := hx.inv_ptr
        refine ⟨.pointer (some ⟨b, sh + (a.off + i.toNat * n), none⟩), ?_, .ptr _ _ b sh sz hm⟩
        simp only [Instr.indexAt, asIntOf, Instr.sureAddr, Sem.run_bind, Sem.run_pure, Result.andThen_ok, run_underlying hu, hc, and_self, if_true, run_sizeOf hs, Addr.add_lit, Nat.add_assoc]
      · cases he
    · cases he
  · cases he

def aIndex (P : Program) (t : TypeId) (x y : Value) : Option Value :=
  match P.underlying t, x, y with
  | some .string, .string s, .int _ i => if 0 ≤ i then (s.data.toList[i.toNat]?).map fun b => .int .u8 b.toNat else none
  | some (.array len e), .agg cs, .int _ i =>
    match szOf P e with
    | some n => if 0 ≤ i ∧ i < (len : Int) then aPart P e cs.toList (i.toNat * n) else none
    | none => none
  | _, _, _ => none
theorem aIndex_sound {P : Program} {μ : Mu} {w : World} {t : TypeId} {x x' y y' v : Value} (hx : VR μ x x') (hy : VR μ y y') (he : aIndex P t x y = some v) :
    ∃ v', (Instr.index t x' y').run P w = .ok v' w ∧ VR μ v v' := by
  unfold aIndex at he
  split at he
  · rename_i s k i hu
    rw [hy.inv_int, hx.inv_string]
    split at he
    · rename_i hi
      obtain ⟨c, hc, rfl⟩ := Option.map_eq_some_iff.1 he
      refine ⟨_, ?_, .int _ _⟩
      have hs : s[i.toNat]? = some c := by
        have : s.data[i.toNat]? = some c := by simpa using hc
        rw [← this]; rfl
      simp only [Instr.index, asIntOf, Sem.run_bind, Sem.run_pure, Result.andThen_ok, run_underlying hu, hi, if_true, hs]
    · cases he
  · rename_i len e cs k i hu
    rw [hy.inv_int]
    split at he
    · rename_i n hs
      split at he
      · rename_i hc
        obtain ⟨cs', rfl, hcs⟩ := hx.inv_agg
        obtain ⟨v', a1, a2⟩ := aPart_sound (w := w) hcs he
        refine ⟨v', ?_, a2⟩
        simp only [Instr.index, asIntOf, Sem.run_bind, Sem.run_pure, Result.andThen_ok, run_underlying hu, hc, and_self, if_true, run_sizeOf hs, a1]
      · cases he
    · cases he
  · cases he
end Go.Ae
