/- append and copy of the evaluator stand for the machine's, wherever the relation holds. -/
import Derived.Test.YtgjpnajfapcobaaGreatAeD
import Derived.Lib.Strings
set_option autoImplicit false
set_option linter.unusedVariables false
set_option linter.unusedSimpArgs false
namespace Go.Ae

/-! ### 15. append, copy -/
def aLenOf : Value → Option Nat
  | .slice _ n _ => some n
  | .string s => some s.size
  | _ => none
def aFirst (H : Heap) (size n : Nat) : Value → Option (List Value)
  | .slice (some a) len _ =>
    if n = 0 then some [] else
    match a.spot, H.get a.block with
    | none, some (.row _ cs) => if a.off + n * size ≤ cs.length ∧ n ≤ len then some ((cs.drop a.off).take (n * size)) else none
    | _, _ => none
  | .slice none _ _ => if n = 0 then some [] else none
  | .string s => some ((s.extract 0 n).data.toList.map fun b => .int .u8 b.toNat)
  | _ => none

theorem VRs.bytes (μ : Mu) : ∀ l : List UInt8, VRs μ (l.map fun b => Value.int .u8 b.toNat) (l.map fun b => Value.int .u8 b.toNat)
  | [] => .nil
  | b :: l => .cons _ _ _ _ (.int _ _) (VRs.bytes μ l)

theorem aLenOf_sound {P : Program} {μ : Mu} {w : World} {x x' : Value} {n : Nat} (hx : VR μ x x') (he : aLenOf x = some n) : (Builtin.lenOf x').run P w = .ok n w := by
  cases x <;> simp only [aLenOf, Option.some.injEq, reduceCtorEq] at he
  case slice a l c =>
    subst he
    cases a with
    | none => obtain ⟨rfl, rfl, rfl⟩ := hx.inv_nilslice; rfl
    | some a => obtain ⟨b, sh, sz, a', cap', rfl, _⟩ := hx.inv_slice; rfl
  case string s =>
    subst he
    rw [hx.inv_string]; rfl

theorem aFirst_sound {P : Program} {μ : Mu} {H : Heap} {w : World} (h : Rel μ H w) {x x' : Value} {size n : Nat} {cs : List Value} (hx : VR μ x x') (he : aFirst H size n x = some cs) :
    ∃ cs' : Array Value, (Builtin.firstCells size n x').run P w = .ok cs' w ∧ VRs μ cs cs'.toList := by
  unfold aFirst at he
  split at he
  · rename_i a len cap
    obtain ⟨b, sh, sz, a', cap', rfl, hm, ha, hl, _, _, hsp⟩ := hx.inv_slice
    split at he
    · rename_i h0
      cases he
      subst h0
      exact ⟨#[], by simp [Builtin.firstCells, loadCells, loadCellsFrom], .nil⟩
    · split at he
      · rename_i o rs hs0 hg
        split at he
        · rename_i hc
          cases he
          obtain rfl := ha (by omega)
          obtain ⟨l', h1, h2, h3⟩ := h.cells hg hm a.off (n * size) hc.1
          exact ⟨l'.toArray, run_firstCells_some w size n _ len cap' l' h2 h3, by simpa using h1⟩
        · cases he
      · cases he
  · obtain ⟨rfl, rfl, rfl⟩ := hx.inv_nilslice
    split at he
    · cases he
      exact ⟨#[], by simp [Builtin.firstCells], .nil⟩
    · cases he
  · rename_i s
    cases he
    rw [hx.inv_string]
    refine ⟨(s.extract 0 n).data.map fun b => .int .u8 b.toNat, rfl, ?_⟩
    rw [Array.toList_map]
    exact VRs.bytes μ _
  · cases he

theorem aFirst_length {H : Heap} {size n : Nat} {x : Value} {cs : List Value} (he : aFirst H size n x = some cs) (hs : ∀ s, x = .string s → size = 1 ∧ n ≤ s.size) : cs.length = n * size := by
  unfold aFirst at he
  split at he
  · split at he
    · rename_i h0; cases he; subst h0; simp
    · split at he
      · split at he
        · rename_i hc; cases he; simp; omega
        · cases he
      · cases he
  · split at he
    · rename_i h0; cases he; subst h0; simp
    · cases he
  · rename_i s
    cases he
    obtain ⟨rfl, h1⟩ := hs s rfl
    have hl : s.data.toList.length = s.size := by rw [Array.length_toList]; rfl
    rw [List.length_map, Lib.extract_data, List.length_take, List.length_drop, hl]
    omega
  · cases he

def sliceOrString : Option TypeDesc → Bool
  | some (.slice _) => true
  | some .string => true
  | _ => false

def aAppend (P : Program) (H : Heap) (ts : List TypeId) (s x : Value) : Option (Value × Heap) :=
  match ts with
  | [t, u] =>
    match P.underlying t, aLenOf x with
    | some (.slice e), some n =>
      match szOf P e, bytesOf P e, zeroOf P e with
      | some size, some by_, some z =>
        match aFirst H size n x with
        | some new =>
          if sliceOrString (P.underlying u) = true ∧ 0 < size ∧ 0 < by_ ∧ z.cells.toList.length = size ∧ new.length = n * size ∧ new.all Value.oneCell' = true then
            match s with
            | .slice none l c =>
              if n = 0 then some (s, H) else
              if n * by_ ≤ 140737488355328 then some (.slice (some ⟨H.n, 0, none⟩) n (n + 1 + size), H.push (.row true new)) else none
            | .slice (some a) len cap =>
              if n = 0 then some (s, H) else
              if (len + n) * by_ ≤ 140737488355328 then
                match a.spot, H.get a.block with
                | none, some (.row own cs) =>
                  if a.off + len * size ≤ cs.length then
                    if cap = len then some (.slice (some ⟨H.n, 0, none⟩) (len + n) (len + n + 1 + size), H.push (.row true ((cs.drop a.off).take (len * size) ++ new)))
                    else if cap = len + 1 + size ∧ own = true then
                      some (.slice (some ⟨H.n, 0, none⟩) (len + n) (len + n + 1 + size), (H.set a.block .dead).push (.row true ((cs.drop a.off).take (len * size) ++ new)))
                    else none
                  else none
                | _, _ => none
              else none
            | _ => none
          else none
        | none => none
      | _, _, _ => none
    | _, _ => none
  | _ => none

theorem grownCap_ge (w : World) {need : Nat} (old : Nat) (e : TypeId) : need ≤ grownCap w need old e := by
  show need ≤ need + _ % _
  exact Nat.le_add_right _ _

theorem zeroCells_size (z : Array Value) (n : Nat) : (Builtin.zeroCells z n).size = n * z.size := by simp [Builtin.zeroCells]

/-- append, where the new ones fit. -/
theorem run_append_fits {P : Program} {w w2 : World} {t u ty e : TypeId} (ht : P.underlying t = some (.slice e)) (hu : sliceOrString (P.underlying u) = true) {size : Nat} (hs : szOf P e = some size)
    {a : Addr} {len cap n : Nat} {x' : Value} (hn : (Builtin.lenOf x').run P w = .ok n w) (hfit : len + n ≤ cap) {new : Array Value} (hf : (Builtin.firstCells size n x').run P w = .ok new w)
    (hst : (storeCells (a.add (len * size)) new.toList).run P w = .ok () w2) :
    (Builtin.append_ #[t, u] ty #[.slice (some a) len cap, x']).run P w = .ok (.slice (some a) (len + n) cap) w2 := by
  cases hd : P.underlying u with
  | none => rw [hd] at hu; simp [sliceOrString] at hu
  | some du =>
    rw [hd] at hu
    cases du <;> simp only [sliceOrString, Bool.false_eq_true] at hu
    all_goals
      simp [Builtin.append_, run_underlying ht, run_underlying hd, run_sizeOf hs, hn, hfit, hf, hst]

theorem run_append_none {P : Program} {w : World} {t u ty e : TypeId} (ht : P.underlying t = some (.slice e)) (hu : sliceOrString (P.underlying u) = true) {size : Nat} (hs : szOf P e = some size)
    {b : Option Addr} {len cap : Nat} {x' : Value} (hn : (Builtin.lenOf x').run P w = .ok 0 w) (hl : len ≤ cap) (hf : (Builtin.firstCells size 0 x').run P w = .ok #[] w) :
    (Builtin.append_ #[t, u] ty #[.slice b len cap, x']).run P w = .ok (.slice b len cap) w := by
  cases hd : P.underlying u with
  | none => rw [hd] at hu; simp [sliceOrString] at hu
  | some du =>
    rw [hd] at hu
    cases du <;> simp only [sliceOrString, Bool.false_eq_true] at hu
    all_goals
      cases b <;> simp [Builtin.append_, run_underlying ht, run_underlying hd, run_sizeOf hs, hn, hl, hf, storeCells]

theorem run_append_moves {P : Program} {w : World} {t u ty e : TypeId} (ht : P.underlying t = some (.slice e)) (hu : sliceOrString (P.underlying u) = true) {i : TypeInfo} (hi : P.info? e = some i) {z : Value} (hz : i.zero = some z)
    {b : Option Addr} {len cap n : Nat} {x' : Value} (hn : (Builtin.lenOf x').run P w = .ok n w) (hgt : cap < len + n) (hb0 : 0 < i.bytes) (hfit : (len + n) * i.bytes ≤ 140737488355328)
    {old new : Array Value} (hfo : (Builtin.firstCells i.size len (.slice b len cap)).run P w.drew = .ok old w.drew) (hf : (Builtin.firstCells i.size n x').run P w.drew = .ok new w.drew) :
    (Builtin.append_ #[t, u] ty #[.slice b len cap, x']).run P w =
      .ok (.slice (some ⟨w.heap.size, 0, none⟩) (len + n) (grownCap w (len + n) cap e)) (w.drew.alloc (.cells (old ++ new ++ Builtin.zeroCells z.cells (grownCap w (len + n) cap e - (len + n))) e)) := by
  have h1 : ¬ (len + n ≤ cap) := by omega
  have h2 : ¬ (281474976710656 < Builtin.nextslicecap (len + n) cap * i.bytes) := by have := growslice_fits hgt hfit; omega
  have h3 : ¬ (i.bytes = 0) := by omega
  have hs : ∀ w : World, (sizeOf e).run P w = .ok i.size w := run_sizeOf (by simp [szOf, hi])
  cases hd : P.underlying u with
  | none => rw [hd] at hu; simp [sliceOrString] at hu
  | some du =>
    rw [hd] at hu
    cases du <;> simp only [sliceOrString, Bool.false_eq_true] at hu
    all_goals
      simp [Builtin.append_, run_underlying ht, run_underlying hd, hs, typeInfo, zeroValue, hi, hz, hn, h1, h2, h3, Question.forced, hfo, hf, newRow, grownCap]

theorem aAppend_sound {P : Program} {μ : Mu} {H H' : Heap} {w : World} (h : Rel μ H w) {ts : List TypeId} {ty : TypeId} {s s' x x' v : Value} (hs : VR μ s s') (hx : VR μ x x')
    (he : aAppend P H ts s x = some (v, H')) : OutV P (Builtin.append_ ⟨ts⟩ ty #[s', x']) μ H w v H' := by
  unfold aAppend at he
  split at he
  · rename_i t u
    split at he
    · rename_i e n ht hlen
      split at he
      · rename_i size by_ z hsz hby hz
        split at he
        · rename_i new hnew
          split at he
          · rename_i hc
            obtain ⟨hu, c1, c2, c3, c4, c5⟩ := hc
            have hln := aLenOf_sound (P := P) (w := w) hx hlen
            obtain ⟨new', hf, hvn⟩ := aFirst_sound (P := P) h hx hnew
            obtain ⟨new2, hf2, hvn2⟩ := aFirst_sound (P := P) h.drew hx hnew
            obtain ⟨i, hi, hz'⟩ := zeroOf_info hz
            have hisz := szOf_info hsz hi
            have hiby := bytesOf_info hby hi
            have hzs : z.cells.size = size := by simpa using c3
            have hl2 : new2.size = n * size := by have := hvn2.length; simp only [Array.length_toList] at this; omega
            have hnil : n = 0 → (Builtin.firstCells size 0 x').run P w = .ok #[] w := by
              intro h0
              have : new'.size = 0 := by
                have := hvn.length; rw [c4, h0] at this; simp at this; simp [← this]
              rw [h0] at hf
              rw [hf]; congr 1
              exact Array.eq_empty_of_size_eq_zero this
            -- a new array
            have moved : ∀ (H1 : Heap) (b : Option Addr) (len cap : Nat) (pre : List Value) (old : Array Value), Rel μ H1 w → Step μ H w μ H1 w → H1.n = H.n → cap < len + n → (len + n) * by_ ≤ 140737488355328 →
                (Builtin.firstCells size len (.slice b len cap)).run P w.drew = .ok old w.drew → VRs μ pre old.toList → pre.length = len * size →
                OutV P (Builtin.append_ ⟨[t, u]⟩ ty #[.slice b len cap, x']) μ H w (.slice (some ⟨H.n, 0, none⟩) (len + n) (len + n + 1 + size)) (H1.push (.row true (pre ++ new))) := by
              intro H1 b len cap pre old hr1 hst hn1 hgt hfit hfo hpre hpl
              have hrun := run_append_moves (ty := ty) ht hu hi hz' hln hgt (by omega) (by rw [hiby]; exact hfit) (by rw [hisz]; exact hfo) (by rw [hisz]; exact hf2)
              have hg := grownCap_ge w (need := len + n) cap e
              have hol : old.size = len * size := by have := hpre.length; simp only [Array.length_toList] at this; omega
              have hall := (hpre.append hvn2)
              have hsize : (old ++ new2 ++ Builtin.zeroCells z.cells (grownCap w (len + n) cap e - (len + n))).size = grownCap w (len + n) cap e * size := by
                rw [Array.size_append, Array.size_append, hol, hl2, zeroCells_size, hzs, ← Nat.add_mul, ← Nat.add_mul]
                congr 1; omega
              obtain ⟨a1, a2⟩ := hr1.drew.alloc_row (pre ++ new) (old ++ new2 ++ Builtin.zeroCells z.cells (grownCap w (len + n) cap e - (len + n))) e (0, 0) (by
                rw [hsize, List.length_append, hpl, c4, ← Nat.add_mul]; exact Nat.mul_le_mul_right _ hg) (fun j y hj => by
                obtain ⟨y', q1, q2⟩ := hall.get j y hj
                refine ⟨y', ?_, q2⟩
                rw [← Array.toList_append, Array.getElem?_toList] at q1
                rw [Array.getElem?_append_left (Array.getElem?_eq_some_iff.1 q1).1]
                exact q1) (fun j _ => by omega)
              refine ⟨_, _, _, hrun, ?_, a1, (hst.trans (Step.drew _ _ _)).trans a2⟩
              refine .slice H.n 0 (len + n) (len + n + 1 + size) w.heap.size 0 (old ++ new2 ++ Builtin.zeroCells z.cells (grownCap w (len + n) cap e - (len + n))).size (grownCap w (len + n) cap e) ⟨w.heap.size, 0, none⟩ ?_ (fun _ => rfl) hg (fun hh => by omega) (fun k hk hh => ?_)
              · rw [← hn1]; exact Mu.put_same _ _ _
              · have : k = size := by omega
                subst this
                rw [hsize]; omega
            split at he
            · rename_i l c
              obtain ⟨rfl, rfl, rfl⟩ := hs.inv_nilslice
              split at he
              · rename_i h0
                cases he
                subst h0
                exact OutV.pure h (run_append_none (ty := ty) ht hu hsz hln (Nat.le_refl _) (hnil rfl)) .nilslice
              · rename_i h0
                split at he
                · rename_i hfit
                  cases he
                  have := moved H none 0 0 [] #[] h (Step.refl _ _ _) rfl (by omega) (by simpa using hfit) (by simp [Builtin.firstCells]) .nil (by simp)
                  simpa using this
                · cases he
            · rename_i a len cap
              obtain ⟨b, sh, sz, a', cap', rfl, hm, ha, hl, hcc, hr, hsp⟩ := hs.inv_slice
              split at he
              · rename_i h0
                cases he
                subst h0
                exact OutV.pure h (run_append_none (ty := ty) ht hu hsz hln hl (hnil rfl)) hs
              · rename_i h0
                split at he
                · rename_i hfit
                  split at he
                  · rename_i own cs hs0 hg
                    split at he
                    · rename_i hlen'
                      have hpl : ((cs.drop a.off).take (len * size)).length = len * size := by simp; omega
                      have hold : ∃ old : Array Value, (Builtin.firstCells size len (.slice (some a') len cap')).run P w.drew = .ok old w.drew ∧ VRs μ ((cs.drop a.off).take (len * size)) old.toList := by
                        by_cases hl0 : len = 0
                        · subst hl0
                          exact ⟨#[], by simp [Builtin.firstCells, loadCells, loadCellsFrom], by simpa using VRs.nil⟩
                        · obtain rfl := ha (by omega)
                          obtain ⟨l', h1, h2, h3⟩ := h.drew.cells hg hm a.off (len * size) hlen'
                          exact ⟨l'.toArray, run_firstCells_some w.drew size len _ len cap' l' h2 h3, by simpa using h1⟩
                      obtain ⟨old, hfo, hvo⟩ := hold
                      split at he
                      · rename_i hcl
                        cases he
                        exact moved H (some a') len cap' _ old h (Step.refl _ _ _) rfl (by have := hcc hcl; omega) hfit hfo hvo hpl
                      · rename_i hcl
                        split at he
                        · rename_i hoc
                          obtain ⟨hcap, rfl⟩ := hoc
                          cases he
                          by_cases hfits : len + n ≤ cap'
                          · obtain rfl := ha (by omega)
                            obtain ⟨r1, r2⟩ := h.rebase hg hm a.off (len * size) hlen'
                            have hroom := hr size c1 hcap
                            have hmul : (len + n) * size ≤ cap' * size := Nat.mul_le_mul_right _ hfits
                            rw [Nat.add_mul] at hmul
                            have hvn1 : VRs (μ.put H.n (b, sh + a.off, sz)) new new'.toList := hvn.mono r2.mu
                            obtain ⟨w2, g1, g2, g3⟩ := Rel.grow_cells (P := P) (i := H.n) (b := b) (sh := sh + a.off) (sz := sz) (Mu.put_same _ _ _) new new'.toList _ w ((cs.drop a.off).take (len * size)) (sh + a.off + len * size) 0 r1 hvn1 c5
                              (by have := Heap.get_push_new (H.set a.block .dead) (.row true ((cs.drop a.off).take (len * size))); simpa using this) (by rw [hpl]; rfl) (by rw [hpl, c4]; omega)
                            have hset : ((H.set a.block .dead).push (.row true ((cs.drop a.off).take (len * size)))).set H.n (.row true ((cs.drop a.off).take (len * size) ++ new)) =
                                (H.set a.block .dead).push (.row true ((cs.drop a.off).take (len * size) ++ new)) := Heap.push_set (H.set a.block .dead) _ _
                            rw [hset] at g2 g3
                            have hrun := run_append_fits (ty := ty) ht hu hsz hln hfits hf (a := ⟨b, sh + a.off, none⟩) (w2 := w2) (by rw [Addr.add_lit]; exact g1)
                            refine ⟨_, w2, _, hrun, ?_, g2, r2.trans g3⟩
                            refine .slice H.n 0 (len + n) (len + n + 1 + size) b (sh + a.off) sz cap' _ (Mu.put_same _ _ _) (fun _ => rfl) hfits (fun hh => by omega) (fun k hk hh => ?_)
                            have : k = size := by omega
                            subst this
                            omega
                          · obtain ⟨k1, k2⟩ := h.kill hg
                            exact moved (H.set a.block .dead) (some a') len cap' _ old k1 k2 rfl (by omega) hfit hfo hvo hpl
                        · cases he
                    · cases he
                  · cases he
                · cases he
            · cases he
          · cases he
        · cases he
      · cases he
    · cases he
  · cases he

def aCopy (P : Program) (H : Heap) (ts : List TypeId) (d s : Value) : Option (Value × Heap) :=
  match ts with
  | t :: _ =>
    match P.underlying t, d, aLenOf s with
    | some (.slice e), .slice (some a) dl _, some sl =>
      match szOf P e with
      | some size =>
        match aFirst H size (Nat.min sl dl) s with
        | some cells =>
          if Nat.min sl dl = 0 ∧ cells = [] then some (.int .i64 0, H) else
          match a.spot, H.get a.block with
          | none, some (.row true cs) =>
            if a.off + cells.length ≤ cs.length ∧ cells.all Value.oneCell' = true ∧ dl ≠ 0 then some (.int .i64 (Nat.min sl dl : Nat), H.set a.block (.row true (setAll cs a.off cells))) else none
          | _, _ => none
        | none => none
      | none => none
    | some (.slice e), .slice none _ _, some sl =>
      match szOf P e with
      | some _ => some (.int .i64 0, H)
      | none => none
    | _, _, _ => none
  | _ => none

theorem aCopy_sound {P : Program} {μ : Mu} {H H' : Heap} {w : World} (h : Rel μ H w) {ts : List TypeId} {ty : TypeId} {s s' x x' v : Value} (hs : VR μ s s') (hx : VR μ x x')
    (he : aCopy P H ts s x = some (v, H')) : OutV P (Builtin.copy_ ⟨ts⟩ ty #[s', x']) μ H w v H' := by
  unfold aCopy at he
  split at he
  · rename_i t tl
    split at he
    · rename_i e a dl dc sl ht hlen
      split at he
      · rename_i size hsz
        split at he
        · rename_i cells hcells
          have hln := aLenOf_sound (P := P) (w := w) hx hlen
          obtain ⟨cs', hf, hv⟩ := aFirst_sound (P := P) h hx hcells
          obtain ⟨b, sh, sz, a', cap', rfl, hm, ha, hl, _, _, hsp⟩ := hs.inv_slice
          split at he
          · rename_i h0
            obtain ⟨h1, h2⟩ := h0
            subst h2
            cases he
            have hc0 : cs'.toList = [] := by have := hv.length; exact List.eq_nil_of_length_eq_zero this.symm
            refine OutV.pure (v' := .int .i64 0) h ?_ (.int _ _)
            rw [h1] at hf
            simp only [Builtin.copy_]
            simp [run_underlying ht, hln, run_sizeOf hsz, hf, hc0, storeCells, goInt, h1]
          · split at he
            · rename_i cs hs0 hg
              split at he
              · rename_i hc
                cases he
                have hne : cap' ≠ 0 := by have := hc.2.2; omega
                obtain rfl := ha hne
                obtain ⟨w2, g1, g2, g3⟩ := Rel.store_cells (P := P) hm cells cs'.toList H w cs a.off 0 a.off h hv hc.2.1 hg rfl hc.1
                refine ⟨.int .i64 (Nat.min sl dl : Nat), w2, μ, ?_, .int _ _, g2, g3⟩
                simp only [Builtin.copy_]
                simp [run_underlying ht, hln, run_sizeOf hsz, hf, g1, goInt]
              · cases he
            · cases he
        · cases he
      · cases he
    · rename_i e sl2 c2 sl ht hlen
      split at he
      · rename_i size hsz
        cases he
        have hln := aLenOf_sound (P := P) (w := w) hx hlen
        obtain ⟨rfl, rfl, rfl⟩ := hs.inv_nilslice
        have hf : ∃ cs' : Array Value, (Builtin.firstCells size 0 x').run P w = .ok cs' w := by
          cases x <;> simp only [aLenOf, Option.some.injEq, reduceCtorEq] at hlen
          case slice a _ _ =>
            cases a with
            | none => obtain ⟨rfl, _, _⟩ := hx.inv_nilslice; exact ⟨#[], by simp [Builtin.firstCells]⟩
            | some a => obtain ⟨b, sh, sz, a', cap', rfl, _⟩ := hx.inv_slice; exact ⟨#[], by simp [Builtin.firstCells, loadCells, loadCellsFrom]⟩
          case string s => rw [hx.inv_string]; exact ⟨_, rfl⟩
        obtain ⟨cs', hf⟩ := hf
        refine OutV.pure (v' := .int .i64 0) h ?_ (.int _ _)
        simp only [Builtin.copy_]
        simp [run_underlying ht, hln, run_sizeOf hsz, hf, goInt]
      · cases he
    · cases he
  · cases he
end Go.Ae
