/- The evaluator's heap and values, and how they stand for the machine's: plain definitions, for every map of blocks. -/
import Derived.WalkKit
import Derived.Laws.StructEq
set_option autoImplicit false
set_option linter.unusedVariables false
set_option linter.unusedSimpArgs false
namespace Go.Ae

/-! ### 1. The abstract heap -/
inductive Blk where
  | row (own : Bool) (cells : List Value)
  | map (es : List (Value × Value))
  | dead

structure Heap where
  n : Nat
  l : List Blk

def Heap.get (H : Heap) (i : Nat) : Option Blk := if i < H.n then H.l[H.n - 1 - i]? else none
def Heap.push (H : Heap) (b : Blk) : Heap := ⟨H.n + 1, b :: H.l⟩
def Heap.set (H : Heap) (i : Nat) (b : Blk) : Heap := ⟨H.n, H.l.set (H.n - 1 - i) b⟩

theorem Heap.get_lt {H : Heap} {i : Nat} {b : Blk} (h : H.get i = some b) : i < H.n := by
  unfold Heap.get at h
  split at h
  · assumption
  · cases h
@[simp] theorem Heap.push_n (H : Heap) (b : Blk) : (H.push b).n = H.n + 1 := rfl
@[simp] theorem Heap.set_n (H : Heap) (i : Nat) (b : Blk) : (H.set i b).n = H.n := rfl
theorem Heap.get_push_new (H : Heap) (b : Blk) : (H.push b).get H.n = some b := by
  simp [Heap.get, Heap.push]
theorem Heap.get_push_old (H : Heap) (b : Blk) {i : Nat} (h : i ≠ H.n) : (H.push b).get i = H.get i := by
  unfold Heap.get Heap.push
  by_cases h1 : i < H.n
  · have e : H.n + 1 - 1 - i = (H.n - 1 - i) + 1 := by omega
    simp only [h1, if_true, show i < H.n + 1 by omega, e, List.getElem?_cons_succ]
  · simp only [h1, if_false, show ¬ i < H.n + 1 by omega]
theorem Heap.get_set_same {H : Heap} {i : Nat} {b0 : Blk} (b : Blk) (h : H.get i = some b0) : (H.set i b).get i = some b := by
  have hi := Heap.get_lt h
  unfold Heap.get at h ⊢
  simp only [hi, if_true] at h
  have hl : H.n - 1 - i < H.l.length := (List.getElem?_eq_some_iff.1 h).1
  simp [Heap.set, hi, List.getElem?_set, hl]
theorem Heap.get_set_other (H : Heap) (b : Blk) {i j : Nat} (hj : j ≠ i) (hi : i < H.n) : (H.set i b).get j = H.get j := by
  unfold Heap.get
  by_cases h1 : j < H.n
  · simp only [Heap.set, h1, if_true]
    rw [List.getElem?_set_ne (by omega)]
  · simp [Heap.set, h1]

def Blk.own : Blk → Bool
  | .row o _ => o
  | .map _ => true
  | .dead => false
def Blk.alive : Blk → Bool
  | .dead => false
  | _ => true

/-! ### 2. Values related by a map of blocks: abstract block -> (concrete block, shift, size of the concrete row) -/
abbrev Mu := Nat → Option (Nat × Nat × Nat)
def Mu.put (μ : Mu) (i : Nat) (x : Nat × Nat × Nat) : Mu := fun j => if j = i then some x else μ j
theorem Mu.put_same (μ : Mu) (i : Nat) (x : Nat × Nat × Nat) : μ.put i x i = some x := by simp [Mu.put]
theorem Mu.put_other (μ : Mu) {i j : Nat} (x : Nat × Nat × Nat) (h : j ≠ i) : μ.put i x j = μ j := by simp [Mu.put, h]

mutual
inductive VR (μ : Mu) : Value → Value → Prop
  | bool (b : Bool) : VR μ (.bool b) (.bool b)
  | int (k : IntKind) (n : Int) : VR μ (.int k n) (.int k n)
  | string (s : ByteArray) : VR μ (.string s) (.string s)
  | nilptr : VR μ (.pointer none) (.pointer none)
  | ptr (i off b sh sz : Nat) (h : μ i = some (b, sh, sz)) : VR μ (.pointer (some ⟨i, off, none⟩)) (.pointer (some ⟨b, sh + off, none⟩))
  | nilslice : VR μ (.slice none 0 0) (.slice none 0 0)
  | slice (i off len cap b sh sz cap' : Nat) (a' : Addr) (h : μ i = some (b, sh, sz)) (ha : cap' ≠ 0 → a' = ⟨b, sh + off, none⟩) (hl : len ≤ cap') (hc : cap = len → cap' = len)
      (hr : ∀ k, 0 < k → cap = len + 1 + k → sh + off + cap' * k ≤ sz) : VR μ (.slice (some ⟨i, off, none⟩) len cap) (.slice (some a') len cap')
  | nilmap : VR μ (.map none) (.map none)
  | any (v' : Value) (h1 : v'.oneCell' = true) (h2 : ∀ b, v' ≠ .bool b) : VR μ (.chan none) v'
  | map (i b sh sz : Nat) (h : μ i = some (b, sh, sz)) : VR μ (.map (some i)) (.map (some b))
  | nilFunc : VR μ .nilFunc .nilFunc
  | nilIface : VR μ .nilIface .nilIface
  | func (fn : Fn) (x x' y y' : List Value) (h : VRs μ x x') (k : VRs μ y y') : VR μ (.func fn ⟨x⟩ ⟨y⟩) (.func fn ⟨x'⟩ ⟨y'⟩)
  | iface (t : TypeId) (v v' : Value) (h : VR μ v v') : VR μ (.iface t v) (.iface t v')
  | agg (x x' : List Value) (h : VRs μ x x') : VR μ (.agg ⟨x⟩) (.agg ⟨x'⟩)
  | tuple (x x' : List Value) (h : VRs μ x x') : VR μ (.tuple ⟨x⟩) (.tuple ⟨x'⟩)
inductive VRs (μ : Mu) : List Value → List Value → Prop
  | nil : VRs μ [] []
  | cons (v v' : Value) (l l' : List Value) (h : VR μ v v') (k : VRs μ l l') : VRs μ (v :: l) (v' :: l')
end

def Mu.le (μ μ' : Mu) : Prop := ∀ i x, μ i = some x → μ' i = some x
theorem Mu.le_refl (μ : Mu) : μ.le μ := fun _ _ h => h
theorem Mu.le_trans {a b c : Mu} (h : a.le b) (k : b.le c) : a.le c := fun i x e => k i x (h i x e)
theorem Mu.le_put {μ : Mu} {i : Nat} (x : Nat × Nat × Nat) (h : μ i = none) : μ.le (μ.put i x) := by
  intro j y e
  by_cases hj : j = i
  · subst hj; rw [h] at e; cases e
  · rw [Mu.put_other _ _ hj]; exact e

mutual
theorem VR.mono {μ μ' : Mu} (hm : μ.le μ') {v v' : Value} : VR μ v v' → VR μ' v v'
  | .bool b => .bool b
  | .int k n => .int k n
  | .string s => .string s
  | .nilptr => .nilptr
  | .ptr i off b sh sz h => .ptr i off b sh sz (hm _ _ h)
  | .nilslice => .nilslice
  | .slice i off len cap b sh sz cap' a' h ha hl hc hr => .slice i off len cap b sh sz cap' a' (hm _ _ h) ha hl hc hr
  | .nilmap => .nilmap
  | .any v' h1 h2 => .any v' h1 h2
  | .map i b sh sz h => .map i b sh sz (hm _ _ h)
  | .nilFunc => .nilFunc
  | .nilIface => .nilIface
  | .func fn x x' y y' h k => .func fn x x' y y' (VRs.mono hm h) (VRs.mono hm k)
  | .iface t v v' h => .iface t v v' (VR.mono hm h)
  | .agg x x' h => .agg x x' (VRs.mono hm h)
  | .tuple x x' h => .tuple x x' (VRs.mono hm h)
theorem VRs.mono {μ μ' : Mu} (hm : μ.le μ') {l l' : List Value} : VRs μ l l' → VRs μ' l l'
  | .nil => .nil
  | .cons v v' l l' h k => .cons v v' l l' (VR.mono hm h) (VRs.mono hm k)
end

theorem VRs.length {μ : Mu} : ∀ {l l' : List Value}, VRs μ l l' → l.length = l'.length
  | _, _, .nil => rfl
  | _, _, .cons _ _ _ _ _ k => by simp [VRs.length k]
theorem VRs.get {μ : Mu} : ∀ {l l' : List Value}, VRs μ l l' → ∀ (j : Nat) (v : Value), l[j]? = some v → ∃ v', l'[j]? = some v' ∧ VR μ v v'
  | _, _, .nil, j, v, h => by simp at h
  | _, _, .cons a a' l l' h k, 0, v, e => by simp at e; subst e; exact ⟨a', by simp, h⟩
  | _, _, .cons a a' l l' h k, j + 1, v, e => by simpa using VRs.get k j v (by simpa using e)
theorem VRs.of_get {μ : Mu} : ∀ {l l' : List Value}, l.length = l'.length → (∀ (j : Nat) (v v' : Value), l[j]? = some v → l'[j]? = some v' → VR μ v v') → VRs μ l l'
  | [], [], _, _ => .nil
  | [], _ :: _, h, _ => by simp at h
  | _ :: _, [], h, _ => by simp at h
  | a :: l, b :: l', h, k => .cons a b l l' (k 0 a b (by simp) (by simp)) (VRs.of_get (by simpa using h) fun j v v' e e' => k (j + 1) v v' (by simpa using e) (by simpa using e'))
theorem VRs.append {μ : Mu} : ∀ {l l' m m' : List Value}, VRs μ l l' → VRs μ m m' → VRs μ (l ++ m) (l' ++ m')
  | _, _, _, _, .nil, k => by simpa using k
  | _, _, _, _, .cons a b l l' h hs, k => .cons _ _ _ _ h (VRs.append hs k)
theorem VRs.take {μ : Mu} : ∀ (n : Nat) {l l' : List Value}, VRs μ l l' → VRs μ (l.take n) (l'.take n)
  | 0, _, _, _ => by simpa using VRs.nil
  | n + 1, _, _, .nil => by simpa using VRs.nil
  | n + 1, _, _, .cons a b l l' h hs => by simpa using VRs.cons _ _ _ _ h (VRs.take n hs)
theorem VRs.drop {μ : Mu} : ∀ (n : Nat) {l l' : List Value}, VRs μ l l' → VRs μ (l.drop n) (l'.drop n)
  | 0, _, _, h => by simpa using h
  | n + 1, _, _, .nil => by simpa using VRs.nil
  | n + 1, _, _, .cons a b l l' h hs => by simpa using VRs.drop n hs
theorem VRs.set {μ : Mu} {v v' : Value} (hv : VR μ v v') : ∀ (n : Nat) {l l' : List Value}, VRs μ l l' → VRs μ (l.set n v) (l'.set n v')
  | _, _, _, .nil => by simpa using VRs.nil
  | 0, _, _, .cons a b l l' h hs => by simpa using VRs.cons _ _ _ _ hv hs
  | n + 1, _, _, .cons a b l l' h hs => by simpa using VRs.cons _ _ _ _ h (VRs.set hv n hs)

theorem VR.oneCell {μ : Mu} {v v' : Value} (h : VR μ v v') : v'.oneCell' = v.oneCell' := by cases h <;> first | rfl | assumption
/-- A value's cells. -/
theorem VR.cells {μ : Mu} {v v' : Value} (h : VR μ v v') : VRs μ v.cells.toList v'.cells.toList := by
  cases h <;> first
    | (rename_i h1 h2
       have hc : v'.cells = #[v'] := by cases v' <;> first | rfl | simp [Value.oneCell'] at h1
       rw [hc]
       exact VRs.cons _ _ _ _ (.any v' h1 h2) .nil)
    | exact VRs.cons _ _ _ _ (by constructor <;> assumption) .nil
    | assumption

/-! ### 3. Values without places in memory -/
def pureV : Nat → Value → Bool
  | 0, _ => false
  | n + 1, v => match v with
    | .bool _ | .int _ _ | .string _ | .pointer none | .slice none 0 0 | .map none | .nilFunc | .nilIface => true
    | .func _ x y => x.toList.all (pureV n) && y.toList.all (pureV n)
    | .iface _ v => pureV n v
    | .agg x | .tuple x => x.toList.all (pureV n)
    | _ => false
theorem pureV_VRs {μ : Mu} {n : Nat} (ih : ∀ v, pureV n v = true → VR μ v v) : ∀ l : List Value, l.all (pureV n) = true → VRs μ l l
  | [], _ => .nil
  | v :: l, h => by
    simp only [List.all_cons, Bool.and_eq_true] at h
    exact .cons _ _ _ _ (ih v h.1) (pureV_VRs ih l h.2)
theorem pureV_VR (μ : Mu) : ∀ (n : Nat) (v : Value), pureV n v = true → VR μ v v
  | 0, v, h => by simp [pureV] at h
  | n + 1, v, h => by
    have ih := pureV_VR μ n
    unfold pureV at h
    split at h
    · exact .bool _
    · exact .int _ _
    · exact .string _
    · exact .nilptr
    · exact .nilslice
    · exact .nilmap
    · exact .nilFunc
    · exact .nilIface
    · rename_i fn x y
      simp only [Bool.and_eq_true] at h
      exact .func fn x.toList x.toList y.toList y.toList (pureV_VRs ih _ h.1) (pureV_VRs ih _ h.2)
    · exact .iface _ _ _ (ih _ h)
    · rename_i x
      exact .agg x.toList x.toList (pureV_VRs ih _ h)
    · rename_i x
      exact .tuple x.toList x.toList (pureV_VRs ih _ h)
    · cases h

theorem VR.undef (μ : Mu) : VR μ undef undef := .tuple [] [] .nil

/-! ### 4. The abstract heap and the world -/
def isOwn (H : Heap) (i : Nat) : Prop := ∃ b, H.get i = some b ∧ b.own = true
def isAlive (H : Heap) (i : Nat) : Prop := ∃ b, H.get i = some b ∧ b.alive = true
theorem isOwn.alive {H : Heap} {i : Nat} (h : isOwn H i) : isAlive H i := by
  obtain ⟨b, h1, h2⟩ := h
  exact ⟨b, h1, by cases b <;> simp_all [Blk.own, Blk.alive]⟩
def Own (μ : Mu) (H : Heap) (b : Nat) : Prop := ∃ i sh sz, μ i = some (b, sh, sz) ∧ isOwn H i

def MapRel (μ : Mu) : List (Value × Value) → List MapEntry → Prop
  | [], [] => True
  | (k, v) :: es, e :: l => VR μ k e.key ∧ VR μ v e.val ∧ MapRel μ es l
  | _, _ => False

structure Rel (μ : Mu) (H : Heap) (w : World) : Prop where
  dom : ∀ i x, μ i = some x → i < H.n
  lt : ∀ i b sh sz, μ i = some (b, sh, sz) → b < w.heap.size
  row : ∀ i o cs b sh sz, H.get i = some (.row o cs) → μ i = some (b, sh, sz) → ∃ c e fr, w.heap[b]? = some (.cells c e fr) ∧ c.size = sz ∧ sh + cs.length ≤ sz ∧
    (∀ j v, cs[j]? = some v → ∃ v', c[sh + j]? = some v' ∧ VR μ v v') ∧ (o = true → ∀ j, j < sz → ¬ (fr.1 ≤ j ∧ j < fr.2))
  map : ∀ i es b sh sz, H.get i = some (.map es) → μ i = some (b, sh, sz) → ∃ a clk, w.heap[b]? = some (.map a clk) ∧ MapRel μ es a.toList
  excl : ∀ i j b sh sz sh' sz', μ i = some (b, sh, sz) → μ j = some (b, sh', sz') → isOwn H i → isAlive H j → i = j

structure Step (μ : Mu) (H : Heap) (w : World) (μ' : Mu) (H' : Heap) (w' : World) : Prop where
  os : w'.os = w.os
  tape : w'.tape = w.tape
  output : w'.output = w.output
  size : w.heap.size ≤ w'.heap.size
  mu : μ.le μ'
  n : H.n ≤ H'.n
  fresh : ∀ i, i < H.n → μ i = none → μ' i = none
  frame : ∀ b, b < w.heap.size → ¬ Own μ H b → w'.heap[b]? = w.heap[b]?
  own : ∀ b, b < w.heap.size → Own μ' H' b → Own μ H b

theorem Step.refl (μ : Mu) (H : Heap) (w : World) : Step μ H w μ H w := ⟨rfl, rfl, rfl, Nat.le_refl _, Mu.le_refl _, Nat.le_refl _, fun _ _ h => h, fun _ _ _ => rfl, fun _ _ h => h⟩
theorem Step.trans {μ μ1 μ2 : Mu} {H H1 H2 : Heap} {w w1 w2 : World} (h : Step μ H w μ1 H1 w1) (k : Step μ1 H1 w1 μ2 H2 w2) : Step μ H w μ2 H2 w2 :=
  ⟨k.os.trans h.os, k.tape.trans h.tape, k.output.trans h.output, Nat.le_trans h.size k.size, Mu.le_trans h.mu k.mu, Nat.le_trans h.n k.n, fun i hi e => k.fresh i (Nat.lt_of_lt_of_le hi h.n) (h.fresh i hi e),
    fun b hb ho => (k.frame b (Nat.lt_of_lt_of_le hb h.size) fun hh => ho (h.own b hb hh)).trans (h.frame b hb ho),
    fun b hb hh => h.own b hb (k.own b (Nat.lt_of_lt_of_le hb h.size) hh)⟩

theorem Rel.drew {μ : Mu} {H : Heap} {w : World} (h : Rel μ H w) : Rel μ H w.drew := ⟨h.dom, h.lt, h.row, h.map, h.excl⟩
theorem Step.drew (μ : Mu) (H : Heap) (w : World) : Step μ H w μ H w.drew := ⟨rfl, rfl, rfl, Nat.le_refl _, Mu.le_refl _, Nat.le_refl _, fun _ _ h => h, fun _ _ _ => rfl, fun _ _ h => h⟩

theorem MapRel.mono {μ μ' : Mu} (hm : μ.le μ') : ∀ {es : List (Value × Value)} {l : List MapEntry}, MapRel μ es l → MapRel μ' es l
  | [], [], _ => trivial
  | (_, _) :: es, _ :: l, h => ⟨h.1.mono hm, h.2.1.mono hm, MapRel.mono hm h.2.2⟩
  | [], _ :: _, h => h.elim
  | _ :: _, [], h => h.elim

/-! ### 5. What is added to the heap -/
theorem Rel.fresh {μ : Mu} {H : Heap} {w : World} (h : Rel μ H w) : μ H.n = none := by
  cases e : μ H.n with
  | none => rfl
  | some x => have := h.dom _ _ e; omega

/-- A new row, of the call's own. -/
theorem Rel.alloc_gen {μ : Mu} {H : Heap} {w : World} (h : Rel μ H w) (w2 : World) (cs : List Value) (c : Array Value) (e : TypeId) (fr : Nat × Nat) (hos : w2.os = w.os) (htp : w2.tape = w.tape) (hou : w2.output = w.output)
    (hw2 : w2.heap.size = w.heap.size + 1) (hold : ∀ b, b < w.heap.size → w2.heap[b]? = w.heap[b]?) (hnew : w2.heap[w.heap.size]? = some (.cells c e fr)) (hlen : cs.length ≤ c.size)
    (hc : ∀ (j : Nat) (v : Value), cs[j]? = some v → ∃ v' : Value, c[j]? = some v' ∧ VR μ v v') (hf : ∀ j : Nat, j < c.size → ¬ (fr.1 ≤ j ∧ j < fr.2)) :
    Rel (μ.put H.n (w.heap.size, 0, c.size)) (H.push (.row true cs)) w2 ∧
    Step μ H w (μ.put H.n (w.heap.size, 0, c.size)) (H.push (.row true cs)) w2 := by
  have hfr := h.fresh
  have hm : μ.le (μ.put H.n (w.heap.size, 0, c.size)) := Mu.le_put _ hfr
  refine ⟨⟨?_, ?_, ?_, ?_, ?_⟩, ⟨hos, htp, hou, by omega, hm, by simp, fun i hi e => by rw [Mu.put_other _ _ (by omega)]; exact e, fun b hb _ => hold b hb, ?_⟩⟩
  · intro i x hx
    by_cases hi : i = H.n
    · subst hi; simp
    · rw [Mu.put_other _ _ hi] at hx
      have := h.dom i x hx
      simp; omega
  · intro i b sh sz hx
    by_cases hi : i = H.n
    · subst hi; rw [Mu.put_same] at hx; cases hx; omega
    · rw [Mu.put_other _ _ hi] at hx
      have := h.lt i b sh sz hx
      omega
  · intro i o ds b sh sz hg hx
    by_cases hi : i = H.n
    · subst hi
      rw [Heap.get_push_new] at hg
      rw [Mu.put_same] at hx
      cases hg; cases hx
      exact ⟨c, e, fr, hnew, rfl, by omega, fun j v hj => by
        obtain ⟨v', h1, h2⟩ := hc j v hj
        exact ⟨v', by simpa using h1, h2.mono hm⟩, fun _ => hf⟩
    · rw [Heap.get_push_old _ _ hi] at hg
      rw [Mu.put_other _ _ hi] at hx
      obtain ⟨c', e', fr', h1, h2, h3, h4, h5⟩ := h.row i o ds b sh sz hg hx
      have hb : b < w.heap.size := (Array.getElem?_eq_some_iff.1 h1).1
      exact ⟨c', e', fr', by rw [hold b hb]; exact h1, h2, h3, fun j v hj => by
        obtain ⟨v', a1, a2⟩ := h4 j v hj
        exact ⟨v', a1, a2.mono hm⟩, h5⟩
  · intro i es b sh sz hg hx
    by_cases hi : i = H.n
    · subst hi; rw [Heap.get_push_new] at hg; cases hg
    · rw [Heap.get_push_old _ _ hi] at hg
      rw [Mu.put_other _ _ hi] at hx
      obtain ⟨a, clk, h1, h2⟩ := h.map i es b sh sz hg hx
      have hb : b < w.heap.size := (Array.getElem?_eq_some_iff.1 h1).1
      exact ⟨a, clk, by rw [hold b hb]; exact h1, h2.mono hm⟩
  · intro i j b sh sz sh' sz' hi hj ho ha
    by_cases ei : i = H.n
    · subst ei
      rw [Mu.put_same] at hi
      cases hi
      by_cases ej : j = H.n
      · exact ej.symm
      · rw [Mu.put_other _ _ ej] at hj
        have := h.lt j _ _ _ hj
        omega
    · rw [Mu.put_other _ _ ei] at hi
      have hlt := h.lt i _ _ _ hi
      by_cases ej : j = H.n
      · subst ej; rw [Mu.put_same] at hj; cases hj; omega
      · rw [Mu.put_other _ _ ej] at hj
        refine h.excl i j b sh sz sh' sz' hi hj ?_ ?_
        · obtain ⟨x, h1, h2⟩ := ho; rw [Heap.get_push_old _ _ ei] at h1; exact ⟨x, h1, h2⟩
        · obtain ⟨x, h1, h2⟩ := ha; rw [Heap.get_push_old _ _ ej] at h1; exact ⟨x, h1, h2⟩
  · intro b hb ⟨i, sh, sz, hx, hown⟩
    by_cases hi : i = H.n
    · subst hi; rw [Mu.put_same] at hx; cases hx; omega
    · rw [Mu.put_other _ _ hi] at hx
      obtain ⟨x, h1, h2⟩ := hown
      rw [Heap.get_push_old _ _ hi] at h1
      exact ⟨i, sh, sz, hx, x, h1, h2⟩

theorem Rel.alloc_row {μ : Mu} {H : Heap} {w : World} (h : Rel μ H w) (cs : List Value) (c : Array Value) (e : TypeId) (fr : Nat × Nat) (hlen : cs.length ≤ c.size)
    (hc : ∀ (j : Nat) (v : Value), cs[j]? = some v → ∃ v' : Value, c[j]? = some v' ∧ VR μ v v') (hf : ∀ j : Nat, j < c.size → ¬ (fr.1 ≤ j ∧ j < fr.2)) :
    Rel (μ.put H.n (w.heap.size, 0, c.size)) (H.push (.row true cs)) (w.alloc (.cells c e fr)) ∧
    Step μ H w (μ.put H.n (w.heap.size, 0, c.size)) (H.push (.row true cs)) (w.alloc (.cells c e fr)) :=
  h.alloc_gen (w.alloc (.cells c e fr)) cs c e fr rfl rfl rfl (by simp) (fun b hb => by simp only [World.alloc, Array.getElem?_push]; rw [if_neg (by omega)]) (heap_alloc_new w _) hlen hc hf

/-- A new map. -/
theorem Rel.alloc_map {μ : Mu} {H : Heap} {w : World} (h : Rel μ H w) :
    Rel (μ.put H.n (w.heap.size, 0, 0)) (H.push (.map [])) (w.alloc (.map #[] 0)) ∧
    Step μ H w (μ.put H.n (w.heap.size, 0, 0)) (H.push (.map [])) (w.alloc (.map #[] 0)) := by
  have hfr := h.fresh
  have hm : μ.le (μ.put H.n (w.heap.size, 0, 0)) := Mu.le_put _ hfr
  have hold : ∀ b, b < w.heap.size → (w.alloc (.map #[] 0)).heap[b]? = w.heap[b]? := fun b hb => by
    simp only [World.alloc, Array.getElem?_push]; rw [if_neg (by omega)]
  have hnew : (w.alloc (.map #[] 0)).heap[w.heap.size]? = some (.map #[] 0) := heap_alloc_new w _
  refine ⟨⟨?_, ?_, ?_, ?_, ?_⟩, ⟨rfl, rfl, rfl, by simp, hm, by simp, fun i hi e => by rw [Mu.put_other _ _ (by omega)]; exact e, fun b hb _ => hold b hb, ?_⟩⟩
  · intro i x hx
    by_cases hi : i = H.n
    · subst hi; simp
    · rw [Mu.put_other _ _ hi] at hx
      have := h.dom i x hx
      simp; omega
  · intro i b sh sz hx
    by_cases hi : i = H.n
    · subst hi; rw [Mu.put_same] at hx; cases hx; simp
    · rw [Mu.put_other _ _ hi] at hx
      have := h.lt i b sh sz hx
      simp; omega
  · intro i o ds b sh sz hg hx
    by_cases hi : i = H.n
    · subst hi; rw [Heap.get_push_new] at hg; cases hg
    · rw [Heap.get_push_old _ _ hi] at hg
      rw [Mu.put_other _ _ hi] at hx
      obtain ⟨c', e', fr', h1, h2, h3, h4, h5⟩ := h.row i o ds b sh sz hg hx
      have hb : b < w.heap.size := (Array.getElem?_eq_some_iff.1 h1).1
      exact ⟨c', e', fr', by rw [hold b hb]; exact h1, h2, h3, fun j v hj => by
        obtain ⟨v', a1, a2⟩ := h4 j v hj
        exact ⟨v', a1, a2.mono hm⟩, h5⟩
  · intro i es b sh sz hg hx
    by_cases hi : i = H.n
    · subst hi
      rw [Heap.get_push_new] at hg
      rw [Mu.put_same] at hx
      cases hg; cases hx
      exact ⟨#[], 0, hnew, trivial⟩
    · rw [Heap.get_push_old _ _ hi] at hg
      rw [Mu.put_other _ _ hi] at hx
      obtain ⟨a, clk, h1, h2⟩ := h.map i es b sh sz hg hx
      have hb : b < w.heap.size := (Array.getElem?_eq_some_iff.1 h1).1
      exact ⟨a, clk, by rw [hold b hb]; exact h1, h2.mono hm⟩
  · intro i j b sh sz sh' sz' hi hj ho ha
    by_cases ei : i = H.n
    · subst ei
      rw [Mu.put_same] at hi
      cases hi
      by_cases ej : j = H.n
      · exact ej.symm
      · rw [Mu.put_other _ _ ej] at hj
        have := h.lt j _ _ _ hj
        omega
    · rw [Mu.put_other _ _ ei] at hi
      have hlt := h.lt i _ _ _ hi
      by_cases ej : j = H.n
      · subst ej; rw [Mu.put_same] at hj; cases hj; omega
      · rw [Mu.put_other _ _ ej] at hj
        refine h.excl i j b sh sz sh' sz' hi hj ?_ ?_
        · obtain ⟨x, h1, h2⟩ := ho; rw [Heap.get_push_old _ _ ei] at h1; exact ⟨x, h1, h2⟩
        · obtain ⟨x, h1, h2⟩ := ha; rw [Heap.get_push_old _ _ ej] at h1; exact ⟨x, h1, h2⟩
  · intro b hb ⟨i, sh, sz, hx, hown⟩
    by_cases hi : i = H.n
    · subst hi; rw [Mu.put_same] at hx; cases hx; omega
    · rw [Mu.put_other _ _ hi] at hx
      obtain ⟨x, h1, h2⟩ := hown
      rw [Heap.get_push_old _ _ hi] at h1
      exact ⟨i, sh, sz, hx, x, h1, h2⟩
end Go.Ae
