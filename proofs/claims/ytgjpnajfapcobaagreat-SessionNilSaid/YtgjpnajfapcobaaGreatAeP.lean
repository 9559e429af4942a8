/- Laws for the closed facts of a row over a great program: what a closure holds, by tables of the functions; for every program. -/
import GoSem.ClaimJoined
import Derived.JoinedOf
set_option autoImplicit false
set_option linter.unusedVariables false
set_option linter.unusedSimpArgs false
namespace Go.Ae

/-! The closed facts of a row over a great program, reckoned by tables. -/
def closB (T : List (List Nat)) : Nat → List Nat → List Nat → Nat → List Nat
  | 0, _, seen, _ => seen.reverse
  | _, [], seen, _ => seen.reverse
  | n + 1, f :: todo, seen, b => if b.testBit f then closB T n todo seen b else closB T n (T.getD f [] ++ todo) (f :: seen) (b ||| 2 ^ f)

theorem funcs_at {α : Type} (P : Program) (h : Func → α) {T : List α} (hT : P.funcs.toList.map h = T) (g : Nat) : T[g]? = (P.funcs[g]?).map h := by
  subst hT
  rw [List.getElem?_map, Array.getElem?_toList]

theorem closB_eq {P : Program} {T : List (List Nat)} (hT : P.funcs.toList.map P.leadsTo = T) : ∀ (n : Nat) (todo seen : List Nat) (b : Nat), (∀ x, b.testBit x = seen.contains x) → P.closureVia n todo seen = closB T n todo seen b
  | 0, todo, seen, b, _ => by unfold Program.closureVia closB; rfl
  | n + 1, [], seen, b, _ => by unfold Program.closureVia closB; rfl
  | n + 1, f :: todo, seen, b, hb => by
    unfold Program.closureVia closB
    rw [hb f]
    by_cases hc : seen.contains f = true
    · rw [if_pos hc, if_pos hc]
      exact closB_eq hT n todo seen b hb
    · rw [if_neg hc, if_neg hc]
      have e : (P.funcs[f]?).elim [] P.leadsTo = T.getD f [] := by
        rw [List.getD_eq_getElem?_getD, funcs_at P P.leadsTo hT f]
        cases P.funcs[f]? <;> rfl
      rw [e]
      refine closB_eq hT n _ _ _ fun x => ?_
      rw [Nat.testBit_or, hb x, Nat.testBit_two_pow, List.contains_cons]
      by_cases hx : f = x
      · subst hx; simp
      · have : (x == f) = false := by simpa using fun h => hx h.symm
        simp [hx, this]

theorem closure_eq {P : Program} {T : List (List Nat)} (hT : P.funcs.toList.map P.leadsTo = T) (f : Nat) : P.closure f = closB T (1 + (T.map fun l => l.length + 1).sum) [f] [] 0 := by
  unfold Program.closure
  have e : (P.funcs.toList.map fun g => (P.leadsTo g).length + 1) = T.map fun l => l.length + 1 := by
    subst hT; rw [List.map_map]; rfl
  rw [e]
  exact closB_eq hT _ _ _ _ fun x => by simp

def placeOf (fn : Func) : Option String := if fn.ours || fn.body.isNone || fn.name == "runtime.NumGoroutine" then some fn.name else none
theorem inPlace_eq {P : Program} {f : Nat} {L : List Nat} {I : List (Option String)} (hL : P.closure f = L) (hI : P.funcs.toList.map placeOf = I) : P.inPlace f = L.filterMap fun g => (I[g]?).bind id := by
  unfold Program.inPlace
  rw [hL]
  congr 1
  funext g
  rw [funcs_at P placeOf hI g]
  cases P.funcs[g]? <;> rfl

def unfollowedOf (fn : Func) : Bool := match fn.body with | some c => c.unfollowed | none => entryCalls fn
theorem unfollowed_eq {P : Program} {f : Nat} {L : List Nat} {U : List Bool} (hL : P.closure f = L) (hU : P.funcs.toList.map unfollowedOf = U) : P.unfollowed f = L.any fun g => (U[g]?).getD false := by
  unfold Program.unfollowed
  rw [hL]
  congr 1
  funext g
  rw [funcs_at P unfollowedOf hU g]
  cases P.funcs[g]? <;> rfl
theorem recurses_of {P : Program} {f : Nat} (h : P.unfollowed f = true) : P.recurses f = true := by
  unfold Program.recurses
  rw [h, Bool.true_or]

def globalsOf (fn : Func) : List Nat := fn.body.elim [] Code.globalsNamed
def readOf (fn : Func) : Option String := if fn.body.isNone then entryReads.lookup fn.name else none
theorem varsNamed_eq {P : Program} {f : Nat} {L : List Nat} {G : List (List Nat)} {R : List (Option String)} (hL : P.closure f = L) (hG : P.funcs.toList.map globalsOf = G) (hR : P.funcs.toList.map readOf = R) :
    P.varsNamed f = ((((L.flatMap fun g => G.getD g []).eraseDups).filterMap (fun g => (P.globals[g]?).map (·.name))) ++ L.filterMap fun g => (R[g]?).bind id).eraseDups := by
  unfold Program.varsNamed
  rw [hL]
  have e1 : (fun g => ((P.funcs[g]?).bind (·.body)).elim [] Code.globalsNamed) = fun g => G.getD g [] := by
    funext g
    rw [List.getD_eq_getElem?_getD, funcs_at P globalsOf hG g]
    cases P.funcs[g]? <;> rfl
  have e2 : (fun (g : Nat) => (P.funcs[g]?).bind fun (fn : Func) => if fn.body.isNone then entryReads.lookup fn.name else none) = fun g => (R[g]?).bind id := by
    funext g
    rw [funcs_at P readOf hR g]
    cases P.funcs[g]? <;> rfl
  rw [e1, e2]

def allFrom (p : Nat → Bool) : Nat → Nat → Bool
  | _, 0 => true
  | a, k + 1 => p a && allFrom p (a + 1) k
theorem allFrom_iff (p : Nat → Bool) : ∀ (k a : Nat), allFrom p a k = true ↔ ∀ i, a ≤ i → i < a + k → p i = true
  | 0, a => by simp [allFrom]; intro i h1 h2; omega
  | k + 1, a => by
    simp only [allFrom, Bool.and_eq_true, allFrom_iff p k (a + 1)]
    constructor
    · rintro ⟨h1, h2⟩ i h3 h4
      by_cases hi : i = a
      · subst hi; exact h1
      · exact h2 i (by omega) (by omega)
    · intro h
      exact ⟨h a (by omega) (by omega), fun i h1 h2 => h i (by omega) (by omega)⟩
theorem allFrom_join {p : Nat → Bool} {a k l b n : Nat} (hb : a + k = b) (hn : k + l = n) (h1 : allFrom p a k = true) (h2 : allFrom p b l = true) : allFrom p a n = true :=
  (allFrom_iff p _ _).2 fun i h3 h4 => by
    by_cases h : i < a + k
    · exact (allFrom_iff p _ _).1 h1 i h3 h
    · exact (allFrom_iff p _ _).1 h2 i (by omega) (by omega)
theorem range_all {p : Nat → Bool} {n : Nat} (h : allFrom p 0 n = true) : (List.range n).all p = true :=
  List.all_eq_true.2 fun i hi => (allFrom_iff p _ _).1 h i (by omega) (by simpa using hi)
theorem and_mk {a b : Bool} (ha : a = true) (hb : b = true) : (a && b) = true := by rw [ha, hb]; rfl
theorem beq_of {α : Type} [BEq α] [LawfulBEq α] {a b : α} (h : b = a) : (a == b) = true := by rw [h]; exact beq_self_eq_true a
end Go.Ae
