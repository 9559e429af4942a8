/- The law SessionNil, called on any world with any operation as its eight plain cells, returns true and leaves every block that was there. -/
import Derived.Test.YtgjpnajfapcobaaGreatRun
import Derived.Below
set_option autoImplicit false
set_option linter.unusedVariables false
namespace Go.Proofs.YtgjpnajfapcobaaGreat.nil
open Go.Ae

theorem rel0 (w : World) : Rel (fun _ => none) ⟨0, []⟩ w := by
  refine ⟨fun i x h => (by cases h), fun i b sh sz h => (by cases h), fun i o cs b sh sz _ h => (by cases h), fun i es b sh sz _ h => (by cases h), fun i j b sh sz sh' sz' h => (by cases h)⟩

theorem anys {μ : Mu} : ∀ l : List Value, (∀ v ∈ l, v.oneCell' = true ∧ ∀ b, v ≠ .bool b) → VRs μ (List.replicate l.length (.chan none)) l
  | [], _ => .nil
  | v :: l, h => .cons _ _ _ _ (.any v (h v (by simp)).1 (h v (by simp)).2) (anys l fun u hu => h u (by simp [hu]))

/-- A value of such a type is that many plain cells. -/
theorem cells_any {P : Program} {W : World} {base : Nat} {T : TypeId} {v : Value} {ts : List TypeId} {fs : _} (hs : P.underlying T = some (.struct fs)) (h1 : P.cellTypes P.depth T = some ts) (h3 : ts.all (plainTy P) = true)
    (hsz : P.cellsOf T = 8) (h : Value.okWide P W .any base T v) : ∃ cs : List Value, v = .agg ⟨cs⟩ ∧ cs.length = 8 ∧ ∀ u ∈ cs, u.oneCell' = true ∧ ∀ b, u ≠ .bool b := by
  unfold Value.okWide at h
  rw [hs] at h
  obtain ⟨⟨cs⟩, rfl, hcs, ts', e1, _, hcell⟩ := h
  rw [h1, Option.some.injEq] at e1
  subst e1
  rw [hsz] at hcs
  refine ⟨cs, rfl, by simpa using hcs, fun u hu => ?_⟩
  obtain ⟨i, hi, rfl⟩ := List.mem_iff_getElem.1 hu
  obtain ⟨t, ht, hok⟩ := hcell i cs[i] (by simp [hi])
  have hp : plainTy P t = true := List.all_eq_true.1 h3 t (List.mem_of_getElem? ht)
  exact plain_any hok hp

set_option maxRecDepth 100000
theorem walk {W : World} {base : Nat} {v : Value} (h : Value.okWide Tryz.prog W .any base 26 v) : Calls Tryz.prog 3 #[v] W fun e W' => e = .returned (.bool true) ∧ Go.RowKit.Below W.heap.size W W' := by
  obtain ⟨ts, h1, h2, h3⟩ := ops_kinds
  obtain ⟨fs, hs⟩ := op_struct
  obtain ⟨cs, rfl, hl, hv⟩ := cells_any hs h1 h3 op_size (by assumption)
  obtain ⟨H', e⟩ := run
  have hr : VRs (fun _ => none) [.agg ⟨List.replicate 8 (.chan none)⟩] [.agg ⟨cs⟩] := .cons _ _ _ _ (.agg _ _ (by rw [← hl]; exact anys cs hv)) .nil
  refine (evCall_sound e (rel0 W) hr).mono fun x W' hx => ?_
  obtain ⟨v', μ', rfl, q1, q2, q3⟩ := hx
  refine ⟨by rw [q1.inv_bool], q3.os, q3.tape, q3.output, q3.size, fun k hk => q3.frame k hk ?_⟩
  rintro ⟨i, sh, sz, hn, _⟩
  cases hn
end Go.Proofs.YtgjpnajfapcobaaGreat.nil
