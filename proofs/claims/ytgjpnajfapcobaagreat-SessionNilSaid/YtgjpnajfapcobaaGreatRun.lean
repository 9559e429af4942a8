/- The law SessionNil's whole run, on eight cells that are never looked at, reckoned once by the kernel: it returns true. -/
import Derived.Test.YtgjpnajfapcobaaGreatAeN
import Derived.Test.YtgjpnajfapcobaaGreatProg
import Derived.KernelRfl
set_option autoImplicit false
set_option linter.unusedVariables false
namespace Go.Proofs.YtgjpnajfapcobaaGreat.nil
open Go.Ae

def okTrue : Option (Value × Heap) → Bool
  | some (.bool true, _) => true
  | _ => false
theorem okTrue_spec : ∀ {r : Option (Value × Heap)}, okTrue r = true → ∃ H', r = some (.bool true, H')
  | some (.bool true, H'), _ => ⟨H', rfl⟩

set_option maxRecDepth 100000 in
/-- THE RUN, reckoned by the kernel: the argument's cells are never looked at. -/
theorem closed : okTrue (evCall Tryz.prog 200 3 [.agg ⟨List.replicate 8 (.chan none)⟩] ⟨0, []⟩) = true := by kernel_rfl
theorem run : ∃ H', evCall Tryz.prog 200 3 [.agg ⟨List.replicate 8 (.chan none)⟩] ⟨0, []⟩ = some (.bool true, H') := okTrue_spec closed

def isStructB : Option TypeDesc → Bool
  | some (.struct _) => true
  | _ => false
theorem isStructB_spec : ∀ {o : Option TypeDesc}, isStructB o = true → ∃ fs, o = some (.struct fs)
  | some (.struct fs), _ => ⟨fs, rfl⟩
theorem op_struct : ∃ fs, Tryz.prog.underlying 26 = some (.struct fs) := isStructB_spec (by kernel_rfl)
theorem op_size : Tryz.prog.cellsOf 26 = 8 := by kernel_rfl

def plainTy (P : Program) (u : TypeId) : Bool :=
  match P.underlying u with
  | some .string | some (.int _) | some (.slice _) => true
  | _ => false

theorem plain_any {P : Program} {w : World} {r : Reach} {base : Nat} {u : TypeId} {v : Value} (h : Cell.okWide P w r base u v) (hu : plainTy P u = true) : v.oneCell' = true ∧ ∀ b, v ≠ .bool b := by
  unfold plainTy at hu
  unfold Cell.okWide at h
  split at hu
  all_goals first | (cases hu; done) | skip
  all_goals
    rename_i e
    rw [e] at h
    unfold Cell.ok at h
    rw [e] at h
    cases v <;> first | (simp at h; done) | exact ⟨rfl, fun b hb => by cases hb⟩

theorem kinds_spec {P : Program} : ∀ {o : Option (List TypeId)}, (o.map fun ts => decide (ts.length = 8) && ts.all (plainTy P)) = some true → ∃ ts, o = some ts ∧ ts.length = 8 ∧ ts.all (plainTy P) = true
  | some ts, h => by
    simp only [Option.map_some, Option.some.injEq, Bool.and_eq_true, decide_eq_true_eq] at h
    exact ⟨ts, rfl, h.1, h.2⟩
theorem ops_kinds : ∃ ts, Tryz.prog.cellTypes Tryz.prog.depth 26 = some ts ∧ ts.length = 8 ∧ ts.all (plainTy Tryz.prog) = true := by
  have h : ((Tryz.prog.cellTypes Tryz.prog.depth 26).map fun ts => decide (ts.length = 8) && ts.all (plainTy Tryz.prog)) = some true := by kernel_rfl
  exact kinds_spec h

end Go.Proofs.YtgjpnajfapcobaaGreat.nil
