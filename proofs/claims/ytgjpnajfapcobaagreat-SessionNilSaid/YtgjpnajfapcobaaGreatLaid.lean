/- The program's types are laid out as the model asks: reckoned in parts by the kernel. -/
import Derived.Test.YtgjpnajfapcobaaGreatAeP
import Derived.Test.YtgjpnajfapcobaaGreatProg
import Derived.KernelRfl
set_option autoImplicit false
set_option maxRecDepth 100000
namespace Go.Proofs.YtgjpnajfapcobaaGreat.facts
open Go.Ae
theorem lay0 : allFrom (rowFine Tryz.prog) 0 164 = true := by kernel_rfl
theorem lay1 : allFrom (rowFine Tryz.prog) 164 164 = true := by kernel_rfl
theorem lay2 : allFrom (rowFine Tryz.prog) 328 164 = true := by kernel_rfl
theorem lay3 : allFrom (rowFine Tryz.prog) 492 164 = true := by kernel_rfl
theorem types_size : Tryz.prog.types.size = 656 := by kernel_rfl
theorem layAll : allFrom (rowFine Tryz.prog) 0 656 = true := (allFrom_join (k := 492) (b := 492) rfl rfl (allFrom_join (k := 328) (b := 328) rfl rfl (allFrom_join (k := 164) (b := 164) rfl rfl lay0 lay1) lay2) lay3)
theorem layG : (Tryz.prog.globals.all (fun g => decide (g.type < Tryz.prog.types.size))) = true := by kernel_rfl
theorem layF : (Tryz.prog.funcs.all (fun f => f.params.all fun t => decide (t < Tryz.prog.types.size))) = true := by rw [types_size]; kernel_rfl
theorem laidOut : laidOutB Tryz.prog = true := and_mk (and_mk (range_all (types_size ▸ layAll)) layG) layF
theorem rowed : mapsRowed Tryz.prog = true := by kernel_rfl
end Go.Proofs.YtgjpnajfapcobaaGreat.facts
