/- The closed facts of the row, each reckoned by itself. -/
import Derived.Test.YtgjpnajfapcobaaGreatFacts
import Derived.Test.YtgjpnajfapcobaaGreatLaid
import Derived.Test.YtgjpnajfapcobaaGreatRows
set_option autoImplicit false
set_option maxRecDepth 100000
namespace Go.Proofs.YtgjpnajfapcobaaGreat.sessionNil
open Go.Ae
theorem inPlace_ok : (Rows.sessionNilRow.inPlace == Tryz.prog.inPlace 3) = true := beq_of ((inPlace_eq facts.reach facts.isI).trans (by kernel_rfl))
theorem unfollowed_is : Tryz.prog.unfollowed 3 = true := (unfollowed_eq facts.reach facts.isU).trans (by kernel_rfl)
theorem unfollowed_ok : (Rows.sessionNilRow.unfollowed == Tryz.prog.unfollowed 3) = true := beq_of (unfollowed_is.trans (by kernel_rfl))
theorem recurses_ok : (Rows.sessionNilRow.recurses == Tryz.prog.recurses 3) = true := beq_of ((recurses_of unfollowed_is).trans (by kernel_rfl))
theorem named_ok : (Rows.sessionNilRow.named == Tryz.prog.varsNamed 3) = true := beq_of ((varsNamed_eq facts.reach facts.isG facts.isR).trans (by kernel_rfl))
theorem keys_ok : (Rows.sessionNilRow.plainKeys == Tryz.prog.plainKeys) = true := by kernel_rfl
theorem heard_ok : Tryz.prog.stopsHeard = true := by kernel_rfl
theorem enter_ok : Tryz.prog.mayEnter = true := by kernel_rfl
theorem closed : joinedFacts Tryz.prog 3 Tryz.f3 Rows.sessionNilSpec Rows.sessionNilRow = true := by
  unfold joinedFacts
  refine and_mk (and_mk (and_mk (and_mk (and_mk (and_mk (and_mk (and_mk (and_mk (and_mk (and_mk (and_mk (and_mk (and_mk (and_mk (and_mk (and_mk (and_mk (and_mk (and_mk (and_mk (and_mk (and_mk (and_mk (and_mk (and_mk (and_mk (and_mk (and_mk (and_mk (and_mk ?_ ?_) ?_) ?_) ?_) ?_) ?_) ?_) ?_) ?_) ?_) ?_) ?_) ?_) ?_) ?_) ?_) ?_) ?_) ?_) ?_) ?_) ?_) ?_) ?_) ?_) ?_) ?_) ?_) ?_) ?_) ?_
  · kernel_rfl
  · exact facts.laidOut
  · exact facts.rowed
  · kernel_rfl
  · kernel_rfl
  · kernel_rfl
  · kernel_rfl
  · kernel_rfl
  · kernel_rfl
  · exact inPlace_ok
  · exact unfollowed_ok
  · exact recurses_ok
  · exact named_ok
  · kernel_rfl
  · kernel_rfl
  · kernel_rfl
  · kernel_rfl
  · kernel_rfl
  · kernel_rfl
  · kernel_rfl
  · kernel_rfl
  · kernel_rfl
  · exact keys_ok
  · kernel_rfl
  · exact heard_ok
  · exact enter_ok
  · kernel_rfl
  · kernel_rfl
  · kernel_rfl
  · kernel_rfl
  · kernel_rfl
  · kernel_rfl
end Go.Proofs.YtgjpnajfapcobaaGreat.sessionNil
