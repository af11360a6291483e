/-
  The card of KeeperNone: whatever the integer, the call returns true and the integer reads as it did, where the listed package variables hold what the program's text lays (the card ties them). The call's run is computed by the runner of the texts Ev.., whose rightness is proved there.
-/
import Derived.Test.YthokbcjofkgopaaGreatDoorKeeperNone
namespace Go.Proofs.YthokbcjofkgopaaGreatDoor.keeperNone
open Go.ChangeShapes Go.WideShapes Go.ChangeAt Go.RowKit

/-- No parameter wants a stand-in; the program's own looks are off: what the card asks. -/
theorem plain (f : FuncId) (fn : Func) (hf : Tryz.pinned.checked.prog.funcNamed "stillage/stillagelaw35.KeeperNone" = some f) (hfn : Tryz.pinned.checked.prog.funcs[f]? = some fn) :
    true = Tryz.pinned.checked.prog.looks [] ∧ ∀ (j : Nat) t, fn.params[j]? = some t → Tryz.pinned.checked.prog.wantsStandIn t = false := by
  obtain rfl : f = 3 := Option.some.inj ((show Tryz.prog.funcNamed "stillage/stillagelaw35.KeeperNone" = some 3 by kernel_rfl).symm.trans hf) |>.symm
  obtain rfl : fn = Tryz.f3 := (Option.some.inj (Tryz.func3.symm.trans hfn)).symm
  refine ⟨by kernel_rfl, fun j t ht => ?_⟩
  rw [Tryz.params3] at ht
  obtain rfl : t = 3 := by simpa using Array.mem_of_getElem? ht
  exact (show Tryz.prog.wantsStandIn 3 = false by kernel_rfl)

theorem byText : Rows.keeperNoneRow.wfByText (OpenSpec.ofChange Rows.keeperNoneSpec) = true := by kernel_rfl
theorem main : Tryz.pinned.checked.prog.mainIs = some (true, Rows.keeperNoneCard.stood.harness.2.toList) := by kernel_rfl
theorem goes1 : ((Tryz.pinned.checked.prog.closure 3).any fun g => (Tryz.pinned.checked.prog.funcs[g]?).any Func.goes) = false := by kernel_rfl
theorem goes2 : Tryz.pinned.checked.prog.funcs.any Func.goes = false := by kernel_rfl
set_option maxRecDepth 100000 in
theorem goes3 : Tryz.pinned.checked.prog.goes 3 = false := by
  unfold Program.goes
  rw [goes1, goes2, Bool.and_false, Bool.or_false]
theorem start : Rows.keeperNoneRow.start = .entering := rfl
set_option maxRecDepth 100000 in
theorem goes : false = Rows.keeperNoneRow.goesBy Tryz.pinned.checked.prog := by
  unfold OpenClaim.goesBy Program.goesAt Program.goesFrom
  rw [named, start, Option.any_some, goes3]
  rfl
set_option maxRecDepth 100000 in
theorem card : Rows.KeeperNoneCardSaid :=
  Claim7.holds_tied_plain_at .later [] _ _ _ _ said (fun _ h => by cases h) byText (fun _ h => by cases h) keeperNone_row_tie rfl ⟨rfl, rfl⟩ main rfl plain goes
end Go.Proofs.YthokbcjofkgopaaGreatDoor.keeperNone
