/- The closed facts of the row. -/
import Derived.Test.YtpangpggplacoaaGreatRows
import Derived.ProofKit
namespace Go.Proofs.YtpangpggplacoaaGreat
open Go
theorem c3_inPlace : (Rows.sessionNobodyRow.inPlace == Tryz.pinned.checked.prog.inPlace 3) = true := by kernel_rfl
theorem c3_unf : (Rows.sessionNobodyRow.unfollowed == Tryz.pinned.checked.prog.unfollowed 3) = true := by kernel_rfl
theorem c3_rec : (Rows.sessionNobodyRow.recurses == Tryz.pinned.checked.prog.recurses 3) = true := by kernel_rfl
theorem c3_named : (Rows.sessionNobodyRow.named == Tryz.pinned.checked.prog.varsNamed 3) = true := by kernel_rfl
theorem c3_laid : laidOutB Tryz.pinned.checked.prog = true := by kernel_rfl
theorem c3_maps : mapsRowed Tryz.pinned.checked.prog = true := by kernel_rfl
set_option maxRecDepth 100000 in
theorem closed3 : joinedFacts Tryz.pinned.checked.prog 3 Tryz.f3 Rows.sessionNobodySpec Rows.sessionNobodyRow = true := by
  unfold joinedFacts
  rw [c3_inPlace, c3_unf, c3_rec, c3_named, c3_laid, c3_maps]
  kernel_rfl
end Go.Proofs.YtpangpggplacoaaGreat
