/- annalistlaw30.SessionNobody holds: for every input it returns true, and its argument reads as it read. No condition. -/
import Derived.Test.YtpangpggplacoaaGreatLawB
import Derived.Test.YtpangpggplacoaaGreatF2
namespace Go.Proofs.YtpangpggplacoaaGreat
open Go
theorem c3_named2 : Tryz.pinned.checked.prog.funcNamed Rows.sessionNobodyRow.func = some 3 := by kernel_rfl
theorem sessionNobody_holds : Rows.SessionNobodySaid :=
  OpenClaim.holds_of_wide 3 Tryz.f3 rfl rfl rfl rfl rfl rfl rfl ⟨rfl, rfl, rfl, rfl, rfl⟩ rfl rfl rfl rfl rfl c3_named2 Tryz.func3 closed3
    (of_decide_eq_true (by kernel_rfl)) (by unfold Func.isWrapper; first | (rw [if_pos (by decide +kernel)]; kernel_rfl) | (rw [if_neg (by decide +kernel)]; exact ⟨rfl, rfl⟩))
    (fun os started H enc _ => sessionNobody_lifted os started H enc)
end Go.Proofs.YtpangpggplacoaaGreat
