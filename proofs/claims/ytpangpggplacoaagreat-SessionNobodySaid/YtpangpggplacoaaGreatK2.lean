/- awake of layer 30, run by the abstract evaluator: it is true. -/
import Derived.Test.YtpangpggplacoaaGreatMemo
namespace Go.Proofs
open Go Go.Ab
noncomputable def isE : T ABlk → Bool
  | .e => true
  | _ => false
noncomputable def is902 : List AV → Bool
  | [.int .i64 (.ofNat n)] => Nat.beq n 902
  | _ => false
noncomputable def Tryz.ovNew (rc : RC) (args : List AV) (s : St) : Option (AV × St) := bif isE s.h && Nat.beq s.nx 0 && is902 args then some (Tryz.newV, Tryz.newS) else rc 74 args s
noncomputable def Tryz.ov1 : Ov := fun f => bif Nat.beq f 74 then some Tryz.ovNew else Tryz.ov0 f
noncomputable def isTrue : Option (AV × St) → Bool
  | some (.bool b, _) => b
  | _ => false
theorem Tryz.awake_run : isTrue (call Tryz.prog Tryz.ov1 4000 15 [] ⟨.e, 0⟩) = true := by kernel_rfl
end Go.Proofs
