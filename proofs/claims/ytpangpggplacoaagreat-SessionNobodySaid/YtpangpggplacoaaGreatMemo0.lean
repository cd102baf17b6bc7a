/- The functions that the abstract evaluator does not run but is told of. -/
import Derived.Test.YtpangpggplacoaaGreatAbOvE
import Derived.Test.YtpangpggplacoaaGreatAbOvS
import Derived.Test.YtpangpggplacoaaGreatAbOvA
import Derived.Test.YtpangpggplacoaaGreatProg
import Derived.KernelRfl
namespace Go.Proofs
open Go Go.Ab
noncomputable def Tryz.ov0 : Ov := fun f =>
  bif Nat.beq f 253 then some fun _ => ovCC 261 else
  bif Nat.beq f 221 then some fun _ => ovJoin else
  bif Nat.beq f 200 then some fun _ => ovSort 288 201 else
  bif Nat.beq f 227 then some fun rc => ovIns 227 3 316 rc else none
end Go.Proofs
