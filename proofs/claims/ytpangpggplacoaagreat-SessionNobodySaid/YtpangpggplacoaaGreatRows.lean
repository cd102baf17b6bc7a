/-
  No cell of these rows narrows 'for every input' (looked for: loops, veiled, ifaces, maps, wideKeys, modest, calm, conditions, laid).
  DERIVED. THE GIVEN ROWS OF THIS SEAT. 2 by the template 'for every input the law returns true; each argument reads behind the call as it read before'; 0 by the template 'total and deterministic' (their statements: YtpangpggplacoaaGreatTotals.lean).
  GIVEN WITH THE SEED: the statements are not yours to turn. If you find one false, say at which input.
  Laid BY PROGRAM, IN A SANDBOX (cutbox-rows.mjs): the forced cells as the released guide's own fill.sh prints them over the translation 784d3edc88665b8e… (all of the seat's roots in one cut). By AI agents, Wed Nov 11 2026. No macro, syntax, notation, axiom, sorry.
-/
import Derived.Test.YtpangpggplacoaaGreatChecked
import GoSem.Claim
import GoSem.ClaimJoined
import GoSem.ClaimMapViews
import Derived.JoinedTies
import Derived.KernelRfl
namespace Go.Proofs.YtpangpggplacoaaGreat
/- THE CELL 'sum', in the pinned program and in every row, IS THE sha256 OF THE DUMP (.gsa) THAT YtpangpggplacoaaGreatProg.lean LOADS. Nothing in Lean hashes anything: it is a label: what it is worth is what the hold of that sum in a sandbox is worth. -/
noncomputable def Tryz.pinned : Pinned := { name := "ytpangpggplacoaagreat", sum := "784d3edc88665b8e38170691c0f188ee3f9b143563318ca5f63f51789333be97", checked := Tryz.checked }
namespace Rows
def none {H : Type} : Left H := { results := [], args := [] }

/-- 'annalistlaw30.SessionNobody': WHATEVER THE INPUT: true; the input reads as it did. -/
def sessionNobodySpec : ChangeSpec := { name := "sessionNobody", fn := fun _ => fun
  | [d] => { results := [.lit (.bool true)], args := [d] }
  | _ => none }
def sessionNobodyRow : OpenClaim := { program := "ytpangpggplacoaagreat", sum := "784d3edc88665b8e38170691c0f188ee3f9b143563318ca5f63f51789333be97", func := "annalist/annalistlaw30.SessionNobody", spec := "sessionNobody", inPlace := ["slices.overlaps[annalist/api.Op]", "slices.overlaps[annalist/cache.item[int, string]]", "internal/abi.NoEscape", "slices.overlaps[string]", "slices.overlaps[int]", "internal/bytealg.MakeNoZero"], unfollowed := true, recurses := true, plainKeys := false, apart := false }
def SessionNobodySaid : Prop := sessionNobodyRow.holds Tryz.pinned (OpenSpec.ofChange sessionNobodySpec)

/-- ITS FALSE NEIGHBOUR: 'it returns false'. Refute it at one input. -/
def sessionNobodyWrong : ChangeSpec := { name := "sessionNobody", fn := fun _ => fun
  | [d] => { results := [.lit (.bool false)], args := [d] }
  | _ => none }
def SessionNobodyWrongFalsely : Prop := sessionNobodyRow.holds Tryz.pinned (OpenSpec.ofChange sessionNobodyWrong)

/-- 'annalistlaw34.FsckTexts': WHATEVER THE INPUT: true; the input reads as it did. -/
def fsckTextsSpec : ChangeSpec := { name := "fsckTexts", fn := fun _ => fun
  | [d1, d2] => { results := [.lit (.bool true)], args := [d1, d2] }
  | _ => none }
def fsckTextsRow : OpenClaim := { program := "ytpangpggplacoaagreat", sum := "784d3edc88665b8e38170691c0f188ee3f9b143563318ca5f63f51789333be97", func := "annalist/annalistlaw34.FsckTexts", spec := "fsckTexts", inPlace := ["slices.overlaps[annalist/cache.item[int, string]]", "internal/abi.NoEscape", "internal/bytealg.abigen_runtime_cmpstring", "slices.overlaps[int]", "slices.overlaps[string]", "internal/bytealg.MakeNoZero"], unfollowed := true, recurses := true, plainKeys := false, apart := false }
def FsckTextsSaid : Prop := fsckTextsRow.holds Tryz.pinned (OpenSpec.ofChange fsckTextsSpec)

/-- ITS FALSE NEIGHBOUR: 'it returns false'. Refute it at one input. -/
def fsckTextsWrong : ChangeSpec := { name := "fsckTexts", fn := fun _ => fun
  | [d1, d2] => { results := [.lit (.bool false)], args := [d1, d2] }
  | _ => none }
def FsckTextsWrongFalsely : Prop := fsckTextsRow.holds Tryz.pinned (OpenSpec.ofChange fsckTextsWrong)

/- THE SECOND FORM. 'bulk': how many values and letters a reading holds, each counted each time it is reached (what is shared counts as often as it is met; a slice's spare places count too). A statement '..UptoSaid' is the law's where the arguments, and the package variables that the reading takes, are together of bulk at most 1048576: NARROWER than '..Said'. Prove '..Said' where nothing that the law and all that it calls make is longer than what came in: it says more and counts as full. Else prove '..UptoSaid'. A law counts once. -/
mutual
def uptoBulk {H : Type} : DataW H → Nat
  | .lit (.string bytes) => bytes.length + 1
  | .lit _ => 1
  | .nil => 1
  | .ptr d => uptoBulk d + 1
  | .slice elems spare => uptoBulkAll elems + uptoBulkAll spare + 1
  | .agg parts => uptoBulkAll parts + 1
  | .iface _ d => uptoBulk d + 1
  | .map entries => uptoBulkEntries entries + 1
  | .held _ => 1
def uptoBulkAll {H : Type} : List (DataW H) → Nat
  | [] => 0
  | d :: r => uptoBulk d + uptoBulkAll r
def uptoBulkEntries {H : Type} : List (Lit × DataW H) → Nat
  | [] => 0
  | x :: r => uptoBulkEntry x + uptoBulkEntries r
def uptoBulkEntry {H : Type} : Lit × DataW H → Nat
  | (.string bytes, d) => bytes.length + uptoBulk d + 1
  | (_, d) => uptoBulk d + 1
 end
def uptoSmall : (H : Type) → List (DataW H) → Bool := fun _ ds => decide (uptoBulkAll ds ≤ 1048576)
def OpenSpec.upto (s : _root_.Go.ChangeSpec) : _root_.Go.OpenSpec := { _root_.Go.OpenSpec.ofChange s with cond := some uptoSmall }

/-- 'annalistlaw30.SessionNobody', WHERE WHAT IT READS IS OF BULK AT MOST 1048576: true; the input reads as it did. -/
def sessionNobodyUptoRow : OpenClaim := { program := "ytpangpggplacoaagreat", sum := "784d3edc88665b8e38170691c0f188ee3f9b143563318ca5f63f51789333be97", func := "annalist/annalistlaw30.SessionNobody", spec := "sessionNobody", inPlace := ["slices.overlaps[annalist/api.Op]", "slices.overlaps[annalist/cache.item[int, string]]", "internal/abi.NoEscape", "slices.overlaps[string]", "slices.overlaps[int]", "internal/bytealg.MakeNoZero"], unfollowed := true, recurses := true, plainKeys := false, apart := false, narrowed := true }
def SessionNobodyUptoSaid : Prop := sessionNobodyUptoRow.holds Tryz.pinned (OpenSpec.upto sessionNobodySpec)

/-- 'annalistlaw34.FsckTexts', WHERE WHAT IT READS IS OF BULK AT MOST 1048576: true; the input reads as it did. -/
def fsckTextsUptoRow : OpenClaim := { program := "ytpangpggplacoaagreat", sum := "784d3edc88665b8e38170691c0f188ee3f9b143563318ca5f63f51789333be97", func := "annalist/annalistlaw34.FsckTexts", spec := "fsckTexts", inPlace := ["slices.overlaps[annalist/cache.item[int, string]]", "internal/abi.NoEscape", "internal/bytealg.abigen_runtime_cmpstring", "slices.overlaps[int]", "slices.overlaps[string]", "internal/bytealg.MakeNoZero"], unfollowed := true, recurses := true, plainKeys := false, apart := false, narrowed := true }
def FsckTextsUptoSaid : Prop := fsckTextsUptoRow.holds Tryz.pinned (OpenSpec.upto fsckTextsSpec)

end Rows
end Go.Proofs.YtpangpggplacoaaGreat
