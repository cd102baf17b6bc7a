/- SessionNobody, lifted: for every input it returns true. No condition. -/
import Derived.Test.YtpangpggplacoaaGreatLawA
import Derived.Test.YtpangpggplacoaaGreatRows
import Derived.ProofKit
import Derived.Lib.SmallJoins
import Derived.Deep.Strs
namespace Go.Proofs.YtpangpggplacoaaGreat
open Go Go.ChangeShapes Go.WideShapes Go.ChangeAt Go.RowKit Go.Deep Go.Joins

theorem Tryz.own : ownKnob Tryz.prog.godebug = none := by kernel_rfl
theorem Tryz.laidOut : laidOutB Tryz.prog = true := by kernel_rfl
theorem Tryz.cells27 : Tryz.prog.cellsOf 27 = 14 := by kernel_rfl
theorem Tryz.cells25 : Tryz.prog.cellsOf 25 = 12 := by kernel_rfl
theorem Tryz.cells23 : Tryz.prog.cellsOf 23 = 11 := by kernel_rfl
theorem Tryz.cells3 : Tryz.prog.cellsOf 3 = 1 := by kernel_rfl
theorem Tryz.cells4 : Tryz.prog.cellsOf 4 = 1 := by kernel_rfl

theorem list14 {α : Type} {cs : List α} (h : cs.length = 14) : ∃ c0 c1 c2 c3 c4 c5 c6 c7 c8 c9 c10 c11 c12 c13, cs = [c0, c1, c2, c3, c4, c5, c6, c7, c8, c9, c10, c11, c12, c13] := by
  match cs, h with
  | [c0, c1, c2, c3, c4, c5, c6, c7, c8, c9, c10, c11, c12, c13], _ => exact ⟨c0, c1, c2, c3, c4, c5, c6, c7, c8, c9, c10, c11, c12, c13, rfl⟩

set_option maxRecDepth 100000 in
/-- an Act by value: fourteen cells -/
theorem open_act {H : Type} {enc : TypeId × Value → H} {W : World} {base base' : Nat} {sp : Nat → Bool} {held : Bool} {r : Reach} {v : Value} {d : DataW H} {ps : List MemPlace}
    (hval : Value.okWide Tryz.prog W r base 27 v) (h : DataW.Trod enc Tryz.prog W base' sp held 27 v d ps) :
    ∃ (n0 n1 n2 n3 n4 n5 n6 n7 n8 n9 : Int) (b : Bool) (n10 n11 n12 : Int), v = .agg #[.int .i64 n0, .int .i64 n1, .int .i64 n2, .int .i64 n3, .int .i64 n4, .int .i64 n5, .int .i64 n6, .int .i64 n7, .int .i64 n8, .int .i64 n9, .bool b, .int .i64 n10, .int .i64 n11, .int .i64 n12] := by
  obtain ⟨cs, rfl, hsz⟩ := okWide_struct Tryz.underlying27 hval
  rw [Tryz.cells27] at hsz
  obtain ⟨l⟩ := cs
  obtain ⟨c0, c1, c2, c3, c4, c5, c6, c7, c8, c9, c10, c11, c12, c13, rfl⟩ := list14 (cs := l) hsz
  obtain ⟨fuel, hf⟩ := h
  obtain ⟨y0, y1, y2, n, _, _, t0, t1, t2⟩ := trod_struct3 Tryz.underlying27 hf
  simp only [Value.cells, Tryz.cells3, Tryz.cells25, List.drop, List.take] at t0 t1 t2
  obtain ⟨z0, z1, k, _, _, u0, u1⟩ := trod_struct2 Tryz.underlying25 t2
  simp only [Tryz.cells3, Tryz.cells23, List.drop, List.take] at u0 u1
  obtain ⟨xs, q, _, _, _, hlen, hq⟩ := DataW.trod_struct Tryz.underlying23 u1
  have hx : ∀ i, i < 11 → ∃ y, xs[i]? = some y := fun i hi => ⟨_, List.getElem?_eq_getElem (by rw [hlen]; exact hi)⟩
  have int1 : ∀ {f : Nat} {c : Value} {y}, DataW.trod enc Tryz.prog W base' sp held f 3 [c] = some y → ∃ n, c = .int .i64 n := fun h => by
    obtain ⟨n, h1, _⟩ := DataW.trod_int Tryz.underlying3 h
    exact ⟨n, by simpa using h1⟩
  have bool1 : ∀ {f : Nat} {c : Value} {y}, DataW.trod enc Tryz.prog W base' sp held f 4 [c] = some y → ∃ n, c = .bool n := fun h => by
    obtain ⟨n, h1, _⟩ := DataW.trod_bool Tryz.underlying4 h
    exact ⟨n, by simpa using h1⟩
  obtain ⟨n0, rfl⟩ := int1 t0
  obtain ⟨n1, rfl⟩ := int1 t1
  obtain ⟨n2, rfl⟩ := int1 u0
  have g0 : DataW.trod enc Tryz.prog W base' sp held q 3 (List.take (Tryz.prog.cellsOf 3) (List.drop 0 [c3, c4, c5, c6, c7, c8, c9, c10, c11, c12, c13])) = xs[0]? := hq 0 _ rfl
  rw [Tryz.cells3] at g0
  simp only [List.drop, List.take] at g0
  have g1 : DataW.trod enc Tryz.prog W base' sp held q 3 (List.take (Tryz.prog.cellsOf 3) (List.drop 1 [c3, c4, c5, c6, c7, c8, c9, c10, c11, c12, c13])) = xs[1]? := hq 1 _ rfl
  rw [Tryz.cells3] at g1
  simp only [List.drop, List.take] at g1
  have g2 : DataW.trod enc Tryz.prog W base' sp held q 3 (List.take (Tryz.prog.cellsOf 3) (List.drop 2 [c3, c4, c5, c6, c7, c8, c9, c10, c11, c12, c13])) = xs[2]? := hq 2 _ rfl
  rw [Tryz.cells3] at g2
  simp only [List.drop, List.take] at g2
  have g3 : DataW.trod enc Tryz.prog W base' sp held q 3 (List.take (Tryz.prog.cellsOf 3) (List.drop 3 [c3, c4, c5, c6, c7, c8, c9, c10, c11, c12, c13])) = xs[3]? := hq 3 _ rfl
  rw [Tryz.cells3] at g3
  simp only [List.drop, List.take] at g3
  have g4 : DataW.trod enc Tryz.prog W base' sp held q 3 (List.take (Tryz.prog.cellsOf 3) (List.drop 4 [c3, c4, c5, c6, c7, c8, c9, c10, c11, c12, c13])) = xs[4]? := hq 4 _ rfl
  rw [Tryz.cells3] at g4
  simp only [List.drop, List.take] at g4
  have g5 : DataW.trod enc Tryz.prog W base' sp held q 3 (List.take (Tryz.prog.cellsOf 3) (List.drop 5 [c3, c4, c5, c6, c7, c8, c9, c10, c11, c12, c13])) = xs[5]? := hq 5 _ rfl
  rw [Tryz.cells3] at g5
  simp only [List.drop, List.take] at g5
  have g6 : DataW.trod enc Tryz.prog W base' sp held q 3 (List.take (Tryz.prog.cellsOf 3) (List.drop 6 [c3, c4, c5, c6, c7, c8, c9, c10, c11, c12, c13])) = xs[6]? := hq 6 _ rfl
  rw [Tryz.cells3] at g6
  simp only [List.drop, List.take] at g6
  have g7 : DataW.trod enc Tryz.prog W base' sp held q 4 (List.take (Tryz.prog.cellsOf 4) (List.drop 7 [c3, c4, c5, c6, c7, c8, c9, c10, c11, c12, c13])) = xs[7]? := hq 7 _ rfl
  rw [Tryz.cells4] at g7
  simp only [List.drop, List.take] at g7
  have g8 : DataW.trod enc Tryz.prog W base' sp held q 3 (List.take (Tryz.prog.cellsOf 3) (List.drop 8 [c3, c4, c5, c6, c7, c8, c9, c10, c11, c12, c13])) = xs[8]? := hq 8 _ rfl
  rw [Tryz.cells3] at g8
  simp only [List.drop, List.take] at g8
  have g9 : DataW.trod enc Tryz.prog W base' sp held q 3 (List.take (Tryz.prog.cellsOf 3) (List.drop 9 [c3, c4, c5, c6, c7, c8, c9, c10, c11, c12, c13])) = xs[9]? := hq 9 _ rfl
  rw [Tryz.cells3] at g9
  simp only [List.drop, List.take] at g9
  have g10 : DataW.trod enc Tryz.prog W base' sp held q 3 (List.take (Tryz.prog.cellsOf 3) (List.drop 10 [c3, c4, c5, c6, c7, c8, c9, c10, c11, c12, c13])) = xs[10]? := hq 10 _ rfl
  rw [Tryz.cells3] at g10
  simp only [List.drop, List.take] at g10
  obtain ⟨_, e0⟩ := hx 0 (by omega); rw [e0] at g0; obtain ⟨n3, rfl⟩ := int1 g0
  obtain ⟨_, e1⟩ := hx 1 (by omega); rw [e1] at g1; obtain ⟨n4, rfl⟩ := int1 g1
  obtain ⟨_, e2⟩ := hx 2 (by omega); rw [e2] at g2; obtain ⟨n5, rfl⟩ := int1 g2
  obtain ⟨_, e3⟩ := hx 3 (by omega); rw [e3] at g3; obtain ⟨n6, rfl⟩ := int1 g3
  obtain ⟨_, e4⟩ := hx 4 (by omega); rw [e4] at g4; obtain ⟨n7, rfl⟩ := int1 g4
  obtain ⟨_, e5⟩ := hx 5 (by omega); rw [e5] at g5; obtain ⟨n8, rfl⟩ := int1 g5
  obtain ⟨_, e6⟩ := hx 6 (by omega); rw [e6] at g6; obtain ⟨n9, rfl⟩ := int1 g6
  obtain ⟨_, e7⟩ := hx 7 (by omega); rw [e7] at g7; obtain ⟨b, rfl⟩ := bool1 g7
  obtain ⟨_, e8⟩ := hx 8 (by omega); rw [e8] at g8; obtain ⟨n10, rfl⟩ := int1 g8
  obtain ⟨_, e9⟩ := hx 9 (by omega); rw [e9] at g9; obtain ⟨n11, rfl⟩ := int1 g9
  obtain ⟨_, e10⟩ := hx 10 (by omega); rw [e10] at g10; obtain ⟨n12, rfl⟩ := int1 g10
  exact ⟨n0, n1, n2, n3, n4, n5, n6, n7, n8, n9, b, n10, n11, n12, rfl⟩

set_option maxHeartbeats 800000 in
set_option maxRecDepth 100000 in
theorem sessionNobody_lifted (os : Os) (started : os.Started) (H : Type) (enc : TypeId × Value → H) :
    ReturnsInHanded {} Tryz.checked os 3 .any (Rows.sessionNobodySpec.pre6 enc Tryz.prog Tryz.f3 Rows.sessionNobodyRow.domain false) (Rows.sessionNobodySpec.post enc Tryz.prog Tryz.f3 false true false false) := by
  refine returnsInHanded_of_change (C := Tryz.checked) Tryz.own started (by kernel_rfl) Tryz.func3
    (ChangeSpec.witness6 (enc := enc) (C := Tryz.checked) false ⟨#[], #[.agg #[.int .i64 0, .int .i64 0, .int .i64 0, .int .i64 0, .int .i64 0, .int .i64 0, .int .i64 0, .int .i64 0, .int .i64 0, .int .i64 0, .bool false, .int .i64 0, .int .i64 0, .int .i64 0]], []⟩ 8 (by kernel_rfl) (by kernel_rfl) (by kernel_rfl) (by kernel_rfl)) ?_
  intro W base args ds gs before hval0 hW _ _
  have hval : ∀ (j : Nat) t v, Tryz.f3.params[j]? = some t → args[j]? = some v → Value.okWide Tryz.prog W .any base t v := hval0
  have hW' := hW
  obtain ⟨p, q, hA0, hV, rfl, _, _⟩ := hW
  have hA : DataW.TrodAll enc Tryz.prog W 0 (fun _ => true) true Tryz.f3.params.toList args.toList ds p := hA0
  rw [Tryz.params3] at hA hval
  obtain ⟨v0, d0, rfl, rfl, h0⟩ := trodAll_one hA
  obtain ⟨rfl, rfl⟩ := trodVars_none hV
  clear hA0 hval0
  simp only [List.append_nil] at hW'
  have hlt : ∀ x ∈ p, x.block < W.heap.size := fun x hx => by simpa using hW'.lt x hx
  have hargs : ∀ (W' : World), Below W.heap.size W W' → DataW.Trod enc Tryz.prog W' 0 (fun b => decide (b < W.heap.size)) true 27 v0 d0 p :=
    fun W' hn => Below.trod Tryz.laidOut (by kernel_rfl) (of_decide_eq_true (by kernel_rfl)) h0 hn hlt
  obtain ⟨n0, n1, n2, n3, n4, n5, n6, n7, n8, n9, b, n10, n11, n12, rfl⟩ := open_act (hval 0 27 v0 rfl rfl) h0
  refine (Tryz.law3 n0 n1 n2 n3 n4 n5 n6 n7 n8 n9 b n10 n11 n12 W).mono fun e W' ⟨he, hnx⟩ => ?_
  subst he
  refine ⟨_, rfl, _, _, _, [], p, [], hW', ?_, trodAll_mk1 (hargs _ hnx), rfl, hnx.frame _, fun h => by cases h⟩
  exact trodAll_mk1 (shut_bool Tryz.underlying4 true)

end Go.Proofs.YtpangpggplacoaaGreat
