/- What stands in the functions' place is sound. -/
import Derived.Test.YtpangpggplacoaaGreatMemo0
import Derived.Test.YtpangpggplacoaaGreatLaid
import Derived.Test.YtpangpggplacoaaGreatInsW
namespace Go.Proofs
open Go Go.Ab Go.Shelf Go.RowKit Go.Lib Go.Sort

theorem Tryz.nameOk : NameOk Tryz.prog := by
  have h : (Tryz.prog.funcs.toList.all fun fn => !(fn.body.isSome && fn.name == "runtime.NumGoroutine")) = true := by kernel_rfl
  intro f fn hf hb
  rw [List.all_eq_true] at h
  have := h fn (List.mem_of_getElem? (by rw [Array.getElem?_toList]; exact hf))
  rw [hb] at this
  simpa using this
theorem Tryz.mixedOk : Tryz.prog.follows .mixedOrders = true := by kernel_rfl

set_option maxHeartbeats 1000000 in
theorem Tryz.closure201 (x y : Int × ByteArray) (W : World) : Calls Tryz.prog 201 #[.agg #[.int .i64 x.1, .string x.2], .agg #[.int .i64 y.1, .string y.2]] W fun e w' => e = .returned (.int .i64 (Lib.compareInt x.1 y.1)) ∧ ∃ q os', w' = grow (W.drewN q) os' := by
  have hcon := fun W' => Tryz.cmp_Compare_int x.1 y.1 W'
  generalize Lib.compareInt x.1 y.1 = r at hcon ⊢
  go_enter Tryz.func201, Tryz.ntmps201
  go_wp2_with (go_at_call 44; refine (hcon _).mono ?_; rintro e w' ⟨rfl, rfl⟩)
  go_ret
  exact ⟨rfl, 0, _, by rw [alloc_eq_grow, alloc_eq_grow, grow_grow]; rfl⟩

theorem Tryz.hlen2 (n : Nat) (W : World) (h : n ≤ 12) : Calls Tryz.prog 134 #[.int .u64 n] W fun e w' => (∃ l : Int, e = .returned (.int .i64 l)) ∧ w' = W :=
  (Tryz.bits_Len n W (by omega) (by omega)).mono fun _ _ ⟨he, hw⟩ => ⟨⟨_, he⟩, hw⟩

theorem Tryz.ltP_eq : (ltOf fun x y : Int × ByteArray => Lib.compareInt x.1 y.1) = ltP := by
  funext x y
  unfold ltOf Lib.compareInt ltP
  by_cases h1 : x.1 < y.1
  · simp [h1]
  · by_cases h2 : y.1 < x.1 <;> simp [h1, h2]
theorem Tryz.swoP : SWO (ltOf fun x y : Int × ByteArray => Lib.compareInt x.1 y.1) := by
  rw [Tryz.ltP_eq]
  refine ⟨fun x => by simp [ltP], fun x y z h1 h2 => ?_, fun x y z h1 h2 => ?_⟩
  · simp [ltP] at *; omega
  · simp [ltP] at *; omega

set_option maxHeartbeats 1000000 in
theorem Tryz.sortOk : SortOk Tryz.prog 200 201 := by
  intro b cap d w hH hb h12
  have eg : ∀ args w, (callFunc 201 args).run Tryz.prog w = .ok (.enter 201 args) w := Tryz.call201
  have hcon := AnyQ.slices_SortFunc_small_sorted Tryz.sortPg 2 Tryz.isAgg288 Tryz.sizeOf288 encP (fun _ => rfl) (fun x v hv => by simp [encP] at hv; rcases hv with rfl | rfl <;> rfl) (fun x y => Lib.compareInt x.1 y.1) 201 #[] Tryz.swoP b 0 cap d w eg
    (fun _ _ _ _ x y => Tryz.closure201 x y _) hH hb h12 Tryz.hlen2
  change Calls Tryz.prog 200 _ _ _ at hcon
  rw [Tryz.ltP_eq] at hcon
  exact hcon

theorem join_flat (xs : List ByteArray) : Lib.join (xs.map (·.data.toList)) [] = xs.flatMap (·.data.toList) := by
  cases xs with
  | nil => rfl
  | cons x r =>
    rw [List.map_cons, Lib.join_cons, List.flatMap_cons]
    congr 1
    unfold Lib.joinTail
    simp only [List.flatMap, List.map_map]
    rfl
theorem Tryz.joinOk : JoinOk Tryz.prog 221 := by
  intro b o c xs w hc hb hn hcap hlen
  have h := Tryz.strings_Join b o c xs ⟨#[]⟩ w hc hb (by omega) hcap (by rw [show (⟨#[]⟩ : ByteArray).data.toList = [] from rfl, join_flat]; omega)
  rw [show (⟨#[]⟩ : ByteArray).data.toList = [] from rfl, join_flat] at h
  exact h

theorem Tryz.ov0_ok (B : Nat) : OvOk Tryz.prog B Tryz.ov0 := by
  intro rc hrc f g hg
  unfold Tryz.ov0 at hg
  rw [beq_nat, beq_nat, beq_nat, beq_nat] at hg
  by_cases h1 : f = 253
  · subst h1
    rw [show ((253 : Nat) == 253) = true from rfl] at hg
    cases hg
    exact ovCC_ok Tryz.call253 (fun b w h0 hs hf => Any.Builder_copyCheck_fresh Tryz.lays240 Tryz.x72 b w h0 hs hf) (fun b w h0 => Any.Builder_copyCheck_used Tryz.lays240 Tryz.x72 b w h0)
  · rw [beq_eq_false_iff_ne.2 h1] at hg
    by_cases h2 : f = 221
    · subst h2
      rw [show ((221 : Nat) == 221) = true from rfl] at hg
      cases hg
      exact ovJoin_ok Tryz.call221 Tryz.joinOk
    · rw [beq_eq_false_iff_ne.2 h2] at hg
      by_cases h3 : f = 200
      · subst h3
        rw [show ((200 : Nat) == 200) = true from rfl] at hg
        cases hg
        exact ovSort_ok Tryz.call200 Tryz.sortOk
      · rw [beq_eq_false_iff_ne.2 h3] at hg
        by_cases h4 : f = 227
        · subst h4
          rw [show ((227 : Nat) == 227) = true from rfl] at hg
          cases hg
          exact ovIns_ok Tryz.call227 Tryz.insOk (by kernel_rfl) (by rw [Tryz.underlying316]; intro h; cases h) hrc
        · rw [beq_eq_false_iff_ne.2 h4] at hg
          cases hg
end Go.Proofs
