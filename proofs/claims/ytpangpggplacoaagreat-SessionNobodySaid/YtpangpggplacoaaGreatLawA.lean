/- awake of layer 30 is true in every world, and so is the law SessionNobody at every act. -/
import Derived.Test.YtpangpggplacoaaGreatK2
import Derived.Test.YtpangpggplacoaaGreatOvs
namespace Go.Proofs
open Go Go.Ab Go.RowKit

theorem isTrue_some {o : Option (AV × St)} (h : isTrue o = true) : ∃ s, o = some (.bool true, s) := by
  unfold isTrue at h
  split at h
  · rename_i b s; subst h; exact ⟨s, rfl⟩
  · cases h
theorem Tryz.ov1_ok (B : Nat) : OvOk Tryz.prog B Tryz.ov1 := by
  intro rc hrc f g hg
  unfold Tryz.ov1 at hg
  rw [beq_nat] at hg
  by_cases h1 : f = 74
  · subst h1
    rw [show ((74 : Nat) == 74) = true from rfl] at hg
    cases hg
    intro args s v s' h
    unfold Tryz.ovNew at h
    cases hc : (isE s.h && Nat.beq s.nx 0 && is902 args) with
    | false => rw [hc] at h; exact hrc 74 args s v s' h
    | true =>
      rw [hc] at h
      simp only [cond_true] at h
      simp only [Bool.and_eq_true, beq_nat, beq_iff_eq] at hc
      obtain ⟨⟨h2, h3⟩, h4⟩ := hc
      have hs : s = ⟨.e, 0⟩ := by
        obtain ⟨t, n⟩ := s
        cases t with
        | e => simp only at h3; rw [h3]
        | n _ _ _ => cases h2
      have ha : args = [.int .i64 (.ofNat 902)] := by
        unfold is902 at h4
        split at h4
        · rw [beq_nat, beq_iff_eq] at h4; rw [h4]
        · cases h4
      subst hs ha
      exact call_ok Tryz.mixedOk Tryz.nameOk (Tryz.ov0_ok B) 4000 74 _ _ v s' (by rw [← h]; exact Tryz.new_run)
  · rw [beq_eq_false_iff_ne.2 h1] at hg
    exact Tryz.ov0_ok B rc hrc f g hg

theorem Tryz.awake15 (w : World) : Calls Tryz.prog 15 #[] w fun e w' => e = .returned (.bool true) ∧ Below w.heap.size w w' := by
  obtain ⟨s', h⟩ := isTrue_some Tryz.awake_run
  refine (closed Tryz.mixedOk Tryz.nameOk Tryz.ov1_ok h w (args' := #[]) .nil).mono fun e w' hr => ?_
  obtain ⟨x, m', rfl, hx, _, h1, h2, h3, h4, h5⟩ := hr
  cases hx
  exact ⟨rfl, h3, h4, h5, h1, h2⟩

/-! ### the law, its argument's numbers under names -/
noncomputable def ovAwake (args : List AV) (s : St) : Option (AV × St) :=
  match args with
  | [] => some (.bool true, s)
  | _ => none
noncomputable def Tryz.ov2 : Ov := fun f => bif Nat.beq f 15 then some fun _ => ovAwake else none
theorem Tryz.ov2_ok (B : Nat) : OvOk Tryz.prog B Tryz.ov2 := by
  intro rc hrc f g hg
  unfold Tryz.ov2 at hg
  rw [beq_nat] at hg
  by_cases h1 : f = 15
  · subst h1
    rw [show ((15 : Nat) == 15) = true from rfl] at hg
    cases hg
    intro args s v s' h
    replace h : ovAwake args s = some (v, s') := h
    unfold ovAwake at h
    split at h
    · cases h
      refine ⟨Tryz.call15, Nat.le_refl _, fun m w args' hB r hv hf => ?_⟩
      obtain rfl : args' = #[] := Array.toList_inj.1 (by generalize args'.toList = q at hv; cases hv; rfl)
      refine callsIn_wide.2 ((Tryz.awake15 w).mono fun e w' hr => ?_)
      obtain ⟨rfl, hb⟩ := hr
      obtain ⟨r1, st1⟩ := r.below hb
      exact ⟨_, m, rfl, .bool _, r1, st1⟩
    · cases h
  · rw [beq_eq_false_iff_ne.2 h1] at hg
    cases hg

noncomputable def sN : Nat → St := fun n => Nat.rec ⟨.e, 0⟩ (fun _ s => s.new .dfr) n
theorem sN_nx (n : Nat) : (sN n).nx = n := by
  induction n with
  | zero => rfl
  | succ n ih => show (sN n).nx + 1 = n + 1; rw [ih]
def mN (c : Nat → Value) (n : Nat) : Mp := fun id => if id < n then .val (c id) else .un
theorem rN {P : Program} (c : Nat → Value) (w : World) : ∀ n, R P w.heap.size (mN c n) (sN n) w := by
  intro n
  induction n with
  | zero => exact R.start w
  | succ n ih =>
    have h := ih.name (by rw [sN_nx]; unfold mN; rw [if_neg (Nat.lt_irrefl n)]) (c n)
    have : (mN c n).bind (sN n).nx (.val (c n)) = mN c (n + 1) := by
      funext id
      unfold Mp.bind mN
      rw [sN_nx]
      by_cases h1 : id = n
      · rw [if_pos h1, if_pos (by omega), h1]
      · rw [if_neg h1]
        by_cases h2 : id < n
        · rw [if_pos h2, if_pos (by omega)]
        · rw [if_neg h2, if_neg (by omega)]
    rw [this] at h
    exact h
theorem vN {c : Nat → Value} {n id : Nat} (h : id < n) (hp : plainX (c id) = true) : VR (mN c n) (.var id id) (c id) :=
  .var _ _ _ (by unfold mN; rw [if_pos h]) hp (by unfold mN; rw [if_pos h]; intro e; cases e)

noncomputable def actA (b : Bool) : AV := .agg [.var 0 0, .var 1 1, .var 2 2, .var 3 3, .var 4 4, .var 5 5, .var 6 6, .var 7 7, .var 8 8, .var 9 9, .bool b, .var 10 10, .var 11 11, .var 12 12]
theorem Tryz.law_t : isTrue (call Tryz.prog Tryz.ov2 400 3 [actA true] (sN 13)) = true := by kernel_rfl
theorem Tryz.law_f : isTrue (call Tryz.prog Tryz.ov2 400 3 [actA false] (sN 13)) = true := by kernel_rfl

theorem Tryz.law3 (n0 n1 n2 n3 n4 n5 n6 n7 n8 n9 : Int) (b : Bool) (n10 n11 n12 : Int) (w : World) :
    Calls Tryz.prog 3 #[.agg #[.int .i64 n0, .int .i64 n1, .int .i64 n2, .int .i64 n3, .int .i64 n4, .int .i64 n5, .int .i64 n6, .int .i64 n7, .int .i64 n8, .int .i64 n9, .bool b, .int .i64 n10, .int .i64 n11, .int .i64 n12]] w
      fun e w' => e = .returned (.bool true) ∧ Below w.heap.size w w' := by
  have hrun : ∃ s', call Tryz.prog Tryz.ov2 400 3 [actA b] (sN 13) = some (.bool true, s') := by
    cases b
    · exact isTrue_some Tryz.law_f
    · exact isTrue_some Tryz.law_t
  obtain ⟨s', h⟩ := hrun
  let c : Nat → Value := fun i => match i with
    | 0 => .int .i64 n0 | 1 => .int .i64 n1 | 2 => .int .i64 n2 | 3 => .int .i64 n3 | 4 => .int .i64 n4 | 5 => .int .i64 n5 | 6 => .int .i64 n6
    | 7 => .int .i64 n7 | 8 => .int .i64 n8 | 9 => .int .i64 n9 | 10 => .int .i64 n10 | 11 => .int .i64 n11 | _ => .int .i64 n12
  have hv : VRs (mN c 13) [actA b] [.agg #[.int .i64 n0, .int .i64 n1, .int .i64 n2, .int .i64 n3, .int .i64 n4, .int .i64 n5, .int .i64 n6, .int .i64 n7, .int .i64 n8, .int .i64 n9, .bool b, .int .i64 n10, .int .i64 n11, .int .i64 n12]] := by
    have k := fun (i : Nat) (h : i < 13) (hp : plainX (c i) = true) => vN (c := c) h hp
    refine .cons _ _ _ _ (.agg _ _ ?_) .nil
    exact .cons _ _ _ _ (k 0 (by omega) rfl) (.cons _ _ _ _ (k 1 (by omega) rfl) (.cons _ _ _ _ (k 2 (by omega) rfl) (.cons _ _ _ _ (k 3 (by omega) rfl) (.cons _ _ _ _ (k 4 (by omega) rfl)
      (.cons _ _ _ _ (k 5 (by omega) rfl) (.cons _ _ _ _ (k 6 (by omega) rfl) (.cons _ _ _ _ (k 7 (by omega) rfl) (.cons _ _ _ _ (k 8 (by omega) rfl) (.cons _ _ _ _ (k 9 (by omega) rfl)
      (.cons _ _ _ _ (.bool b) (.cons _ _ _ _ (k 10 (by omega) rfl) (.cons _ _ _ _ (k 11 (by omega) rfl) (.cons _ _ _ _ (k 12 (by omega) rfl) .nil)))))))))))))
  have hc := (call_ok Tryz.mixedOk Tryz.nameOk (Tryz.ov2_ok w.heap.size) 400 3 [actA b] (sN 13) _ s' h).2.2 (mN c 13) w #[.agg #[.int .i64 n0, .int .i64 n1, .int .i64 n2, .int .i64 n3, .int .i64 n4, .int .i64 n5, .int .i64 n6, .int .i64 n7, .int .i64 n8, .int .i64 n9, .bool b, .int .i64 n10, .int .i64 n11, .int .i64 n12]]
    (Nat.le_refl _) (rN c w 13) hv (fun id h1 _ => by rw [sN_nx] at h1; unfold mN; rw [if_neg (by omega)])
  refine callsIn_wide.1 (CallsIn.mono hc fun e w' hb => ?_)
  obtain ⟨x, m', rfl, hx, _, st⟩ := hb
  cases hx
  refine ⟨rfl, st.os, st.tape, st.output, st.size, fun b hb => st.frame b hb (fun id C sz hi hl => ?_)⟩
  rw [sN_nx] at hi
  unfold mN at hl
  rw [if_pos hi] at hl
  cases hl
end Go.Proofs
