/- THE ABSTRACT EVALUATOR: what stands in a function's place: strings.Builder's copyCheck. -/
import Derived.Test.YtpangpggplacoaaGreatAbSoundC
namespace Go.Ab
variable {P : Program} {B : Nat}

noncomputable def ccB (id : Nat) (s : St) (a y : AV) (e : TypeId) : Option (AV × St) :=
  match a with
  | .nilp => some (.tup [], s.put id (.cells [.ptr id 0, y] e false))
  | .ptr id' 0 => bif Nat.beq id id' then some (.tup [], s) else none
  | _ => none
noncomputable def ovCC (T : TypeId) (args : List AV) (s : St) : Option (AV × St) :=
  match args with
  | [.ptr id 0] => match s.at id with
    | some (.cells [a, y] e false) => bif Nat.beq e T then ccB id s a y e else none
    | _ => none
  | _ => none
theorem ovCC_ok {f : FuncId} {T : TypeId} (hE : Enters P f)
    (h1 : ∀ (b : Nat) (w : World), w.cell? ⟨b, 0, none⟩ = some (.pointer none) → w.shape? b = some (T, 2) → w.frozen? ⟨b, 0, none⟩ = false →
      Calls P f #[.pointer (some ⟨b, 0, none⟩)] w fun e w' => e = .returned (.tuple #[]) ∧ w' = w.setCell ⟨b, 0, none⟩ (.pointer (some ⟨b, 0, none⟩)))
    (h2 : ∀ (b : Nat) (w : World), w.cell? ⟨b, 0, none⟩ = some (.pointer (some ⟨b, 0, none⟩)) → Calls P f #[.pointer (some ⟨b, 0, none⟩)] w fun e w' => e = .returned (.tuple #[]) ∧ w' = w) :
    CallOk P B f (ovCC T) := by
  intro args s v s' h
  unfold ovCC at h
  split at h
  · rename_i id
    split at h
    · rename_i a y e hst
      rw [beq_nat] at h
      by_cases he : e = T
      · subst he
        rw [beq_self_eq_true] at h
        simp only [cond_true] at h
        refine ⟨hE, ?_, fun m w args' hB r hv hf => ?_⟩
        · unfold ccB at h
          split at h
          · cases h; simp
          · rename_i id'
            cases hb : Nat.beq id id' with
            | true => rw [hb] at h; cases h; exact Nat.le_refl _
            | false => rw [hb] at h; cases h
          · cases h
        · obtain ⟨arr⟩ := args'
          cases hv with
          | cons _ x _ l' hx hl =>
          cases hl
          cases hx with
          | ptr _ _ ad har =>
          obtain ⟨hlt, b, C, sz, arr, lo, hi, hcl⟩ := r.cells har.ne hst
          obtain rfl := har.eq hcl.live
          have hC : arr.size = 2 := by rw [hcl.hC]; exact (hcl.all rfl).symm
          obtain ⟨v0, c1, c2⟩ := hcl.nth (i := 0) (v := a) rfl
          have hcell : w.cell? ⟨b, 0, none⟩ = some v0 := by rw [hcl.cell]; exact c1
          have hsh : w.shape? b = some (e, 2) := by unfold World.shape?; rw [hcl.heap]; simp [hC]
          unfold ccB at h
          split at h
          · cases h
            cases c2
            have hfz : w.frozen? ⟨b, 0, none⟩ = false := by
              unfold World.frozen?
              rw [hcl.heap]
              have := hcl.free 0 (by rw [← hcl.hC, hC]; omega)
              rw [Bool.eq_false_iff]; intro hh
              simp only [Bool.and_eq_true, decide_eq_true_eq] at hh
              exact this hh
            obtain ⟨w2, g1, g2, g3⟩ := r.write (vs := [.pointer (some ⟨b, 0, none⟩)]) hlt hst hcl (off := 0) (xs := [.ptr id 0]) (c2 := [.ptr id 0, y]) rfl (.cons _ _ _ _ (.ptr _ _ _ har) .nil)
            have hw2 : w2 = w.setCell ⟨b, 0, none⟩ (.pointer (some ⟨b, 0, none⟩)) := by
              unfold storeCells at g1
              rw [add_at] at g1
              simp only [Sem.run_bind, Nat.zero_add] at g1
              rw [run_store _ _ _ _ _ rfl, hcell] at g1
              simp only [hfz] at g1
              injection g1 with _ g1
              exact g1.symm
            subst hw2
            refine callsIn_wide.2 ((h1 b w hcell hsh hfz).mono fun e w' hr => ?_)
            obtain ⟨rfl, rfl⟩ := hr
            exact ⟨_, m, rfl, .tup _ _ .nil, g2, g3⟩
          · rename_i id'
            rw [beq_nat] at h
            by_cases hid : id = id'
            · subst hid
              rw [beq_self_eq_true] at h; cases h
              cases c2 with
              | ptr _ _ ad2 har2 =>
              obtain rfl := har2.eq hcl.live
              refine callsIn_wide.2 ((h2 b w hcell).mono fun e w' hr => ?_)
              obtain ⟨rfl, rfl⟩ := hr
              exact ⟨_, m, rfl, .tup _ _ .nil, r, Stp.refl _ _ _⟩
            · rw [beq_eq_false_iff_ne.2 hid] at h; cases h
          · cases h
      · rw [beq_eq_false_iff_ne.2 he] at h; cases h
    · cases h
  · cases h
end Go.Ab
