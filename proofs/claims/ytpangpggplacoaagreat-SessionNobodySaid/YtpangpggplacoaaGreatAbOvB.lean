/- THE ABSTRACT EVALUATOR: a call that only makes new blocks. -/
import Derived.Test.YtpangpggplacoaaGreatAbSoundC
import Derived.Below
namespace Go.Ab
variable {P : Program} {B : Nat}
/-- the world has new blocks alone -/
theorem R.below {m : Mp} {s : St} {w w' : World} (r : R P B m s w) (h : RowKit.Below w.heap.size w w') : R P B m s w' ∧ Stp m s w m s w' := by
  refine ⟨⟨fun id b C sz hi hm => ?_, r.dead, r.top, fun id b C sz hm => ?_, r.inj⟩, ⟨Ext.refl m, fun _ _ h => ⟨h, rfl⟩, fun _ _ => rfl, fun _ _ h => ⟨h, rfl⟩, Nat.le_refl _, fun b hb _ => h.block b hb, h.size, fun id b C sz hi hm => .inr ⟨id, C, sz, hi, hm⟩, h.os, h.tape, h.output⟩⟩
  · obtain ⟨x, o, h1, h2, h3⟩ := r.blk id b C sz hi hm
    exact ⟨x, o, h1, by rw [h.block b (r.base id b C sz hm).2]; exact h2, h3⟩
  · have := r.base id b C sz hm
    exact ⟨this.1, Nat.lt_of_lt_of_le this.2 h.size⟩
end Go.Ab
