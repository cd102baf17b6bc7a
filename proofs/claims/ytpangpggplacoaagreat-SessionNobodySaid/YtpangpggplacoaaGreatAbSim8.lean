/- THE ABSTRACT EVALUATOR: append and copy, on both sides. -/
import Derived.Test.YtpangpggplacoaaGreatAbSim7
namespace Go.Ab
variable {P : Program}

theorem growBy_le (n : Nat) : ∀ (k c : Nat), Builtin.growBy n k c ≤ max c (2 * n + 768) := by
  intro k
  induction k with
  | zero => intro c; simp [Builtin.growBy]; omega
  | succ k ih =>
    intro c
    unfold Builtin.growBy
    split
    · omega
    · have := ih (c + (c + 768) / 4)
      omega
theorem nextcap_le {need cap : Nat} (h : cap < need) : Builtin.nextslicecap need cap ≤ 2 * need + 768 := by
  unfold Builtin.nextslicecap
  split
  · omega
  · split
    · omega
    · have := growBy_le need 4 cap; omega
theorem nextcap_ok {need cap bytes : Nat} (h : cap < need) (hn : need ≤ 16777216) (hb : bytes ≤ 4096) : ¬ (Builtin.nextslicecap need cap * bytes > 2 ^ 48) := by
  have h1 := nextcap_le h
  have h2 : Builtin.nextslicecap need cap * bytes ≤ 33555200 * 4096 := Nat.mul_le_mul (by omega) hb
  have h3 : (2 : Nat) ^ 48 = 281474976710656 := by decide
  omega
theorem zeroCells_size (z : Array Value) (n : Nat) : (Builtin.zeroCells z n).size = n * z.size := by simp [Builtin.zeroCells]

/-- an append that needs new memory: what stands there behind it -/
theorem run_append_grow {ty e u : TypeId} {du : TypeDesc} {base : Option Addr} {len cap n : Nat} {y : Value} {old new : Array Value} {w : World} {tys : Array TypeId} {rt : TypeId} {z' : Value}
    (hty : tys[0]? = some ty) (hty1 : tys[1]? = some u) (hu : P.underlying ty = some (.slice e)) (huy : P.underlying u = some du) (hnz : ∀ k, du ≠ .int k) (hs : P.cellsOf e ≠ 0) (hb : P.bytesOf e ≤ 4096)
    (hlen : (Builtin.lenOf y).run P w = .ok n w) (hfit : cap < len + n) (hn : len + n ≤ 16777216) (hz : ∀ w, (zeroValue e).run P w = .ok z' w)
    (hold : ∀ w2 : World, w2.heap = w.heap → (Builtin.firstCells (P.cellsOf e) len (.slice base len cap)).run P w2 = .ok old w2)
    (hnew : ∀ w2 : World, w2.heap = w.heap → (Builtin.firstCells (P.cellsOf e) n y).run P w2 = .ok new w2) :
    ∃ nc w', len + n ≤ nc ∧ (Builtin.append_ tys rt #[.slice base len cap, y]).run P w = .ok (.slice (some ⟨w.heap.size, 0, none⟩) (len + n) nc) w' ∧
      w'.heap = w.heap.push (.cells (old ++ new ++ Builtin.zeroCells z'.cells (nc - (len + n))) e) ∧ w'.os = w.os ∧ w'.tape = w.tape ∧ w'.output = w.output := by
  obtain ⟨i, hi⟩ := Option.isSome_iff_exists.1 (info_of_cells hs)
  have hby : i.bytes = P.bytesOf e := by simp [Program.bytesOf, hi]
  have hzz : (match du with | .int _ => true | _ => false) = false := by cases du <;> first | rfl | exact absurd rfl (hnz _)
  let nc := (Question.appendCap (len + n) cap e).cut (w.tape w.drawn (.appendCap (len + n) cap e))
  have hnc : len + n ≤ nc := by show len + n ≤ (Question.appendCap (len + n) cap e).cut _; simp [Question.cut]
  refine ⟨nc, { w with heap := w.heap.push (.cells (old ++ new ++ Builtin.zeroCells z'.cells (nc - (len + n))) e), drawn := w.drawn + 1 }, hnc, ?_, rfl, rfl, rfl, rfl⟩
  have g1 := hold { w with drawn := w.drawn + 1 } rfl
  have g2 := hnew { w with drawn := w.drawn + 1 } rfl
  have hf : (Question.appendCap (len + n) cap e).forced = false := rfl
  have hgt : ¬ (((len + n : Nat) : Int) > IntKind.i64.max ∧ (False ∨ i.bytes = 0)) := by
    rintro ⟨h1, _⟩
    have e1 : IntKind.i64.max = 9223372036854775807 := rfl
    omega
  have hcap := nextcap_ok hfit hn (by rw [← hby] at hb; exact hb)
  unfold Builtin.append_
  have hget0 : (#[Value.slice base len cap, y] : Array Value)[0]? = some (.slice base len cap) := rfl
  have hget1 : (#[Value.slice base len cap, y] : Array Value)[1]? = some y := rfl
  simp only [hty, hty1, hget0, hget1, Sem.run_bind, run_under hu, Result.andThen_ok, run_size (info_of_cells hs), run_under huy, Sem.run_pure]
  cases du <;> first | exact absurd rfl (hnz _) | skip
  all_goals
    simp only [hlen, Result.andThen_ok, Sem.run_bind, Bool.false_eq_true, if_false]
    rw [if_neg (show ¬ len + n ≤ cap by omega)]
    simp only [Sem.run_bind, run_info hi, Result.andThen_ok]
    rw [if_neg hgt]
    simp only [Sem.run_bind, run_info hi, Result.andThen_ok]
    rw [if_neg hcap]
    simp only [Sem.run_bind, run_choose, hf, Bool.false_eq_true, if_false, Result.andThen_ok, run_info hi, run_askRoom]
    rw [show ({ w with drawn := w.drawn + 1 } : World) = w.drew from rfl] at g1 g2
    first | rw [g1] | erw [g1]
    simp only [Result.andThen_ok, Bool.not_false, if_true]
    first | rw [g2] | erw [g2]
    simp only [Result.andThen_ok, hz, newRow, Sem.run_bind, run_newObj, Sem.run_pure]
    rfl

/-- an append that finds room -/
theorem run_append_fit {ty e u : TypeId} {du : TypeDesc} {a : Addr} {len cap n : Nat} {y : Value} {new : Array Value} {w w' : World} {tys : Array TypeId} {rt : TypeId}
    (hty : tys[0]? = some ty) (hty1 : tys[1]? = some u) (hu : P.underlying ty = some (.slice e)) (huy : P.underlying u = some du) (hnz : ∀ k, du ≠ .int k) (hs : P.cellsOf e ≠ 0)
    (hlen : (Builtin.lenOf y).run P w = .ok n w) (hfit : len + n ≤ cap)
    (hnew : (Builtin.firstCells (P.cellsOf e) n y).run P w = .ok new w) (hst : (storeCells (a.add (len * P.cellsOf e)) new.toList).run P w = .ok () w') :
    (Builtin.append_ tys rt #[.slice (some a) len cap, y]).run P w = .ok (.slice (some a) (len + n) cap) w' := by
  unfold Builtin.append_
  have hget0 : (#[Value.slice (some a) len cap, y] : Array Value)[0]? = some (.slice (some a) len cap) := rfl
  have hget1 : (#[Value.slice (some a) len cap, y] : Array Value)[1]? = some y := rfl
  simp only [hty, hty1, hget0, hget1, Sem.run_bind, run_under hu, Result.andThen_ok, run_size (info_of_cells hs), run_under huy, Sem.run_pure]
  cases du <;> first | exact absurd rfl (hnz _) | skip
  all_goals
    simp only [hlen, Result.andThen_ok, Sem.run_bind, Bool.false_eq_true, if_false]
    rw [if_pos hfit]
    simp only [Sem.run_bind, Bool.not_false, if_true, hnew, Result.andThen_ok, hst, Sem.run_pure]
theorem run_append_nil {ty e u : TypeId} {du : TypeDesc} {y : Value} {new : Array Value} {w : World} {tys : Array TypeId} {rt : TypeId}
    (hty : tys[0]? = some ty) (hty1 : tys[1]? = some u) (hu : P.underlying ty = some (.slice e)) (huy : P.underlying u = some du) (hnz : ∀ k, du ≠ .int k) (hs : P.cellsOf e ≠ 0)
    (hlen : (Builtin.lenOf y).run P w = .ok 0 w) (hnew : (Builtin.firstCells (P.cellsOf e) 0 y).run P w = .ok new w) :
    (Builtin.append_ tys rt #[.slice none 0 0, y]).run P w = .ok (.slice none 0 0) w := by
  unfold Builtin.append_
  have hget0 : (#[Value.slice none 0 0, y] : Array Value)[0]? = some (.slice none 0 0) := rfl
  have hget1 : (#[Value.slice none 0 0, y] : Array Value)[1]? = some y := rfl
  simp only [hty, hty1, hget0, hget1, Sem.run_bind, run_under hu, Result.andThen_ok, run_size (info_of_cells hs), run_under huy, Sem.run_pure]
  cases du <;> first | exact absurd rfl (hnz _) | skip
  all_goals
    simp only [hlen, Result.andThen_ok, Sem.run_bind, Bool.false_eq_true, if_false]
    rw [if_pos (by omega)]
    simp only [Sem.run_bind, Bool.not_false, if_true, hnew, Result.andThen_ok, Sem.run_pure]

/-- a block that grows in its place: another id -/
theorem R.move {B : Nat} {m : Mp} {s : St} {w w' : World} (r : R P B m s w) {id b C sz : Nat} {c : List AV} {e : TypeId} {o : Bool} (hlt : id < s.nx) (hm : m id = .live b C sz) (hs : s.at id = some (.cells c e o)) (hf : m s.nx = .un)
    {x : ABlk} {ob : Obj} (hb : w'.heap[b]? = some ob) (hsz : w'.heap.size = w.heap.size) (hn : ∀ k, k ≠ b → w'.heap[k]? = w.heap[k]?) (ho : w'.os = w.os) (ht : w'.tape = w.tape) (hu : w'.output = w.output) (hx : BR P m C sz x ob) :
    R P B ((m.bind id .dead).bind s.nx (.live b C sz)) ((s.put id .dfr).new x) w' ∧ Stp m s w ((m.bind id .dead).bind s.nx (.live b C sz)) ((s.put id .dfr).new x) w' := by
  have hne : id ≠ s.nx := by omega
  have hne' : m id ≠ .un := by rw [hm]; intro h; cases h
  have hext : Ext m ((m.bind id .dead).bind s.nx (.live b C sz)) := (Ext.kill hne' (fun x => by rw [hm]; intro h; cases h)).trans (Ext.bind (by unfold Mp.bind; rw [if_neg (Ne.symm hne)]; exact hf) _)
  have hv : ∀ i, ((m.bind id .dead).bind s.nx (.live b C sz)) i = if i = s.nx then .live b C sz else if i = id then .dead else m i := fun i => rfl
  have hat : ∀ i, ((s.put id .dfr).new x).at i = if i = s.nx then some x else if i = id then some .dfr else s.at i := fun i => by rw [St.at_new, St.at_put]; rfl
  refine ⟨⟨fun i b' C' sz' hi hl => ?_, fun i hi hl => ?_, fun i hi => ?_, fun i b' C' sz' hl => ?_, fun i i' b' C1 s1 C2 s2 h1 h2 => ?_⟩,
    ⟨hext, fun i hi hun => ?_, fun i hi => ?_, fun i hi hd => ?_, by simp, fun k hk hnn => ?_, by rw [hsz]; exact Nat.le_refl _, fun i b' C' sz' hi hl => ?_, ho, ht, hu⟩⟩
  · rw [hv] at hl; rw [hat]
    by_cases e1 : i = s.nx
    · rw [if_pos e1] at hl ⊢; cases hl; exact ⟨x, ob, rfl, hb, hx.mono hext⟩
    · rw [if_neg e1] at hl ⊢
      by_cases e2 : i = id
      · rw [if_pos e2] at hl; cases hl
      · rw [if_neg e2] at hl ⊢
        simp only [St.nx_new, St.nx_put] at hi
        obtain ⟨x', o', g1, g2, g3⟩ := r.blk i b' C' sz' (by omega) hl
        have : b' ≠ b := fun hbb => by subst hbb; exact e2 (r.inj _ _ _ _ _ _ _ hl hm)
        exact ⟨x', o', g1, by rw [hn b' this]; exact g2, g3.mono hext⟩
  · rw [hv] at hl; rw [hat]
    by_cases e1 : i = s.nx
    · rw [if_pos e1] at hl; cases hl
    · rw [if_neg e1] at hl ⊢
      by_cases e2 : i = id
      · rw [if_pos e2]
      · rw [if_neg e2] at hl ⊢
        simp only [St.nx_new, St.nx_put] at hi
        exact r.dead i (by omega) hl
  · simp only [St.nx_new, St.nx_put] at hi
    rw [hat, if_neg (by omega), if_neg (by omega)]; exact r.top i (by omega)
  · rw [hv] at hl; rw [hsz]
    by_cases e1 : i = s.nx
    · rw [if_pos e1] at hl; cases hl; exact r.base id b C sz hm
    · rw [if_neg e1] at hl
      by_cases e2 : i = id
      · rw [if_pos e2] at hl; cases hl
      · rw [if_neg e2] at hl; exact r.base i b' C' sz' hl
  · rw [hv] at h1 h2
    by_cases e1 : i = s.nx <;> by_cases e1' : i' = s.nx
    · rw [e1, e1']
    · rw [if_pos e1] at h1; rw [if_neg e1'] at h2; cases h1
      by_cases e2 : i' = id
      · rw [if_pos e2] at h2; cases h2
      · rw [if_neg e2] at h2; exact absurd (r.inj _ _ _ _ _ _ _ h2 hm) e2
    · rw [if_neg e1] at h1; rw [if_pos e1'] at h2; cases h2
      by_cases e2 : i = id
      · rw [if_pos e2] at h1; cases h1
      · rw [if_neg e2] at h1; exact absurd (r.inj _ _ _ _ _ _ _ h1 hm) e2
    · rw [if_neg e1] at h1; rw [if_neg e1'] at h2
      by_cases e2 : i = id
      · rw [if_pos e2] at h1; cases h1
      · by_cases e2' : i' = id
        · rw [if_pos e2'] at h2; cases h2
        · rw [if_neg e2] at h1; rw [if_neg e2'] at h2; exact r.inj _ _ _ _ _ _ _ h1 h2
  · have e2 : i ≠ id := fun e => hne' (by rw [← e]; exact hun)
    rw [hv, hat, if_neg (by omega), if_neg e2, if_neg (by omega), if_neg e2]; exact ⟨hun, rfl⟩
  · simp only [St.nx_new, St.nx_put] at hi
    rw [hv, if_neg (by omega), if_neg (by omega)]
  · have e2 : i ≠ id := fun e => by rw [e, hs] at hd; cases hd
    rw [hv, hat, if_neg (by omega), if_neg e2, if_neg (by omega), if_neg e2]; exact ⟨hd, rfl⟩
  · exact hn k (fun e => by subst e; exact hnn id C sz hlt hm)
  · rw [hv] at hl
    by_cases e1 : i = s.nx
    · rw [if_pos e1] at hl; cases hl; exact .inr ⟨id, C, sz, hlt, hm⟩
    · rw [if_neg e1] at hl
      by_cases e2 : i = id
      · rw [if_pos e2] at hl; cases hl
      · rw [if_neg e2] at hl; simp only [St.nx_new, St.nx_put] at hi; exact .inr ⟨i, C', sz', by omega, hl⟩
end Go.Ab
