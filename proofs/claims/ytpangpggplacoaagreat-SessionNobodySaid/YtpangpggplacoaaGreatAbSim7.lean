/- THE ABSTRACT EVALUATOR: what acts on memory, on both sides. -/
import Derived.Test.YtpangpggplacoaaGreatAbSim6
namespace Go.Ab
variable {P : Program}

def EfOk (P : Program) (o : Oper) (f : T AV → St → Option (AV × St)) : Prop :=
  ∀ (B : Nat) (m : Mp) (N : Nat) (t : T AV) (s : St) (a : Act) (w : World) (v : AV) (s' : St), B ≤ w.heap.size → R P B m s w → TR m N t a.tmps → Fresh m s.nx s'.nx → f t s = some (v, s') →
    ∃ x w' m', (execOp a.eval o).run P w = .ok x w' ∧ ((∃ v', x = .value v' ∧ VR m' v v') ∨ (x = .skip ∧ v = undefA)) ∧ R P B m' s' w' ∧ Stp m s w m' s' w'

theorem VR.one {m : Mp} {v : AV} {x : Value} (h : VR m v x) (hv : oneA v = true) : x.oneCell' = true := by
  cases h with
  | var id it x h h1 hk => cases x <;> first | rfl | cases h1
  | _ => first | rfl | cases hv
theorem VRs.one {m : Mp} {l : List AV} {xs : List Value} (h : VRs m l xs) (hl : l.all oneA = true) : ∀ x ∈ xs, x.oneCell' = true := by
  induction l generalizing xs with
  | nil => cases h; intro x hx; cases hx
  | cons v l ih =>
    cases h with
    | cons _ v' _ xs' hv hr =>
      simp only [List.all_cons, Bool.and_eq_true] at hl
      intro x hx
      rcases List.mem_cons.1 hx with rfl | hx
      · exact hv.one hl.1
      · exact ih hr hl.2 x hx

/-- cells stored, one behind the other -/
theorem run_storeCells (b off : Nat) (e : TypeId) (lo hi : Nat) : ∀ (vs : List Value) (i : Nat) (cur : Array Value) (w : World), w.heap[b]? = some (.cells cur e (lo, hi)) → off + i + vs.length ≤ cur.size →
    (∀ v ∈ vs, v.oneCell' = true) → (∀ k, off + i ≤ k → k < off + i + vs.length → ¬ (lo ≤ k ∧ k < hi)) →
    ∃ w' cur', (storeCells ⟨b, off, none⟩ vs i).run P w = .ok () w' ∧ w'.heap[b]? = some (.cells cur' e (lo, hi)) ∧ cur'.size = cur.size ∧
      (∀ k : Nat, cur'[k]? = if off + i ≤ k ∧ k < off + i + vs.length then vs[k - (off + i)]? else cur[k]?) ∧
      (∀ c, c ≠ b → w'.heap[c]? = w.heap[c]?) ∧ w'.heap.size = w.heap.size ∧ w'.os = w.os ∧ w'.tape = w.tape ∧ w'.output = w.output := by
  intro vs
  induction vs with
  | nil =>
    intro i cur w hh _ _ _
    exact ⟨w, cur, rfl, hh, rfl, fun k => by rw [if_neg (by rintro ⟨h1, h2⟩; simp at h2; omega)], fun _ _ => rfl, rfl, rfl, rfl, rfl⟩
  | cons v vs ih =>
    intro i cur w hh hl h1 hf
    simp only [List.length_cons] at hl hf
    have hcell : w.cell? ⟨b, off + i, none⟩ = some (cur[off + i]'(by omega)) := by
      unfold World.cell?
      rw [hh]
      simp [Array.getElem?_eq_getElem (show off + i < cur.size by omega)]
    have hfr : w.frozen? ⟨b, off + i, none⟩ = false := by
      unfold World.frozen?
      rw [hh]
      have := hf (off + i) (Nat.le_refl _) (by omega)
      simp only
      by_cases h : lo ≤ off + i
      · have : ¬ off + i < hi := fun hlt => this ⟨h, hlt⟩
        simp [this]
      · simp [h]
    have hst : (store ⟨b, off + i, none⟩ v).run P w = .ok () (w.setCell ⟨b, off + i, none⟩ v) := by
      rw [run_store P w _ v _ (h1 v (by simp)), hcell]
      simp [hfr]
    have hsc : (w.setCell ⟨b, off + i, none⟩ v).heap[b]? = some (.cells (cur.setIfInBounds (off + i) v) e (lo, hi)) := by
      simp [World.setCell, Array.getElem?_modify, hh]
    obtain ⟨w', cur', g1, g2, g3, g4, g5, g6, g7, g8, g9⟩ := ih (i + 1) (cur.setIfInBounds (off + i) v) (w.setCell ⟨b, off + i, none⟩ v) hsc (by simp; omega) (fun x hx => h1 x (by simp [hx])) (fun k k1 k2 => hf k (by omega) (by omega))
    refine ⟨w', cur', ?_, g2, by rw [g3]; simp, fun k => ?_, fun c hc => ?_, by rw [g6]; simp, by rw [g7]; rfl, by rw [g8]; rfl, by rw [g9]; rfl⟩
    · simp only [storeCells, Sem.run_bind, add_at, hst, Result.andThen_ok, g1]
    · rw [g4 k]
      simp only [List.length_cons]
      by_cases hk : off + (i + 1) ≤ k ∧ k < off + (i + 1) + vs.length
      · rw [if_pos hk, if_pos (by omega)]
        have : k - (off + i) = (k - (off + (i + 1))) + 1 := by omega
        rw [this]; simp
      · rw [if_neg hk]
        by_cases he : k = off + i
        · subst he
          rw [if_pos (by omega), Array.getElem?_setIfInBounds_self_of_lt (by omega)]
          simp
        · rw [if_neg (by omega), Array.getElem?_setIfInBounds_ne (by omega)]
    · rw [g5 c hc]
      simp [World.setCell, Array.getElem?_modify, Ne.symm hc]
theorem setC_some {k : Nat} {xs l r : List AV} (h : setC k xs l = some r) : xs.all oneA = true ∧ setL k xs l = some r := by
  unfold setC at h
  rw [lall_eq] at h
  cases ha : xs.all oneA with
  | true => rw [ha] at h; exact ⟨rfl, h⟩
  | false => rw [ha] at h; cases h
/-- a span of cells, written -/
theorem R.write {B : Nat} {m : Mp} {s : St} {w : World} (r : R P B m s w) {id : Nat} {c : List AV} {e : TypeId} {o : Bool} {b C sz : Nat} {arr : Array Value} {lo hi : Nat} (hi' : id < s.nx) (hs : s.at id = some (.cells c e o)) (h : Cls P m w id c e o b C sz arr lo hi)
    {off : Nat} {xs c2 : List AV} {vs : List Value} (hset : setC off xs c = some c2) (hv : VRs m xs vs) :
    ∃ w', (storeCells ⟨b, off, none⟩ vs).run P w = .ok () w' ∧ R P B m (s.put id (.cells c2 e o)) w' ∧ Stp m s w m (s.put id (.cells c2 e o)) w' := by
  obtain ⟨h1, h2⟩ := setC_some hset
  obtain ⟨l1, l2, l3⟩ := setL_some h2
  have hvl := hv.length
  have hdf : s.at id ≠ some .dfr := by rw [hs]; intro h; cases h
  by_cases hx : xs = []
  · subst hx
    cases hv
    have hc2 : c2 = c := by
      apply List.ext_getElem?
      intro i
      rw [l3 i, if_neg (by simp)]
    subst hc2
    refine ⟨w, rfl, ?_, Stp.put hi' h.live hdf rfl (fun _ _ => rfl) rfl rfl rfl⟩
    exact r.put hi' h.live h.heap rfl (fun _ _ => rfl) (.cells _ _ _ _ _ _ h.hC h.hsz h.le h.all h.vr h.free h.mark)
  · have l2 : off + xs.length ≤ c.length := l2.resolve_left hx
    have hle := h.le
    have hC := h.hC
    obtain ⟨w', cur', g1, g2, g3, g4, g5, g6, g7, g8, g9⟩ := run_storeCells (P := P) b off e lo hi vs 0 arr w h.heap (by omega) (hv.one h1) (fun k _ k2 => h.free k (by omega))
    refine ⟨w', g1, ?_, Stp.put hi' h.live hdf g6 g5 g7 g8 g9⟩
    refine r.put hi' h.live g2 g6 g5 (.cells _ _ _ _ _ _ (by rw [g3, hC]) h.hsz (by rw [l1]; exact h.le) (fun ho => by rw [l1]; exact h.all ho) ?_ h.free h.mark)
    have hcl : cur'.toList.length = cur'.size := Array.length_toList
    refine VRs.ofNth (by rw [l1, List.length_take]; omega) fun i v hiv => ?_
    rw [l3 i] at hiv
    rw [l1]
    have hlt : i < c.length := by
      have := (List.getElem?_eq_some_iff.1 (by rw [← l3 i] at hiv; exact hiv)).1
      omega
    rw [List.getElem?_take, if_pos hlt, Array.getElem?_toList, g4 i]
    simp only [Nat.add_zero]
    by_cases hr : off ≤ i ∧ i < off + xs.length
    · rw [if_pos hr] at hiv
      rw [if_pos (by omega)]
      exact hv.nth hiv
    · rw [if_neg hr] at hiv
      rw [if_neg (by omega)]
      exact h.nth hiv

theorem ef_store {o : Oper} {ty : TypeId} {x y : Operand} {x' y' : Opd} {d : TypeDesc} (ho : o.op = .store ty x y) (hx : OR x' x) (hy : OR y' y) (hd : P.underlying ty = some d) : EfOk P o (k_store (P.cellsOf ty) x' y') := by
  intro B m N t s a w v s' hB r ht hfr h
  have hx := hx m N t a ht
  have hy := hy m N t a ht
  unfold k_store storeA at h
  split at h
  · rename_i id off ex
    rw [ex] at hx
    generalize hv : a.eval x = q at hx
    cases hx with
    | ptr _ _ ad hr =>
    split at h
    · rename_i c e op hs
      rw [beq_nat, llen_eq] at h
      by_cases hl : (y'.ev t).cells.length = P.cellsOf ty
      · rw [hl] at h
        simp only [beq_self_eq_true, cond_true] at h
        split at h
        · rename_i c2 hc2
          cases h
          obtain ⟨hlt, b, C, sz, arr, lo, hi, hc⟩ := r.cells hr.ne hs
          obtain rfl := hr.eq hc.live
          obtain ⟨w', g1, g2, g3⟩ := r.write hlt hs hc hc2 hy.cells
          refine ⟨.skip, w', m, ?_, .inr ⟨rfl, rfl⟩, g2, g3⟩
          have hsz : (a.eval y).cells.size = P.cellsOf ty := by rw [← hl]; exact hy.cells.size.symm
          simp only [execOp, ho, hv, Instr.storeAt, Instr.sureAddr, storeVar, Sem.run_bind, Sem.run_pure, Result.andThen_ok, run_size (info_of_under hd), hsz, ne_eq, not_true_eq_false, if_false, g1]
        · cases h
      · rw [show ((y'.ev t).cells.length == P.cellsOf ty) = false from beq_eq_false_iff_ne.2 hl] at h; cases h
    · cases h
  · cases h

/-! ### elements that are copied -/
theorem alen_run {m : Mp} {x : AV} {x' : Value} (hx : VR m x x') {n : Nat} (h : alen x = some n) (w : World) : (Builtin.lenOf x').run P w = .ok n w := by
  unfold alen at h
  split at h <;> cases h <;> cases hx <;> first | rfl | skip
  rename_i b hb
  subst hb
  rw [llen_eq, bytes_len]; rfl
theorem elems_run {B : Nat} {m : Mp} {s : St} {w : World} (r : R P B m s w) {x : AV} {x' : Value} (hx : VR m x x') {n sz k : Nat} (hk : alen x = some k) (hn : n ≤ k) {l : List AV} (h : elemsA s n sz x = some l) :
    ∃ vs : Array Value, VRs m l vs.toList ∧ (∀ w2 : World, w2.heap = w.heap → (Builtin.firstCells sz n x').run P w2 = .ok vs w2) ∧ l.length = n * sz := by
  unfold elemsA at h
  split at h
  · cases hx; cases h; cases hk
    obtain rfl : n = 0 := by omega
    exact ⟨#[], .nil, fun _ _ => rfl, by simp⟩
  · cases hx; cases h; cases hk
    obtain rfl : n = 0 := by omega
    exact ⟨#[], .nil, fun _ _ => by simp [Builtin.firstCells, loadCells, loadCellsFrom], by simp⟩
  · rename_i id off len cap
    cases hx with
    | sl _ _ _ _ ad c h1 h2 h3 h4 =>
    split at h
    · rename_i cs ce op hs
      obtain ⟨_, b, C, sz', arr, lo, hi, hc⟩ := r.cells h1.ne hs
      obtain rfl := h1.eq hc.live
      obtain ⟨vs, g1, g2, g3⟩ := hc.span (P := P) h
      exact ⟨vs.toArray, by simpa using g2, fun w2 hw2 => by simp [Builtin.firstCells, g3 w2 hw2], by rw [g2.length, g1]⟩
    · cases h
  · rename_i b
    cases hx with
    | str _ bs hb =>
    rw [beq_nat] at h
    by_cases e1 : sz = 1
    case neg => rw [show (sz == 1) = false from beq_eq_false_iff_ne.2 e1] at h; cases h
    subst e1
    simp only [beq_self_eq_true, cond_true] at h
    split at h
    · rename_i b' hb'
      cases h
      obtain ⟨h1, h2⟩ := takeE_some hb'
      subst hb; subst h2
      have hnb : n ≤ bs.size := by rw [bytes_len] at h1; exact h1
      refine ⟨(bs.extract 0 n).data.map fun b => .int .u8 b.toNat, ?_, fun _ _ => rfl, ?_⟩
      · rw [Array.toList_map, ByteArray.data_extract, Array.toList_extract, List.extract_eq_take_drop, lmap_eq, List.drop_zero, Nat.sub_zero, ← List.map_take, List.map_map]
        generalize bs.data.toList.take n = l
        induction l with
        | nil => exact .nil
        | cons u l ih => exact .cons _ _ _ _ (.int _ _) ih
      · rw [lmap_eq, List.length_map, List.length_take, bytes_len]; omega
    · cases h
  · cases h

/-- a block is given up -/
theorem R.kill {B : Nat} {m : Mp} {s : St} {w : World} (r : R P B m s w) {id : Nat} (hnv : ∀ x, m id ≠ .val x) : R P B (m.bind id .dead) (s.put id .dfr) w ∨ s.nx ≤ id := by
  rcases Nat.lt_or_ge id s.nx with hlt | hge
  · refine .inl ⟨fun i b C sz hi hm => ?_, fun i hi hm => ?_, fun i hi => ?_, fun i b C sz hm => ?_, fun i i' b C sz C' sz' h1 h2 => ?_⟩
    · unfold Mp.bind at hm
      by_cases e : i = id
      · rw [if_pos e] at hm; cases hm
      · rw [if_neg e] at hm
        obtain ⟨x, o, g1, g2, g3⟩ := r.blk i b C sz hi hm
        rw [St.at_put, if_neg e]
        refine ⟨x, o, g1, g2, g3.mono fun j => ?_⟩
        unfold Mp.bind
        by_cases ej : j = id
        · rw [if_pos ej]; subst ej
          cases hmj : m j with
          | val x => exact absurd hmj (hnv x)
          | _ => simp
        · rw [if_neg ej]; cases m j <;> simp
    · unfold Mp.bind at hm
      rw [St.at_put]
      by_cases e : i = id
      · rw [if_pos e]
      · rw [if_neg e] at hm ⊢; exact r.dead i hi hm
    · rw [St.at_put, if_neg (by simp only [St.nx_put] at hi; omega)]; exact r.top i hi
    · unfold Mp.bind at hm
      by_cases e : i = id
      · rw [if_pos e] at hm; cases hm
      · rw [if_neg e] at hm; exact r.base i b C sz hm
    · unfold Mp.bind at h1 h2
      by_cases e : i = id
      · rw [if_pos e] at h1; cases h1
      · by_cases e' : i' = id
        · rw [if_pos e'] at h2; cases h2
        · rw [if_neg e] at h1; rw [if_neg e'] at h2; exact r.inj i i' b C sz C' sz' h1 h2
  · exact .inr hge
theorem Ext.kill {m : Mp} {id : Nat} (h : m id ≠ .un) (hnv : ∀ x, m id ≠ .val x) : Ext m (m.bind id .dead) := fun j => by
  unfold Mp.bind
  by_cases e : j = id
  · subst e; rw [if_pos rfl]
    cases hmj : m j with
    | val x => exact absurd hmj (hnv x)
    | _ => simp
  · rw [if_neg e]; cases m j <;> simp
theorem Stp.kill {m : Mp} {s : St} {w : World} {id : Nat} (hm : m id ≠ .un) (hnv : ∀ x, m id ≠ .val x) (hlt : id < s.nx) {c : List AV} {e : TypeId} {o : Bool} (hs : s.at id = some (.cells c e o)) : Stp m s w (m.bind id .dead) (s.put id .dfr) w := by
  refine ⟨Ext.kill hm hnv, fun i hi hu => ?_, fun i hi => ?_, fun i hi hd => ?_, Nat.le_refl _, fun _ _ _ => rfl, Nat.le_refl _, fun i b C sz hi hl => ?_, rfl, rfl, rfl⟩
  · have : i ≠ id := fun e => hm (by rw [← e]; exact hu)
    unfold Mp.bind; rw [St.at_put, if_neg this, if_neg this]; exact ⟨hu, rfl⟩
  · unfold Mp.bind; rw [if_neg (by simp only [St.nx_put] at hi; omega)]
  · have : i ≠ id := fun e => by rw [e, hs] at hd; cases hd
    unfold Mp.bind; rw [St.at_put, if_neg this, if_neg this]; exact ⟨hd, rfl⟩
  · unfold Mp.bind at hl
    by_cases e : i = id
    · rw [if_pos e] at hl; cases hl
    · rw [if_neg e] at hl; exact .inr ⟨i, C, sz, hi, hl⟩
end Go.Ab
