/- THE ABSTRACT EVALUATOR: what makes a block, on both sides. -/
import Derived.Test.YtpangpggplacoaaGreatAbSim5
namespace Go.Ab
variable {P : Program}

theorem bornA_some {m : Mp} {b : Nat} : ∀ {es : List AE} {es' : List MapEntry} {e : AE}, ERs m es es' → bornA b es = some e → ∃ e', es'.find? (·.born == b) = some e' ∧ ER m e e' := by
  intro es
  induction es with
  | nil => intro es' e he h; cases h
  | cons x es ih =>
    intro es' e he h
    cases he with
    | cons _ x' _ es' hx hl =>
      change (bif Nat.beq x.born b then some x else bornA b es) = some e at h
      rw [beq_nat] at h
      by_cases hb : x.born = b
      · rw [hb] at h; simp only [beq_self_eq_true, cond_true, Option.some.injEq] at h; subst h
        exact ⟨x', by rw [List.find?_cons]; simp [← hx.born, hb], hx⟩
      · rw [show (x.born == b) = false from beq_eq_false_iff_ne.2 hb] at h
        obtain ⟨e', h1, h2⟩ := ih hl h
        refine ⟨e', ?_, h2⟩
        rw [List.find?_cons]
        rw [show (x'.born == b) = false from beq_eq_false_iff_ne.2 (by rw [← hx.born]; exact hb)]
        exact h1
theorem plain_one {m : Mp} {v : AV} {x y : Value} (h : VR m v x) (hp : plainA v = true) (k : VR m v y) : x = y := by
  cases v <;> first | (cases hp; done) | skip
  · cases h; cases k; rfl
  · cases h with
    | str _ s e =>
    cases k with
    | str _ s' e' =>
    have : s = s' := by
      obtain ⟨⟨a⟩⟩ := s
      obtain ⟨⟨b⟩⟩ := s'
      have hab : a.map UInt8.toNat = b.map UInt8.toNat := e.trans e'.symm
      have : a = b := List.map_inj_right (fun p q h => UInt8.toNat_inj.1 h) |>.1 hab
      rw [this]
    rw [this]
theorem plain_x {m : Mp} {v : AV} {x : Value} (hp : plainA v = true) (h : VR m v x) : plainX x = true := by
  cases v <;> first | (cases hp; done) | (cases h; rfl)
theorem entsOk_cons {since : Nat} {e : AE} {l : List AE} (h : entsOk since (e :: l) = true) : plainA e.k = true ∧ plainA e.v = true ∧ e.born < since ∧ (∀ f ∈ l, e.born ≠ f.born) ∧ entsOk since l = true := by
  replace h : (bif plainA e.k && plainA e.v && Nat.blt e.born since && freshB e.born l then entsOk since l else false) = true := h
  cases hc : (plainA e.k && plainA e.v && Nat.blt e.born since && freshB e.born l) with
  | false => rw [hc] at h; cases h
  | true =>
    rw [hc] at h
    simp only [Bool.and_eq_true, blt_nat, decide_eq_true_eq] at hc
    obtain ⟨⟨⟨h1, h2⟩, h3⟩, h4⟩ := hc
    refine ⟨h1, h2, h3, fun f hf hb => ?_, h⟩
    unfold freshB at h4
    rw [lall_eq, List.all_eq_true] at h4
    have := h4 f hf
    rw [hb, beq_nat] at this
    simp at this
theorem entsEq_cons {a : AE} {l : List AE} {y : List AE} (h : entsEq (a :: l) y = true) : ∃ b r, y = b :: r ∧ a.born = b.born ∧ plainEqA a.k b.k = true ∧ plainEqA a.v b.v = true ∧ entsEq l r = true := by
  cases y with
  | nil => cases h
  | cons b r =>
    replace h : (bif Nat.beq a.born b.born && plainEqA a.k b.k && plainEqA a.v b.v then entsEq l r else false) = true := h
    cases hc : (Nat.beq a.born b.born && plainEqA a.k b.k && plainEqA a.v b.v) with
    | false => rw [hc] at h; cases h
    | true =>
      rw [hc] at h
      simp only [Bool.and_eq_true, beq_nat, beq_iff_eq] at hc
      exact ⟨b, r, rfl, hc.1.1, hc.1.2, hc.2, h⟩
theorem plainEq_eq {a b : AV} (h : plainEqA a b = true) : a = b := by
  unfold plainEqA at h
  split at h
  · rw [Bool.and_eq_true, ibeq_eq] at h
    rw [kbeq_true h.1, of_decide_eq_true h.2]
  · rw [lbeq_eq] at h; rw [beq_iff_eq.1 h]
  · cases h
theorem entsEq_eq : ∀ {x y : List AE}, entsEq x y = true → x = y := by
  intro x
  induction x with
  | nil => intro y h; cases y with | nil => rfl | cons _ _ => cases h
  | cons a l ih =>
    intro y h
    obtain ⟨b, r, rfl, h1, h2, h3, h4⟩ := entsEq_cons h
    rw [ih h4]
    congr 1
    obtain ⟨ak, av, ab⟩ := a
    obtain ⟨bk, bv, bb⟩ := b
    simp only at h1 h2 h3
    rw [h1, plainEq_eq h2, plainEq_eq h3]
/-- an entry, by its place, on both sides -/
theorem ents_at {m : Mp} {since : Nat} : ∀ {es es0 : List AE} {es' : List MapEntry} {j : Nat} {e : AE}, ERs m es es' → entsOk since es = true → entsEq es es0 = true → es0[j]? = some e →
    ∃ e', es'[j]? = some e' ∧ es'.find? (·.born == e.born) = some e' ∧ VR m e.k e'.key ∧ VR m e.v e'.val ∧ plainA e.k = true ∧ plainA e.v = true := by
  intro es es0 es' j e he hok heq hj
  obtain rfl := entsEq_eq heq
  clear heq
  induction he generalizing j with
  | nil => cases hj
  | cons a a' l l' ha hl ih =>
    obtain ⟨h1, h2, h3, h4, h5⟩ := entsOk_cons hok
    cases j with
    | zero =>
      cases hj
      exact ⟨a', rfl, by rw [List.find?_cons]; simp [ha.born], ha.k, ha.v, h1, h2⟩
    | succ j =>
      rw [List.getElem?_cons_succ] at hj
      obtain ⟨e', g1, g2, g3⟩ := ih h5 hj
      refine ⟨e', g1, ?_, g3⟩
      have hne := h4 e (List.mem_of_getElem? hj)
      rw [List.find?_cons, show (a'.born == e.born) = false from beq_eq_false_iff_ne.2 (by rw [← ha.born]; exact hne)]
      exact g2
theorem rd_entry {o : Oper} {x : Operand} {x' : Opd} (ho : o.op = .entry x) (hx : OR x' x) : RdOk P o (k_entry x') := by
  intro B m N t s a w v r ht h
  have hx := hx m N t a ht
  unfold k_entry entryA at h
  split at h
  · rename_i id ex
    rw [ex] at hx
    generalize hv : a.eval x = y at hx
    cases hx with
    | ptr _ _ ad hr =>
    split at h
    · rename_i mid since seen stepped hs
      split at h
      · rename_i es clock hms
        obtain ⟨b, C, sz, ob, _, hl, hh, hbr⟩ := r.live hr.ne hs (by intro h; cases h)
        obtain rfl := hr.eq hl
        cases hbr with
        | iter _ mb _ _ seen' _ hmr hse =>
          obtain ⟨b2, C2, sz2, ob2, _, hl2, hh2, hbr2⟩ := r.live hmr.ne hms (by intro h; cases h)
          unfold MR at hmr; rw [hl2] at hmr; simp only at hmr; subst hmr
          cases hbr2 with
          | map _ es' _ he =>
            rw [beq_nat] at h
            by_cases hck : clock = stepped
            · subst hck
              simp only [beq_self_eq_true, cond_true] at h
              split at h
              · rename_i q rest
                unfold entry1 at h
                split at h
                · rename_i e hb
                  cases h
                  obtain ⟨e', g1, g2⟩ := bornA_some he hb
                  have hback : seen'.back? = some q := by
                    rw [← Array.getLast?_toList, hse]; simp
                  refine ⟨.tuple #[e'.key, e'.val], .tup _ _ (.cons _ _ _ _ g2.k (.cons _ _ _ _ g2.v .nil)), ?_⟩
                  have hfind : es'.find? (·.born == q) = some e' := by rw [← Array.find?_toList]; exact g1
                  simp [execOp, ho, hv, Instr.entry, getObj, Sem.run, hh, hh2, hback, hfind]
                · cases h
              · cases h
            · rw [show (clock == stepped) = false from beq_eq_false_iff_ne.2 hck] at h; cases h
      · cases h
    · rename_i mid since es0 vs stepped hs
      split at h
      · rename_i es clock hms
        obtain ⟨b, C, sz, ob, _, hl, hh, hbr⟩ := r.live hr.ne hs (by intro h; cases h)
        obtain rfl := hr.eq hl
        cases hbr with
        | iterN _ mb _ _ _ js seen' _ hmr hj hse hd =>
          obtain ⟨b2, C2, sz2, ob2, _, hl2, hh2, hbr2⟩ := r.live hmr.ne hms (by intro h; cases h)
          unfold MR at hmr; rw [hl2] at hmr; simp only at hmr; subst hmr
          cases hbr2 with
          | map _ es' _ he =>
            unfold entryN at h
            cases hcond : (Nat.beq clock stepped && entsOk since es && entsEq es es0) with
            | false => rw [hcond] at h; cases h
            | true =>
              rw [hcond] at h
              simp only [cond_true] at h
              simp only [Bool.and_eq_true, beq_nat, beq_iff_eq] at hcond
              obtain ⟨⟨rfl, hok⟩, heq⟩ := hcond
              cases hd with
              | nil => cases h
              | cons i vs j js e0 x0 y0 hj0 hx0 hy0 mi mj hd =>
                simp only [varsE, Option.some.injEq] at h
                subst h
                obtain ⟨e', g1, g2, g3⟩ := ents_at he hok heq hj0
                have hback : seen'.back? = some e0.born := by
                  rw [← Array.getLast?_toList, hse, List.reverse_cons, List.map_append, List.map_cons, List.map_nil, List.getLast?_append]
                  simp [bornAt, hj0]
                obtain ⟨p1, p2, p3⟩ := g3
                have e1 : e'.key = x0 := plain_one p1 p3.1 hx0
                have e2 : e'.val = y0 := plain_one p2 p3.2 hy0
                have hpx : plainX x0 = true := plain_x p3.1 hx0
                have hpy : plainX y0 = true := plain_x p3.2 hy0
                refine ⟨.tuple #[e'.key, e'.val], .tup _ _ (.cons _ _ _ _ (by rw [e1]; exact .var _ _ _ mi hpx hr.ne) (.cons _ _ _ _ (by rw [e2]; exact .var _ _ _ mj hpy hr.ne) .nil)), ?_⟩
                have hfind : es'.find? (·.born == e0.born) = some e' := by rw [← Array.find?_toList]; exact g2
                simp [execOp, ho, hv, Instr.entry, getObj, Sem.run, hh, hh2, hback, hfind]
      · cases h
    · cases h
  · cases h

/-! ### a new block -/
def AlOk (P : Program) (o : Oper) (f : T AV → Option (ABlk × AK)) : Prop :=
  ∀ (m : Mp) (N : Nat) (t : T AV) (a : Act) (x : ABlk) (k : AK) (w : World), TR m N t a.tmps → f t = some (x, k) →
    ∃ ob C sz v' w', (execOp a.eval o).run P w = .ok (.value v') w' ∧ w'.heap = w.heap.push ob ∧ w'.os = w.os ∧ w'.tape = w.tape ∧ w'.output = w.output ∧
      BR P m C sz x ob ∧ ∀ m' id, m' id = .live w.heap.size C sz → VR m' (k.val id) v'
theorem vr_ptr {m : Mp} {id b C sz : Nat} (h : m id = .live b C sz) : VR m (.ptr id 0) (.pointer (some ⟨b, 0, none⟩)) := .ptr _ _ _ (by unfold AR; rw [h])
theorem br_row {m : Mp} {c : List AV} {e : TypeId} {o : Bool} {arr : Array Value} (h : VRs m c arr.toList) : BR P m arr.size (P.cellsOf e) (.cells c e o) (.cells arr e) :=
  .cells c e o arr 0 0 rfl rfl (Nat.le_of_eq h.size) (fun _ => h.size) (by rw [h.size, ← Array.length_toList, List.take_length]; exact h) (fun i _ hh => Nat.not_lt_zero _ hh.2) (.inr (Nat.le_refl _))
theorem al_alloc {o : Oper} {e : TypeId} {z : AV} (ho : o.op = .alloc e) (hz : zeroA P e = some z) : AlOk P o (k_alloc e z) := by
  intro m N t a x k w ht h
  cases h
  obtain ⟨z', hz1, hz2⟩ := run_zeroAll hz
  exact ⟨.cells z'.cells e, _, _, _, w.alloc (.cells z'.cells e), by simp [execOp, ho, Instr.alloc, hz1, newVar, newRow], rfl, rfl, rfl, rfl, br_row (VR.of hz2).cells, fun m' id h => vr_ptr h⟩
theorem al_box {o : Oper} {e : TypeId} {y : Operand} {y' : Opd} (ho : o.op = .box e y) (hy : OR y' y) : AlOk P o (k_box e y') := by
  intro m N t a x k w ht h
  cases h
  exact ⟨.cells (a.eval y).cells e, _, _, _, w.alloc (.cells (a.eval y).cells e), by simp [execOp, ho, Instr.box, newVar, newRow], rfl, rfl, rfl, rfl, br_row (hy m N t a ht).cells, fun m' id h => vr_ptr h⟩
theorem rep_length {α : Type} (z : List α) (n : Nat) : (rep n z).length = n * z.length := by
  induction n with
  | zero => show ([] : List α).length = _; simp
  | succ n ih => show (lapp z (rep n z)).length = _; rw [lapp_eq, List.length_append, ih, Nat.add_mul]; omega
theorem rep_nth {α : Type} (z : List α) : ∀ (n i : Nat), i < n * z.length → (rep n z)[i]? = z[i % z.length]? := by
  intro n
  induction n with
  | zero => intro i h; omega
  | succ n ih =>
    intro i h
    show (lapp z (rep n z))[i]? = _
    rw [lapp_eq]
    by_cases hi : i < z.length
    · rw [List.getElem?_append_left hi, Nat.mod_eq_of_lt hi]
    · rw [List.getElem?_append_right (by omega), ih (i - z.length) (by rw [Nat.add_mul] at h; omega)]
      congr 1
      rw [Nat.mod_eq_sub_mod (show i ≥ z.length by omega)]
theorem rep_vrs {m : Mp} {z : List AV} {zero : Array Value} (h : VRs m z zero.toList) (n : Nat) : VRs m (rep n z) ((Array.range (n * z.length)).map (zero[· % zero.size]!)).toList := by
  refine VRs.ofNth (by rw [rep_length]; simp) fun i v hi => ?_
  have hlt : i < n * z.length := by
    have := (List.getElem?_eq_some_iff.1 hi).1
    rwa [rep_length] at this
  rw [rep_nth z n i hlt] at hi
  obtain ⟨v', h1, h2⟩ := h.nth hi
  refine ⟨v', ?_, h2⟩
  have hsz := h.size
  rw [Array.getElem?_toList, Array.getElem?_map]
  rw [Array.getElem?_range]
  rw [if_pos hlt]
  rw [Array.getElem?_toList] at h1
  simp only [Option.map_some, Option.some.injEq]
  rw [← hsz, getElem!_def, h1]
theorem vrs_none (m : Mp) : VRs m [] ((Array.range 0).map fun x => (#[] : Array Value)[x % (#[] : Array Value).size]!).toList := by
  have : ((Array.range 0).map fun x => (#[] : Array Value)[x % (#[] : Array Value).size]!).toList = [] := by simp
  rw [this]; exact .nil
theorem modify_push {α : Type} (xs : Array α) (x : α) (f : α → α) : (xs.push x).modify xs.size f = xs.push (f x) := by
  apply Array.ext_getElem?
  intro i
  rw [Array.getElem?_modify, Array.getElem?_push, Array.getElem?_push]
  by_cases h : i = xs.size
  · subst h; simp
  · rw [if_neg (fun e => h e.symm), if_neg h, if_neg h]
theorem al_bs {o : Oper} {ty e : TypeId} {len : Nat} {ps : Array (Nat × Operand)} {ps' : List (Nat × Opd)} {z : AV} (ho : o.op = .buildSlice ty len ps) (hp : OPs ps' ps.toList) (hu : P.underlying ty = some (.slice e)) (hz : zeroA P e = some z)
    (hs : P.cellsOf e ≠ 0) (hzl : z.cells.length = P.cellsOf e) (hle : len * P.cellsOf e ≤ 16777216) : AlOk P o (k_bs e (P.cellsOf e) len (rep len z.cells) ps') := by
  intro m N t a x k w ht h
  unfold k_bs bsA at h
  split at h
  · rename_i c hc
    cases h
    obtain ⟨z', hz1, hz2⟩ := run_zeroAll hz
    have hzc := (VR.of (m := m) hz2).cells
    have hzero : ∃ zero : Array Value, ((len * P.cellsOf e = 0 ∧ zero = #[]) ∨ (len * P.cellsOf e ≠ 0 ∧ zero = z'.cells)) ∧
        VRs m (rep len z.cells) ((Array.range (len * P.cellsOf e)).map (zero[· % zero.size]!)).toList := by
      by_cases h0 : len * P.cellsOf e = 0
      · refine ⟨#[], .inl ⟨h0, rfl⟩, ?_⟩
        rw [h0]
        have : len = 0 := by
          rcases Nat.mul_eq_zero.1 h0 with h | h
          · exact h
          · exact absurd h hs
        subst this
        exact vrs_none m
      · refine ⟨z'.cells, .inr ⟨h0, rfl⟩, ?_⟩
        have := rep_vrs hzc len
        rwa [hzl] at this
    obtain ⟨zero, g1, g2⟩ := hzero
    obtain ⟨r', k1, k2, k3⟩ := fillA_run (hp.ev ht) g2 hc
    have hpf : (fun i => some (i * P.cellsOf e, P.cellsOf e)) = placeE (P.cellsOf e) := rfl
    refine ⟨.cells r' e, _, _, .slice (some ⟨w.heap.size, 0, none⟩) len len, w.alloc (.cells r' e), ?_, rfl, rfl, rfl, rfl, br_row k2, fun m' id h => ?_⟩
    · simp only [execOp, ho, Instr.buildSlice, Sem.run_bind, run_under hu, Result.andThen_ok, run_size (info_of_cells hs)]
      rw [if_neg (by have : (2 : Nat) ^ 24 = 16777216 := by decide
                     omega)]
      rcases g1 with ⟨g0, rfl⟩ | ⟨g0, rfl⟩
      · rw [if_pos g0]
        simp only [Sem.run_bind, Sem.run_pure, Result.andThen_ok, hpf, map_pairs, k1, newRow, run_newObj]
        rfl
      · rw [if_neg g0]
        simp only [Sem.run_bind, Sem.run_pure, Result.andThen_ok, hz1, hpf, map_pairs, k1, newRow, run_newObj]
        rfl
    · exact .sl _ _ _ _ _ _ (by unfold AR; rw [h]) (Nat.le_refl _) (fun k hk => by cases hk; rfl) (fun hk => by cases hk)
  · cases h
theorem al_mm {o : Oper} {ty : TypeId} (ho : o.op = .makeMap ty none) : AlOk P o k_mm := by
  intro m N t a x k w ht h
  cases h
  exact ⟨.map #[] 0, 0, 0, .map (some w.heap.size), w.alloc (.map #[] 0), by simp [execOp, ho, Instr.makeMap], rfl, rfl, rfl, rfl, .map _ _ _ .nil, fun m' id h => .mp _ _ (by unfold MR; rw [h])⟩
theorem al_ms {o : Oper} {ty e : TypeId} {l c : Operand} {l' c' : Opd} {z : AV} (ho : o.op = .makeSlice ty l c) (hl : OR l' l) (hc : OR c' c) (hu : P.underlying ty = some (.slice e)) (hz : zeroA P e = some z)
    (hs : P.cellsOf e ≠ 0) (hzl : z.cells.length = P.cellsOf e) : AlOk P o (k_ms e (P.bytesOf e) z.cells l' c') := by
  intro m N t a x k w ht h
  have hl := hl m N t a ht
  have hc := hc m N t a ht
  unfold k_ms msA at h
  split at h
  · rename_i L K el ec
    rw [el] at hl; rw [ec] at hc
    generalize hvl : a.eval l = y at hl
    generalize hvc : a.eval c = y2 at hc
    cases hl; cases hc
    rw [ble_nat, ble_nat, ble_nat] at h
    by_cases hb : L ≤ K ∧ P.bytesOf e * K ≤ 1048576 ∧ K ≤ 1048576
    · obtain ⟨b1, b2, b3⟩ := hb
      rw [decide_eq_true b1, decide_eq_true b2, decide_eq_true b3] at h
      cases h
      obtain ⟨z', hz1, hz2⟩ := run_zeroAll hz
      have hzc := (VR.of (m := m) hz2).cells
      obtain ⟨i, hi⟩ := Option.isSome_iff_exists.1 (info_of_cells hs)
      have hby : i.bytes = P.bytesOf e := by simp [Program.bytesOf, hi]
      have hzero : ∃ zero : Array Value, ((K * P.cellsOf e = 0 ∧ zero = #[]) ∨ (K * P.cellsOf e ≠ 0 ∧ zero = z'.cells)) ∧
          VRs m (rep K z.cells) ((Array.range (K * P.cellsOf e)).map (zero[· % zero.size]!)).toList := by
        by_cases h0 : K * P.cellsOf e = 0
        · refine ⟨#[], .inl ⟨h0, rfl⟩, ?_⟩
          rw [h0]
          have : K = 0 := by
            rcases Nat.mul_eq_zero.1 h0 with h | h
            · exact h
            · exact absurd h hs
          subst this
          exact vrs_none m
        · refine ⟨z'.cells, .inr ⟨h0, rfl⟩, ?_⟩
          have := rep_vrs hzc K
          rwa [hzl] at this
      obtain ⟨zero, g1, g2⟩ := hzero
      have wl : IntKind.i64.wrap (Int.ofNat L) = (L : Int) := by
        rw [← wrapK_eq]; simp only [wrapK]; rw [wrapS_eq _ _ (by omega)]
        rw [Int.ofNat_eq_natCast, Int.emod_eq_of_lt (by omega) (by omega), if_neg (by omega)]
      have wc : IntKind.i64.wrap (Int.ofNat K) = (K : Int) := by
        rw [← wrapK_eq]; simp only [wrapK]; rw [wrapS_eq _ _ (by omega)]
        rw [Int.ofNat_eq_natCast, Int.emod_eq_of_lt (by omega) (by omega), if_neg (by omega)]
      have hb2 : (P.bytesOf e : Int) * (K : Int) ≤ 1048576 := by
        have : ((P.bytesOf e * K : Nat) : Int) ≤ 1048576 := by omega
        rwa [Int.natCast_mul] at this
      refine ⟨.cells ((Array.range (K * P.cellsOf e)).map (zero[· % zero.size]!)) e, _, _, .slice (some ⟨w.heap.size, 0, none⟩) L K, w.alloc _, ?_, rfl, rfl, rfl, rfl, br_row g2, fun m' id h => ?_⟩
      · simp only [execOp, ho, hvl, hvc, Instr.makeSlice, Sem.run_bind, run_under hu, Result.andThen_ok, asInt, asIntOf, Sem.run_pure, run_info hi, hby, wl, wc]
        have t1 : (decide ((K : Int) < 0) || decide ((P.bytesOf e : Int) * (K : Int) > 2 ^ 48)) = false := by
          have : (2 : Int) ^ 48 = 281474976710656 := by decide
          rw [this]
          simp; omega
        rw [t1]
        have t2 : ¬ ((false || decide ((L : Int) < 0) || decide ((L : Int) > (K : Int))) = true) := by simp; omega
        rw [if_neg t2]
        simp only [Sem.run_bind, run_askRoom, Result.andThen_ok, run_size (info_of_cells hs), Int.toNat_natCast]
        rcases g1 with ⟨g0, rfl⟩ | ⟨g0, rfl⟩
        · rw [if_pos g0]
          simp only [Sem.run_bind, Sem.run_pure, Result.andThen_ok, newRow, run_newObj]
          rfl
        · rw [if_neg g0]
          simp only [Sem.run_bind, Sem.run_pure, Result.andThen_ok, hz1, newRow, run_newObj]
          rfl
      · exact .sl _ _ _ _ _ _ (by unfold AR; rw [h]) b1 (fun k hk => by cases hk; rfl) (fun hk => by cases hk)
    · exfalso
      have : (decide (L ≤ K) && decide (P.bytesOf e * K ≤ 1048576) && decide (K ≤ 1048576)) = false := by
        rw [Bool.eq_false_iff]; intro hh; simp only [Bool.and_eq_true, decide_eq_true_eq] at hh; exact hb ⟨hh.1.1, hh.1.2, hh.2⟩
      rw [this] at h; cases h
  · cases h
theorem al_s2b {o : Oper} {src dst e : TypeId} {y : Operand} {y' : Opd} (ho : o.op = .convert src dst y) (hy : OR y' y) (hs : P.underlying src = some .string) (hd : P.underlying dst = some (.slice e)) (he : P.underlying e = some (.int .u8)) (h1 : P.cellsOf e = 1) :
    AlOk P o (k_s2b e y') := by
  intro m N t a x k w ht h
  have hy := hy m N t a ht
  unfold k_s2b s2bA at h
  split at h
  · rename_i b ex
    rw [ex] at hy
    generalize hv : a.eval y = q at hy
    cases hy with
    | str _ bs hb =>
    cases h
    subst hb
    obtain ⟨cap, hcap, hge⟩ : ∃ cap, cap = (Question.appendCap bs.size 0 e).cut (w.tape w.drawn (.appendCap bs.size 0 e)) ∧ bs.size ≤ cap := ⟨_, rfl, by simp [Question.cut]⟩
    let arr : Array Value := bs.data.map (fun b => Value.int .u8 b.toNat) ++ Array.replicate (cap - bs.size) (.int .u8 0)
    have hsz : arr.size = cap := by
      show (bs.data.map _ ++ Array.replicate _ _).size = cap
      rw [Array.size_append, Array.size_map, Array.size_replicate]
      show bs.size + _ = _
      omega
    refine ⟨.cells arr e (cap, cap + 1), cap, P.cellsOf e, .slice (some ⟨w.heap.size, 0, none⟩) bs.size cap, { w with heap := w.heap.push (.cells arr e (cap, cap + 1)), drawn := w.drawn + 1 }, ?_, rfl, rfl, rfl, rfl, ?_, fun m' id h => ?_⟩
    · simp only [execOp, ho, hv, convert, Sem.run_bind, run_under hs, run_under hd, run_under he, Result.andThen_ok, Conv.stringToBytes]
      have hf : (Question.appendCap bs.size 0 e).forced = false := rfl
      simp only [choose, Sem.run, hf, Bool.false_eq_true, if_false, Result.andThen_ok, ← hcap, newRow, newObj, markStringish, shape, freeze, Sem.run_bind]
      have hshape : ({ w with heap := w.heap.push (.cells arr e), drawn := w.drawn + 1 } : World).shape? w.heap.size = some (e, cap) := by
        simp [World.shape?, hsz]
      change (((Sem.run P (do
          let x ← Sem.shape w.heap.size Sem.pure
          match x with
          | some (_, n) => Sem.freeze { block := w.heap.size, off := n } 1 (Sem.pure ())
          | _ => pure ()) { w with heap := w.heap.push (.cells arr e), drawn := w.drawn + 1 }).andThen _).andThen _) = _
      simp only [Sem.run_bind, Sem.run, hshape, Result.andThen_ok, World.freeze]
      rw [if_neg (by decide), modify_push]
      simp only [Sem.run_pure, Result.andThen_ok]
      rfl
    · refine .cells _ e true arr cap (cap + 1) hsz rfl ?_ (by intro h; cases h) ?_ (fun i hi hh => by omega) (.inl he)
      · rw [lmap_eq, List.length_map, bytes_len]; exact hge
      · rw [lmap_eq, List.length_map, bytes_len]
        have : arr.toList.take bs.size = bs.data.toList.map fun b => Value.int .u8 b.toNat := by
          show (bs.data.map _ ++ Array.replicate _ _).toList.take bs.size = _
          rw [Array.toList_append, Array.toList_map, List.take_left']
          rw [List.length_map, Array.length_toList]; rfl
        rw [this]
        generalize bs.data.toList = l
        induction l with
        | nil => exact .nil
        | cons u l ih => exact .cons _ _ _ _ (.int _ _) ih
    · show VR m' (.sl id 0 (llen (List.map UInt8.toNat bs.data.toList)) none) _
      rw [llen_eq, bytes_len]
      refine .sl _ _ _ _ _ _ (by unfold AR; rw [h]) hge (fun k hk => by cases hk) (fun _ => ?_)
      unfold CR; rw [h]; simp only; rw [h1]; omega
  · cases h
end Go.Ab
