/- THE ABSTRACT EVALUATOR: what only computes, on both sides: places, parts, conversions. -/
import Derived.Test.YtpangpggplacoaaGreatAbSim2
namespace Go.Ab
variable {P : Program}

theorem pu_nil {o : Oper} {x : Operand} {x' : Opd} (ho : o.op = .nilCheck x) (hx : OR x' x) : PuOk P o (k_nil x') := by
  intro m N t a v ht h
  have hx := hx m N t a ht
  unfold k_nil nilA at h
  split at h
  · rename_i e; rw [e] at hx; cases h
    cases hv : a.eval x <;> rw [hv] at hx <;> cases hx
    rename_i ad hr
    exact ⟨_, .ptr _ _ _ hr, fun w => by simp [execOp, ho, hv]⟩
  · rename_i f b c e; rw [e] at hx; cases h
    cases hv : a.eval x <;> rw [hv] at hx <;> cases hx
    rename_i g x' y' h1 h2 h3
    cases g <;> first | exact h1.elim | skip
    exact ⟨_, .fn _ _ _ _ _ _ h1 h2 h3, fun w => by simp [execOp, ho, hv]⟩
  · rename_i f b c e; rw [e] at hx; cases h
    cases hv : a.eval x <;> rw [hv] at hx <;> cases hx
    rename_i g x' y' h1 h2 h3
    cases g <;> first | exact h1.elim | skip
    exact ⟨_, .fn _ _ _ _ _ _ h1 h2 h3, fun w => by simp [execOp, ho, hv]⟩
  · cases h
theorem AR.add {m : Mp} {id off : Nat} {a : Addr} (h : AR m id off a) (n : Nat) : AR m id (off + n) (a.add n) := by
  unfold AR at *
  cases hm : m id with
  | un => rw [hm] at h; exact h.elim
  | dead => trivial
  | val x => rw [hm] at h; exact h.elim
  | live b C sz =>
    rw [hm] at h; simp only at h; subst h
    simp only [Addr.add]
    by_cases hn : n = 0
    · subst hn; simp
    · rw [if_neg hn]
theorem pu_fa {o : Oper} {ty : TypeId} {x : Operand} {x' : Opd} {f : Nat} {fs : Array Field} {fl : Field} (ho : o.op = .fieldAddr ty x f) (hx : OR x' x)
    (hu : P.underlying ty = some (.struct fs)) (hf : fs[f]? = some fl) (hs : P.cellsOf fl.type ≠ 0) : PuOk P o (k_fa fl.offset x') := by
  intro m N t a v ht h
  have hx := hx m N t a ht
  unfold k_fa faA at h
  split at h
  · rename_i e; rw [e] at hx; cases h
    cases hv : a.eval x <;> rw [hv] at hx <;> cases hx
    rename_i ad hr
    exact ⟨_, .ptr _ _ _ (hr.add fl.offset), fun w => by
      simp [execOp, ho, hv, Instr.fieldAt, run_under hu, hf, Instr.sureAddr, fieldPlace, run_size (info_of_cells hs), hs]⟩
  · cases h
/-- a part of some cells -/
theorem run_part {m : Mp} {cs : List AV} {cs' : Array Value} (hv : VRs m cs cs'.toList) {ty : TypeId} {d : TypeDesc} (hd : P.underlying ty = some d) {off : Nat} {v : AV}
    (h : partA (aggT P ty) (P.cellsOf ty) cs off = some v) : ∃ v', VR m v v' ∧ ∀ w, (part ty cs' off).run P w = .ok v' w := by
  unfold partA at h
  cases hg : aggT P ty with
  | true =>
    rw [hg] at h
    simp only [cond_true] at h
    split at h
    · rename_i l hl
      cases h
      obtain ⟨h1, h2, h3⟩ := seg_some hl
      refine ⟨.agg (cs'.extract off (off + P.cellsOf ty)), .agg _ _ ?_, fun w => ?_⟩
      · rw [Array.toList_extract, List.extract_eq_take_drop, Nat.add_sub_cancel_left, h1]
        exact (hv.drop off).take _
      · simp [part, run_isAgg hd, hg, run_size (info_of_under hd)]
    · cases h
  | false =>
    rw [hg] at h
    simp only [cond_false, lnth_eq] at h
    obtain ⟨v', h1, h2⟩ := hv.nth h
    refine ⟨v', h2, fun w => ?_⟩
    rw [Array.getElem?_toList] at h1
    simp [part, run_isAgg hd, hg, h1]
theorem pu_field {o : Oper} {ty : TypeId} {x : Operand} {x' : Opd} {f : Nat} {fs : Array Field} {fl : Field} {d : TypeDesc} (ho : o.op = .field ty x f) (hx : OR x' x)
    (hu : P.underlying ty = some (.struct fs)) (hf : fs[f]? = some fl) (hd : P.underlying fl.type = some d) : PuOk P o (k_field (aggT P fl.type) (P.cellsOf fl.type) fl.offset x') := by
  intro m N t a v ht h
  have hx := hx m N t a ht
  unfold k_field fieldA at h
  split at h
  · rename_i e; rw [e] at hx
    cases hv : a.eval x <;> rw [hv] at hx <;> cases hx
    rename_i hr
    obtain ⟨v', h1, h2⟩ := run_part hr hd h
    exact ⟨v', h1, fun w => by simp [execOp, ho, hv, Instr.field, run_under hu, hf, asAgg, h2]⟩
  · cases h
theorem pu_inda {o : Oper} {ty e : TypeId} {n : Nat} {x i : Operand} {x' i' : Opd} {d : TypeDesc} (ho : o.op = .index ty x i) (hx : OR x' x) (hi : OR i' i)
    (hu : P.underlying ty = some (.array n e)) (hd : P.underlying e = some d) : PuOk P o (k_inda (aggT P e) (P.cellsOf e) n x' i') := by
  intro m N t a v ht h
  have hx := hx m N t a ht
  have hi := hi m N t a ht
  unfold k_inda indArrA at h
  split at h
  · rename_i cs k j ex ei
    rw [ex] at hx; rw [ei] at hi
    rw [blt_nat] at h
    by_cases hj : j < n
    · rw [decide_eq_true hj] at h
      simp only [cond_true] at h
      cases hvx : a.eval x <;> rw [hvx] at hx <;> cases hx
      cases hvi : a.eval i <;> rw [hvi] at hi <;> cases hi
      rename_i hr
      obtain ⟨v', h1, h2⟩ := run_part hr hd h
      refine ⟨v', h1, fun w => ?_⟩
      have e1 : ((Int.ofNat j).toNat * P.cellsOf e) = j * P.cellsOf e := rfl
      have e2 : (0 : Int) ≤ Int.ofNat j ∧ Int.ofNat j < (n : Int) := by simp only [Int.ofNat_eq_natCast]; omega
      simp only [execOp, ho, hvx, hvi, Instr.index, asIntOf, Sem.run_bind, Sem.run_pure, Result.andThen_ok, run_under hu, if_pos e2, run_size (info_of_under hd), e1, h2]
    · rw [decide_eq_false hj] at h; cases h
  · cases h
theorem pu_ia_arr {o : Oper} {ty e : TypeId} {n : Nat} {x i : Operand} {x' i' : Opd} (ho : o.op = .indexAddr ty x i) (hx : OR x' x) (hi : OR i' i)
    (hu : P.underlying ty = some (.array n e)) (hs : P.cellsOf e ≠ 0) : PuOk P o (k_ia (P.cellsOf e) (some n) x' i') := by
  intro m N t a v ht h
  have hx := hx m N t a ht
  have hi := hi m N t a ht
  unfold k_ia idxA at h
  split at h
  · rename_i id off k j ex ei
    rw [ex] at hx; rw [ei] at hi
    cases hvx : a.eval x <;> rw [hvx] at hx <;> cases hx
    cases hvi : a.eval i <;> rw [hvi] at hi <;> cases hi
    rename_i ad hr
    simp only [blt_nat] at h
    by_cases hj : j < n
    · rw [decide_eq_true hj] at h; cases h
      refine ⟨_, .ptr _ _ _ (hr.add (j * P.cellsOf e)), fun w => ?_⟩
      have h1 : (0 : Int) ≤ Int.ofNat j ∧ Int.ofNat j < (n : Int) := ⟨by simp, by simp only [Int.ofNat_eq_natCast]; omega⟩
      have h2 : (Int.ofNat j).toNat = j := rfl
      simp [execOp, ho, hvx, hvi, Instr.indexAt, asIntOf, run_under hu, Instr.sureAddr, run_size (info_of_cells hs), hj]
    · rw [decide_eq_false hj] at h; cases h
  · cases h
  · cases h
theorem pu_ia_sl {o : Oper} {ty e : TypeId} {x i : Operand} {x' i' : Opd} (ho : o.op = .indexAddr ty x i) (hx : OR x' x) (hi : OR i' i)
    (hu : P.underlying ty = some (.slice e)) (hs : P.cellsOf e ≠ 0) : PuOk P o (k_ia (P.cellsOf e) none x' i') := by
  intro m N t a v ht h
  have hx := hx m N t a ht
  have hi := hi m N t a ht
  unfold k_ia idxA at h
  split at h
  · cases h
  · rename_i id off len cap k j ex ei
    rw [ex] at hx; rw [ei] at hi
    cases hvx : a.eval x <;> rw [hvx] at hx <;> cases hx
    cases hvi : a.eval i <;> rw [hvi] at hi <;> cases hi
    rename_i ad c hr hl hc hcu
    simp only [blt_nat] at h
    by_cases hj : j < len
    · rw [decide_eq_true hj] at h; cases h
      refine ⟨_, .ptr _ _ _ (hr.add (j * P.cellsOf e)), fun w => ?_⟩
      simp [execOp, ho, hvx, hvi, Instr.indexAt, asIntOf, run_under hu, run_size (info_of_cells hs), hj]
    · rw [decide_eq_false hj] at h; cases h
  · cases h
theorem pu_ind {o : Oper} {ty : TypeId} {x i : Operand} {x' i' : Opd} (ho : o.op = .index ty x i) (hx : OR x' x) (hi : OR i' i)
    (hu : P.underlying ty = some .string) : PuOk P o (k_ind x' i') := by
  intro m N t a v ht h
  have hx := hx m N t a ht
  have hi := hi m N t a ht
  unfold k_ind indA at h
  split at h
  · rename_i s k j ex ei
    rw [ex] at hx; rw [ei] at hi
    cases hvx : a.eval x <;> rw [hvx] at hx <;> cases hx
    cases hvi : a.eval i <;> rw [hvi] at hi <;> cases hi
    rename_i bs hb
    rw [lnth_eq] at h
    split at h
    · rename_i b hbj
      cases h
      refine ⟨_, .int .u8 _, fun w => ?_⟩
      rw [← hb, List.getElem?_map] at hbj
      cases hq : bs.data.toList[j]? with
      | none => rw [hq] at hbj; cases hbj
      | some u =>
        rw [hq] at hbj; cases hbj
        have hlt : j < bs.size := by
          have := (List.getElem?_eq_some_iff.1 hq).1
          rwa [Array.length_toList] at this
        have hg : bs[j]? = some u := by
          rw [getElem?_pos bs j hlt]
          have := (List.getElem?_eq_some_iff.1 hq).2
          rw [Array.getElem_toList] at this
          exact congrArg some this
        have h2 : (Int.ofNat j).toNat = j := rfl
        have h1 : (0 : Int) ≤ Int.ofNat j := by simp
        simp only [execOp, ho, hvx, hvi, Instr.index, asIntOf, Sem.run_bind, Sem.run_pure, Sem.run_pure', run_under hu, Result.andThen_ok, if_pos h1, h2, hg]
        rfl
    · cases h
  · cases h
theorem pu_ext {o : Oper} {x : Operand} {x' : Opd} {i : Nat} (ho : o.op = .extract x i) (hx : OR x' x) : PuOk P o (k_ext i x') := by
  intro m N t a v ht h
  have hx := hx m N t a ht
  unfold k_ext extA at h
  split at h
  · rename_i l e; rw [e] at hx
    cases hv : a.eval x <;> rw [hv] at hx <;> cases hx
    rename_i hr
    rw [lnth_eq] at h
    obtain ⟨v', h1, h2⟩ := hr.nth h
    rw [Array.getElem?_toList] at h1
    exact ⟨v', h2, fun w => by simp [execOp, ho, hv, Instr.extract, h1]⟩
  · cases h
theorem pu_un {o : Oper} {op : UnOp} {ty : TypeId} {x : Operand} {x' : Opd} (ho : o.op = .unOp op ty x) (hx : OR x' x) : PuOk P o (k_un op x') := by
  intro m N t a v ht h
  have hx := hx m N t a ht
  unfold k_un unA at h
  split at h
  · rename_i k n e; rw [e] at hx
    cases hv : a.eval x <;> rw [hv] at hx <;> cases hx
    cases h
    exact ⟨_, .int _ _, fun w => by simp [execOp, ho, hv, Op.unary, Op.intArith, wrapK_eq]⟩
  · rename_i e; rw [e] at hx
    cases hv : a.eval x <;> rw [hv] at hx <;> cases hx
    cases h
    exact ⟨_, .bool _, fun w => by simp [execOp, ho, hv, Op.unary]⟩
  · cases h
theorem pu_fn {o : Oper} {f : FuncId} {xs ys : Array Operand} {xs' ys' : List Opd} (ho : o.op = .makeFunc (.func f) xs ys) (hx : OLs xs' xs.toList) (hy : OLs ys' ys.toList) : PuOk P o (k_fn (.func f) xs' ys') := by
  intro m N t a v ht h
  cases h
  refine ⟨_, .fn (.func f) (.func f) _ _ (xs.map a.eval) (ys.map a.eval) rfl ?_ ?_, fun w => by simp [execOp, ho, Instr.makeFunc]⟩
  · rw [Array.toList_map]; exact hx.ev ht
  · rw [Array.toList_map]; exact hy.ev ht
theorem pu_if {o : Oper} {ty : TypeId} {x : Operand} {x' : Opd} {d : TypeDesc} (ho : o.op = .makeInterface ty x) (hx : OR x' x) (hu : P.underlying ty = some d) (hd : ∀ ms, d ≠ .interface ms) : PuOk P o (k_if ty x') := by
  intro m N t a v ht h
  cases h
  refine ⟨_, .iface ty _ _ (hx m N t a ht), fun w => ?_⟩
  simp only [execOp, ho, Instr.makeInterface, Sem.run_bind, run_under hu, Result.andThen_ok]
  cases d <;> first | rfl | exact absurd rfl (hd _)
theorem pu_cv {o : Oper} {src dst : TypeId} {x : Operand} {x' : Opd} {k : IntKind} {d : TypeDesc} (ho : o.op = .convert src dst x) (hx : OR x' x) (hs : P.underlying src = some d) (hd : P.underlying dst = some (.int k)) : PuOk P o (k_cv k x') := by
  intro m N t a v ht h
  have hx := hx m N t a ht
  unfold k_cv cvA at h
  split at h
  · rename_i e; rw [e] at hx
    cases hv : a.eval x <;> rw [hv] at hx <;> cases hx
    cases h
    exact ⟨_, .int _ _, fun w => by simp [execOp, ho, hv, convert, run_under hs, run_under hd, Conv.intToInt, wrapK_eq]⟩
  · cases h
theorem pu_str {o : Oper} {src dst : TypeId} {x : Operand} {x' : Opd} (ho : o.op = .convert src dst x) (hx : OR x' x) (hs : P.underlying src = some .string) (hd : P.underlying dst = some .string) : PuOk P o (k_str x') := by
  intro m N t a v ht h
  have hx := hx m N t a ht
  unfold k_str strA at h
  split at h
  · rename_i e; rw [e] at hx
    cases hv : a.eval x <;> rw [hv] at hx <;> cases hx
    rename_i bs hb
    cases h
    exact ⟨_, .str _ _ hb, fun w => by simp [execOp, ho, hv, convert, run_under hs, run_under hd]⟩
  · cases h

theorem VRs.size {m : Mp} {l : List AV} {x : Array Value} (h : VRs m l x.toList) : l.length = x.size := by
  have := h.length
  rw [this]; exact Array.length_toList
/-! ### structs and arrays by value -/
theorem foldl_set (vs : List Value) : ∀ (off i : Nat) (cs : Array Value), (vs.zipIdx i).foldl (fun cs (c, j) => cs.setIfInBounds (off + j) c) cs = (vs.zipIdx i).foldl (fun cs (p : Value × Nat) => cs.setIfInBounds (off + p.2) p.1) cs := by
  intros; rfl
theorem foldl_set_get (vs : List Value) : ∀ (off i : Nat) (cs : Array Value), off + i + vs.length ≤ cs.size →
    ((vs.zipIdx i).foldl (fun cs (p : Value × Nat) => cs.setIfInBounds (off + p.2) p.1) cs).size = cs.size ∧
    ∀ k : Nat, ((vs.zipIdx i).foldl (fun cs (p : Value × Nat) => cs.setIfInBounds (off + p.2) p.1) cs)[k]? = if off + i ≤ k ∧ k < off + i + vs.length then vs[k - (off + i)]? else cs[k]? := by
  induction vs with
  | nil => intro off i cs h; exact ⟨rfl, fun k => by rw [if_neg (by rintro ⟨h1, h2⟩; simp at h2; omega)]; rfl⟩
  | cons v vs ih =>
    intro off i cs h
    simp only [List.zipIdx_cons, List.foldl_cons]
    obtain ⟨h1, h2⟩ := ih off (i + 1) (cs.setIfInBounds (off + i) v) (by simp at h ⊢; omega)
    refine ⟨by rw [h1]; simp, fun k => ?_⟩
    rw [h2 k]
    simp only [List.length_cons] at h ⊢
    by_cases hk : off + (i + 1) ≤ k ∧ k < off + (i + 1) + vs.length
    · rw [if_pos hk, if_pos (by omega)]
      have : k - (off + i) = (k - (off + (i + 1))) + 1 := by omega
      rw [this]; simp
    · rw [if_neg hk]
      by_cases he : k = off + i
      · subst he
        rw [if_pos (by omega), Array.getElem?_setIfInBounds_self_of_lt (by omega)]
        simp
      · rw [if_neg (by omega), Array.getElem?_setIfInBounds_ne (by omega)]
theorem fillA_run {place : Nat → Option (Nat × Nat)} {m : Mp} {ps : List (Nat × AV)} {ps' : List (Nat × Value)} (hp : PRs m ps ps') : ∀ {cells : List AV} {cells' : Array Value} {r : List AV},
    VRs m cells cells'.toList → fillA place ps cells = some r → ∃ r', Instr.fill place cells' ps' = some r' ∧ VRs m r r'.toList ∧ r'.size = cells'.size := by
  induction hp with
  | nil => intro cells cells' r hv h; cases h; exact ⟨cells', rfl, hv, rfl⟩
  | cons i v x l l' hx _ ih =>
    intro cells cells' r hv h
    change bindL (fillA place l) (fill1 v cells (place i)) = some r at h
    unfold fill1 at h
    cases hpl : place i with
    | none => rw [hpl] at h; cases h
    | some q =>
      obtain ⟨off, sz⟩ := q
      rw [hpl] at h
      simp only [llen_eq, beq_nat] at h
      by_cases hc : v.cells.length = sz ∧ sz ≠ 0
      · obtain ⟨hc, h0⟩ := hc
        simp only [hc, beq_self_eq_true, Bool.true_and] at h
        rw [show (sz == 0) = false from beq_eq_false_iff_ne.2 h0] at h
        simp only [Bool.not_false, cond_true] at h
        cases hs : setL off v.cells cells with
        | none => rw [hs] at h; cases h
        | some c =>
          rw [hs] at h
          obtain ⟨s1, s2, s3⟩ := setL_some hs
          have hcl := hx.cells.size
          have hlen := hv.size
          have hfit : off + x.cells.size ≤ cells'.size := by
            rcases s2 with s2 | s2
            · rw [s2] at hc; simp at hc; omega
            · omega
          obtain ⟨g1, g2⟩ := foldl_set_get x.cells.toList off 0 cells' (by rw [Array.length_toList]; omega)
          have hc' : VRs m c ((x.cells.toList.zipIdx.foldl (fun cs (p : Value × Nat) => cs.setIfInBounds (off + p.2) p.1) cells')).toList := by
            refine VRs.ofNth (by rw [s1, hlen, ← g1]; exact Array.length_toList.symm) fun k u hk => ?_
            rw [Array.getElem?_toList, g2 k]
            rw [s3 k] at hk
            have hxl : x.cells.toList.length = x.cells.size := Array.length_toList
            by_cases hr : off ≤ k ∧ k < off + v.cells.length
            · rw [if_pos hr] at hk
              rw [if_pos (by omega)]
              exact hx.cells.nth hk
            · rw [if_neg hr] at hk
              rw [if_neg (by omega)]
              obtain ⟨u', a1, a2⟩ := hv.nth hk
              exact ⟨u', by rw [← Array.getElem?_toList]; exact a1, a2⟩
          obtain ⟨r', k1, k2, k3⟩ := ih hc' h
          refine ⟨r', ?_, k2, by rw [k3, g1]⟩
          simp only [Instr.fill, hpl]
          rw [if_neg (by simp; omega)]
          rw [← Array.toList_zipIdx] at k1
          rw [← Array.foldl_toList]
          exact k1
      · exfalso
        have : ((v.cells.length == sz) && !(sz == 0)) = false := by
          by_cases h1 : v.cells.length = sz
          · have : sz = 0 := Classical.byContradiction fun h0 => hc ⟨h1, h0⟩
            simp [this]
          · simp [h1]
        rw [this] at h
        cases h
theorem run_zeroAll {t : TypeId} {z : AV} (h : zeroA P t = some z) : ∃ v, (∀ w, (zeroValue t).run P w = .ok v w) ∧ AV.of 5 v = some z := by
  unfold zeroA at h
  cases hi : P.info? t with
  | none => rw [hi] at h; cases h
  | some i =>
    rw [hi] at h
    cases hz : i.zero with
    | none => simp [hz] at h
    | some v => simp [hz] at h; exact ⟨v, fun w => by simp [zeroValue, run_info hi, hz], h⟩
theorem map_pairs (a : Act) (ps : Array (Nat × Operand)) : (ps.map fun (i, x) => (i, a.eval x)).toList = ps.toList.map fun p => (p.1, a.eval p.2) := by rw [Array.toList_map]
theorem places_run {fs : Array Field} (h : fs.toList.all (fun f => (P.info? f.type).isSome) = true) (w : World) :
    (fs.mapM fun f => do pure (f.offset, ← sizeOf f.type) : Sem (Array (Nat × Nat))).run P w = .ok (fs.map fun f => (f.offset, P.cellsOf f.type)) w := by
  have key : ∀ (l : List Field), (∀ f ∈ l, (P.info? f.type).isSome = true) → ∀ w, (l.mapM fun f => do pure (f.offset, ← sizeOf f.type) : Sem (List (Nat × Nat))).run P w = .ok (l.map fun f => (f.offset, P.cellsOf f.type)) w := by
    intro l
    induction l with
    | nil => intro _ w; rfl
    | cons f l ih =>
      intro hl w
      rw [List.mapM_cons]
      simp only [Sem.run_bind, run_size (hl f (by simp)), Result.andThen_ok, Sem.run_pure, ih (fun g hg => hl g (by simp [hg])), List.map_cons]
  rw [Array.mapM_eq_mapM_toList]
  simp only [Sem.run_map, key fs.toList (fun f hf => List.all_eq_true.1 h f hf), Result.andThen_ok]
  congr 1
  apply Array.toList_inj.1
  simp
theorem pu_build_struct {o : Oper} {ty : TypeId} {ps : Array (Nat × Operand)} {ps' : List (Nat × Opd)} {fs : Array Field} {z : AV} (ho : o.op = .build ty ps) (hp : OPs ps' ps.toList)
    (hz : zeroA P ty = some z) (hu : P.underlying ty = some (.struct fs)) (hf : fs.toList.all (fun f => (P.info? f.type).isSome) = true) : PuOk P o (k_build (placeF P fs) z ps') := by
  intro m N t a v ht h
  unfold k_build aggO at h
  split at h
  · rename_i c hc
    cases h
    obtain ⟨z', hz3, hz2⟩ := run_zeroAll hz
    obtain ⟨r', h1, h2, _⟩ := fillA_run (hp.ev ht) (VR.of (m := m) hz2).cells hc
    refine ⟨.agg r', .agg _ _ h2, fun w => ?_⟩
    have hpl : (fun i => (fs.map fun f => (f.offset, P.cellsOf f.type))[i]?) = placeF P fs := by
      funext i
      unfold placeF
      rw [Array.getElem?_map]
      cases fs[i]? <;> rfl
    simp only [execOp, ho, Instr.build, Sem.run_bind, hz3, Result.andThen_ok, run_under hu, places_run hf, hpl, map_pairs, h1]
    rfl
  · cases h
theorem pu_build_arr {o : Oper} {ty e : TypeId} {n : Nat} {ps : Array (Nat × Operand)} {ps' : List (Nat × Opd)} {z : AV} (ho : o.op = .build ty ps) (hp : OPs ps' ps.toList)
    (hz : zeroA P ty = some z) (hu : P.underlying ty = some (.array n e)) (hs : P.cellsOf e ≠ 0) : PuOk P o (k_build (placeE (P.cellsOf e)) z ps') := by
  intro m N t a v ht h
  unfold k_build aggO at h
  split at h
  · rename_i c hc
    cases h
    obtain ⟨z', hz3, hz2⟩ := run_zeroAll hz
    obtain ⟨r', h1, h2, _⟩ := fillA_run (hp.ev ht) (VR.of (m := m) hz2).cells hc
    refine ⟨.agg r', .agg _ _ h2, fun w => ?_⟩
    simp only [execOp, ho, Instr.build, Sem.run_bind, hz3, Result.andThen_ok, run_under hu, run_size (info_of_cells hs), map_pairs]
    have : (fun i => some (i * P.cellsOf e, P.cellsOf e)) = placeE (P.cellsOf e) := rfl
    rw [this, h1]
    rfl
  · cases h

/-! ### len of an array, cap, min, max -/
theorem run_call_builtin {o : Oper} {c : Call} {b : Builtin} (ho : o.op = .call c) (hc : c.callee = .builtin b) (a : Act) (w : World) :
    (execOp a.eval o).run P w = (builtin b c.argTypes o.type (c.args.map fun | .const _ => true | _ => false) (c.args.map a.eval)).run P w := by
  simp only [execOp, ho, resolve, hc, Sem.run_bind, Sem.run_pure, Result.andThen_ok, invoke]
  rfl
theorem args_of {c : Call} {a : Act} {l : List Value} (h : c.args.toList.map a.eval = l) : c.args.map a.eval = l.toArray := by
  apply Array.toList_inj.1
  rw [Array.toList_map, h]
theorem tys_get {tys : Array TypeId} {t : TypeId} {r : List TypeId} (h : tys.toList = t :: r) : tys[0]? = some t := by
  rw [← Array.getElem?_toList, h]; rfl
theorem tys_get1 {tys : Array TypeId} {t u : TypeId} {r : List TypeId} (h : tys.toList = t :: u :: r) : tys[1]? = some u := by
  rw [← Array.getElem?_toList, h]; rfl
theorem pu_len_arr {o : Oper} {c : Call} {ty e : TypeId} {n : Nat} {r : List TypeId} {x : Opd} (ho : o.op = .call c) (hc : c.callee = .builtin .len) (ha : OLs [x] c.args.toList) (hty : c.argTypes.toList = ty :: r)
    (hu : P.underlying ty = some (.array n e)) : PuOk P o (k_move (.cst (.int .i64 (.ofNat n)))) := by
  intro m N t a v ht h
  cases h
  have hv := ha.ev ht
  refine ⟨_, .int _ _, fun w => ?_⟩
  cases hl : c.args.toList.map a.eval with
  | nil => rw [hl] at hv; cases hv
  | cons x' l =>
    rw [run_call_builtin ho hc, args_of hl]
    simp [builtin, Builtin.len_, tys_get hty, run_under hu, goInt]
theorem pu_cap {o : Oper} {c : Call} {ty e : TypeId} {r : List TypeId} {x : Opd} (ho : o.op = .call c) (hc : c.callee = .builtin .cap) (ha : OLs [x] c.args.toList) (hty : c.argTypes.toList = ty :: r)
    (hu : P.underlying ty = some (.slice e)) : PuOk P o (k_cap x) := by
  intro m N t a v ht h
  have hv := ha.ev ht
  cases hl : c.args.toList.map a.eval with
  | nil => rw [hl] at hv; cases hv
  | cons x' l =>
    rw [hl] at hv
    cases hv with
    | cons _ _ _ _ hx hr =>
      cases hr
      unfold k_cap capA at h
      split at h
      · rename_i e1
        rw [e1] at hx; cases hx; cases h
        refine ⟨_, .int _ _, fun w => ?_⟩
        rw [run_call_builtin ho hc, args_of hl]
        simp [builtin, Builtin.cap_, tys_get hty, run_under hu, goInt]
      · rename_i e1
        rw [e1] at hx; cases h
        cases hx with
        | sl id off len cap ad c' h1 h2 h3 h4 =>
          obtain rfl := h3 _ rfl
          refine ⟨_, .int _ _, fun w => ?_⟩
          rw [run_call_builtin ho hc, args_of hl]
          simp [builtin, Builtin.cap_, tys_get hty, run_under hu, goInt]
      · cases h
theorem minA_run (mx : Bool) {m : Mp} : ∀ {l : List AV} {l' : List Value} {x v : AV} {x' : Value}, VRs m l l' → VR m x x' → minA mx l x = some v → ∃ v', VR m v v' ∧ ∀ w, (l'.foldlM (if mx then Builtin.max2 else Builtin.min2) x').run P w = .ok v' w := by
  intro l
  induction l with
  | nil => intro l' x v x' hl hx h; cases hl; cases h; exact ⟨x', hx, fun w => rfl⟩
  | cons y l ih =>
    intro l' x v x' hl hx h
    cases hl with
    | cons _ y' _ l' hy hl =>
      change bindV (minA mx l) (min2A mx x y) = some v at h
      cases hq : min2A mx x y with
      | none => rw [hq] at h; cases h
      | some z =>
        rw [hq] at h
        unfold min2A at hq
        split at hq
        · rename_i k i k' j
          cases hk : kbeq k k' with
          | false => rw [hk] at hq; cases hq
          | true =>
            rw [hk] at hq; obtain rfl := kbeq_true hk
            cases hx; cases hy; cases hq
            obtain ⟨v', h1, h2⟩ := ih hl (.int _ _) h
            refine ⟨v', h1, fun w => ?_⟩
            rw [List.foldlM_cons]
            cases mx
            · simp only [cond_false, iblt_eq] at h2
              simp only [Bool.false_eq_true, if_false, Sem.run_bind] at h2 ⊢
              simp only [Builtin.min2, Sem.run_pure, Result.andThen_ok]
              by_cases hlt : j < i
              · simpa [hlt] using h2 w
              · simpa [hlt] using h2 w
            · simp only [cond_true, iblt_eq] at h2
              simp only [if_true, Sem.run_bind] at h2 ⊢
              simp only [Builtin.max2, Sem.run_pure, Result.andThen_ok]
              by_cases hlt : i < j
              · simpa [hlt] using h2 w
              · simpa [hlt] using h2 w
        · cases hq
theorem pu_min {o : Oper} {c : Call} (mx : Bool) {x : Opd} {r : List Opd} (ho : o.op = .call c) (hc : c.callee = .builtin (if mx then .max else .min)) (ha : OLs (x :: r) c.args.toList) : PuOk P o (k_min mx x r) := by
  intro m N t a v ht h
  have hv := ha.ev ht
  cases hl : c.args.toList.map a.eval with
  | nil => rw [hl] at hv; cases hv
  | cons x' l =>
    rw [hl] at hv
    cases hv with
    | cons _ _ _ _ hx hr =>
      obtain ⟨v', h1, h2⟩ := minA_run (P := P) mx hr hx h
      refine ⟨v', h1, fun w => ?_⟩
      rw [run_call_builtin ho hc, args_of hl]
      cases mx
      · have := h2 w; simp at this; simp [builtin, Builtin.min_, this]
      · have := h2 w; simp at this; simp [builtin, Builtin.max_, this]
end Go.Ab
