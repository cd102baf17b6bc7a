/- THE ABSTRACT EVALUATOR: what only computes, on both sides. -/
import Derived.Test.YtpangpggplacoaaGreatAbSim1
import Derived.Laws.Strings
namespace Go.Ab
variable {P : Program}

def PuOk (P : Program) (o : Oper) (f : T AV → Option AV) : Prop :=
  ∀ (m : Mp) (N : Nat) (t : T AV) (a : Act) (v : AV), TR m N t a.tmps → f t = some v → ∃ v', VR m v v' ∧ ∀ w, (execOp a.eval o).run P w = .ok (.value v') w

theorem pu_move {o : Oper} {x : Operand} {x' : Opd} (ho : o.op = .move x) (hx : OR x' x) : PuOk P o (k_move x') := by
  intro m N t a v ht h; cases h; exact ⟨_, hx m N t a ht, fun w => by simp [execOp, ho]⟩
theorem pu_assign {o : Oper} {x : Operand} {x' : Opd} (ho : o.op = .assign x) (hx : OR x' x) : PuOk P o (k_move x') := by
  intro m N t a v ht h; cases h; exact ⟨_, hx m N t a ht, fun w => by simp [execOp, ho]⟩
theorem pu_pick {o : Oper} {c x y : Operand} {c' x' y' : Opd} (ho : o.op = .pick c x y) (hc : OR c' c) (hx : OR x' x) (hy : OR y' y) : PuOk P o (k_pick c' x' y') := by
  intro m N t a v ht h
  unfold k_pick pickA at h
  have hc := hc m N t a ht
  split at h
  · rename_i e; rw [e] at hc; cases h
    cases hv : a.eval c <;> rw [hv] at hc <;> cases hc
    exact ⟨_, hx m N t a ht, fun w => by simp [execOp, ho, hv, asBool]⟩
  · rename_i e; rw [e] at hc; cases h
    cases hv : a.eval c <;> rw [hv] at hc <;> cases hc
    exact ⟨_, hy m N t a ht, fun w => by simp [execOp, ho, hv, asBool]⟩
  · cases h

/-! ### arithmetic -/
theorem run_intOp {op : BinOp} {k : IntKind} {x y : Int} {v : AV} {m : Mp} (h : intOp op k x y = some v) (t : TypeId) :
    ∃ v', VR m v v' ∧ ∀ w, (binOp op t (.int k x) (.int k y)).run P w = .ok v' w := by
  unfold intOp at h
  cases op
  case add => cases h; exact ⟨_, .int _ _, fun w => by simp [binOp, Op.intArith, wrapK_eq]⟩
  case sub => cases h; exact ⟨_, .int _ _, fun w => by simp [binOp, Op.intArith, wrapK_eq]⟩
  case mul => cases h; exact ⟨_, .int _ _, fun w => by simp [binOp, Op.intArith, wrapK_eq]⟩
  case quo =>
    simp only [ibeq_eq] at h
    by_cases hy : y = 0
    · simp [hy] at h
    · simp [hy] at h; subst h; exact ⟨_, .int _ _, fun w => by simp [binOp, Op.intDiv, hy, wrapK_eq]⟩
  case rem =>
    simp only [ibeq_eq] at h
    by_cases hy : y = 0
    · simp [hy] at h
    · simp [hy] at h; subst h; exact ⟨_, .int _ _, fun w => by simp [binOp, Op.intDiv, hy]⟩
  case and => cases h; exact ⟨_, .int _ _, fun w => by simp only [binOp, Op.intBits, wrapK_eq, pat_eq, ne_eq, not_true_eq_false, if_false]; rfl⟩
  case or => cases h; exact ⟨_, .int _ _, fun w => by simp only [binOp, Op.intBits, wrapK_eq, pat_eq, ne_eq, not_true_eq_false, if_false]; rfl⟩
  case xor => cases h; exact ⟨_, .int _ _, fun w => by simp only [binOp, Op.intBits, wrapK_eq, pat_eq, ne_eq, not_true_eq_false, if_false]; rfl⟩
  case andNot =>
    cases h
    refine ⟨_, .int _ _, fun w => ?_⟩
    simp only [binOp, Op.intBits, wrapK_eq, pat_eq, modK_eq, ne_eq, not_true_eq_false, if_false]
    rw [show (BitVec.ofInt k.bits x &&& ~~~BitVec.ofInt k.bits y).toNat = Nat.land (BitVec.ofInt k.bits x).toNat (2 ^ k.bits - 1 - (BitVec.ofInt k.bits y).toNat) by
      rw [BitVec.toNat_and, BitVec.toNat_not]; rfl]
    rfl
  case eql => cases h; exact ⟨_, .bool _, fun w => by simp [binOp, Op.intCmp, ibeq_eq]; rfl⟩
  case neq => cases h; exact ⟨_, .bool _, fun w => by simp [binOp, Op.intCmp, ibeq_eq, bne]; rfl⟩
  case lss => cases h; exact ⟨_, .bool _, fun w => by simp [binOp, Op.intCmp, iblt_eq]⟩
  case leq => cases h; exact ⟨_, .bool _, fun w => by simp [binOp, Op.intCmp, ible_eq]⟩
  case gtr => cases h; exact ⟨_, .bool _, fun w => by simp [binOp, Op.intCmp, iblt_eq]⟩
  case geq => cases h; exact ⟨_, .bool _, fun w => by simp [binOp, Op.intCmp, ible_eq]⟩
  all_goals cases h
theorem run_shiftOp {op : BinOp} {k k' : IntKind} {x y : Int} {v : AV} {m : Mp} (h : shiftOp op k x y = some v) (t : TypeId) :
    ∃ v', VR m v v' ∧ ∀ w, (binOp op t (.int k x) (.int k' y)).run P w = .ok v' w := by
  unfold shiftOp at h
  cases y with
  | negSucc y => cases h
  | ofNat y =>
    have hn : (bif Nat.ble y (bitsK k) then y else bitsK k) = min y k.bits := by
      rw [ble_nat, bitsK_eq]
      by_cases hb : y ≤ k.bits
      · rw [decide_eq_true hb]; simp only [cond_true]; omega
      · rw [decide_eq_false hb]; simp only [cond_false]; omega
    have hneg : ¬ ((Int.ofNat y) < 0) := by simp only [Int.ofNat_eq_natCast]; omega
    have e : (Int.ofNat y).toNat = y := rfl
    cases op
    case shl =>
      cases h
      refine ⟨_, .int _ _, fun w => ?_⟩
      simp only [binOp, Op.shift, if_neg hneg, e, hn, wrapK_eq]
      simp
    case shr =>
      cases h
      refine ⟨_, .int _ _, fun w => ?_⟩
      simp only [binOp, Op.shift, if_neg hneg, e, hn]
      simp
    all_goals cases h
theorem u8_beq (u v : UInt8) : (u.toNat == v.toNat) = (u == v) := by
  by_cases h : u = v
  · subst h; rw [beq_self_eq_true, beq_self_eq_true]
  · rw [beq_eq_false_iff_ne.2 h, beq_eq_false_iff_ne.2 (fun e => h (UInt8.toNat_inj.1 e))]
theorem bytes_beq (x y : ByteArray) : (x.data.toList.map UInt8.toNat == y.data.toList.map UInt8.toNat) = (x.toList == y.toList) := by
  rw [ByteArray.toList_eq, ByteArray.toList_eq]
  generalize x.data.toList = a; generalize y.data.toList = b
  induction a generalizing b with
  | nil => cases b <;> rfl
  | cons u a ih =>
    cases b with
    | nil => rfl
    | cons v b =>
      simp only [List.map_cons, List.cons_beq_cons, ih, u8_beq]
theorem llt_eq (x y : List UInt8) : llt (x.map UInt8.toNat) (y.map UInt8.toNat) = Op.bytesLess x y := by
  induction x generalizing y with
  | nil => cases y <;> rfl
  | cons u a ih =>
    cases y with
    | nil => rfl
    | cons v b =>
      show (bif Nat.blt u.toNat v.toNat then true else bif Nat.beq u.toNat v.toNat then llt (a.map _) (b.map _) else false) = _
      rw [ih, blt_nat, beq_nat]
      simp only [Op.bytesLess]
      have e1 : decide (u.toNat < v.toNat) = decide (u < v) := decide_eq_decide.2 UInt8.lt_iff_toNat_lt.symm
      rw [e1, u8_beq]
      cases decide (u < v) <;> cases (u == v) <;> simp
theorem bytes_len (s : ByteArray) : (s.data.toList.map UInt8.toNat).length = s.size := by rw [List.length_map, Array.length_toList]; rfl
theorem run_strOp {op : BinOp} {x y : ByteArray} {v : AV} {m : Mp} (h : strOp op (x.data.toList.map UInt8.toNat) (y.data.toList.map UInt8.toNat) = some v) (t : TypeId) :
    ∃ v', VR m v v' ∧ ∀ w, (binOp op t (.string x) (.string y)).run P w = .ok v' w := by
  unfold strOp at h
  have hlt : llt (x.data.toList.map UInt8.toNat) (y.data.toList.map UInt8.toNat) = Op.bytesLess x.toList y.toList := by rw [llt_eq, ByteArray.toList_eq, ByteArray.toList_eq]
  cases op <;> (try simp only [lbeq_eq, bytes_beq, hlt, lapp_eq, llen_eq, bytes_len, ble_nat] at h)
  case add =>
    by_cases hb : x.size + y.size ≤ 9223372036854775807
    · rw [decide_eq_true hb] at h; simp only [cond_true, Option.some.injEq] at h; subst h
      refine ⟨.string (x ++ y), .str _ _ (by simp), fun w => ?_⟩
      have : ¬ (((x.size + y.size : Nat) : Int) > IntKind.i64.max) := by
        have e : IntKind.i64.max = 9223372036854775807 := rfl
        omega
      simp only [binOp, Op.stringOp, if_neg this]
      rfl
    · rw [decide_eq_false hb] at h; cases h
  case eql => cases h; exact ⟨_, .bool _, fun w => by simp only [binOp, Op.stringOp]; rfl⟩
  case neq => cases h; exact ⟨_, .bool _, fun w => by simp only [binOp, Op.stringOp]; rfl⟩
  case lss => cases h; exact ⟨_, .bool _, fun w => by simp only [binOp, Op.stringOp]; rfl⟩
  case leq => cases h; exact ⟨_, .bool _, fun w => by simp only [binOp, Op.stringOp]; rfl⟩
  case gtr => cases h; exact ⟨_, .bool _, fun w => by simp only [binOp, Op.stringOp]; rfl⟩
  case geq => cases h; exact ⟨_, .bool _, fun w => by simp only [binOp, Op.stringOp]; rfl⟩
  all_goals cases h

/-! ### equality -/
theorem run_equalIn {q : EqT} {x y : AV} {b : Bool} {m : Mp} {x' y' : Value} (hx : VR m x x') (hy : VR m y y') (h : aeqBase q x y = some b) {t : TypeId} {X Y : Operand} (hq : eqT P t X Y = some q) (d : Nat) :
    ∀ w, (Op.equalIn (d + 1) t x' y').run P w = .ok b w ∧ (∀ op, (eqGuard op t X Y x' y').run P w = .ok () w) := by
  intro w
  unfold eqT at hq
  cases hu : P.underlying t with
  | none => rw [hu] at hq; cases hq
  | some d =>
    rw [hu] at hq
    have run := run_under hu w
    unfold aeqBase at h
    constructor
    · split at h <;> cases h <;> (cases d <;> simp at hq) <;> cases hx <;> cases hy <;> simp [Op.equalIn, run]
    · intro op
      split at h <;> cases h <;> cases hx <;> cases hy <;> (try (cases op <;> simp [eqGuard]; done))
      cases d <;> simp at hq
      cases op <;> simp only [eqGuard] <;> first | rfl | skip
      all_goals
        cases X <;> cases Y <;> simp [constO] at hq <;> rfl
theorem run_aeq {q : EqT} {x y : AV} {b : Bool} {m : Mp} {x' y' : Value} (hx : VR m x x') (hy : VR m y y') (h : aeqBase q x y = some b) {t : TypeId} {X Y : Operand} (hq : eqT P t X Y = some q) :
    ∀ w, (Op.equal t x' y').run P w = .ok b w ∧ (∀ op, (eqGuard op t X Y x' y').run P w = .ok () w) :=
  run_equalIn hx hy h hq 9999
theorem run_guard_int {op : BinOp} {t : TypeId} {X Y : Operand} {k k' : IntKind} {a b : Int} (w : World) : (eqGuard op t X Y (.int k a) (.int k' b)).run P w = .ok () w := by
  cases op <;> rfl
theorem run_guard_str {op : BinOp} {t : TypeId} {X Y : Operand} {a b : ByteArray} (w : World) : (eqGuard op t X Y (.string a) (.string b)).run P w = .ok () w := by
  cases op <;> rfl
theorem aeq_eql {q : EqT} {x y : AV} {b : Bool} {m : Mp} {x' y' : Value} (hx : VR m x x') (hy : VR m y y') (h : aeqBase q x y = some b) (t : TypeId) :
    binOp .eql t x' y' = (do pure (.bool (← Op.equal t x' y'))) ∧ binOp .neq t x' y' = (do pure (.bool (!(← Op.equal t x' y')))) := by
  unfold aeqBase at h
  split at h <;> cases h <;> cases hx <;> cases hy <;> exact ⟨rfl, rfl⟩
theorem pu_bin {o : Oper} {op : BinOp} {t u : TypeId} {x y : Operand} {x' y' : Opd} (ho : o.op = .binOp op t x y u) (hx : OR x' x) (hy : OR y' y) :
    PuOk P o (k_bin (eqT P t x y) op x' y') := by
  intro m N tr a v ht h
  have hx := hx m N tr a ht
  have hy := hy m N tr a ht
  unfold k_bin binA at h
  split at h
  · rename_i k i k' j ex ey
    rw [ex] at hx; rw [ey] at hy
    cases hvx : a.eval x <;> rw [hvx] at hx <;> cases hx
    cases hvy : a.eval y <;> rw [hvy] at hy <;> cases hy
    have hg := fun w => run_guard_int (P := P) (op := op) (t := t) (X := x) (Y := y) (k := k) (k' := k') (a := i) (b := j) w
    have key : ∃ v', VR m v v' ∧ ∀ w, (binOp op t (.int k i) (.int k' j)).run P w = .ok v' w := by
      unfold binI at h
      split at h
      · exact run_shiftOp h t
      · exact run_shiftOp h t
      · cases hk : kbeq k k' with
        | false => rw [hk] at h; cases h
        | true => rw [hk] at h; obtain rfl := kbeq_true hk; exact run_intOp h t
    obtain ⟨v', hv, hr⟩ := key
    exact ⟨v', hv, fun w => by simp [execOp, ho, hvx, hvy, hg, hr]⟩
  · rename_i i j ex ey
    rw [ex] at hx; rw [ey] at hy
    cases hvx : a.eval x <;> rw [hvx] at hx <;> cases hx
    cases hvy : a.eval y <;> rw [hvy] at hy <;> cases hy
    rename_i s1 e1 s2 e2
    subst e1; subst e2
    obtain ⟨v', hv, hr⟩ := run_strOp (P := P) (m := m) h t
    exact ⟨v', hv, fun w => by simp [execOp, ho, hvx, hvy, run_guard_str, hr]⟩
  · unfold binE at h
    split at h
    · rename_i q hq
      unfold eqO at h
      split at h
      · rename_i b hb
        cases h
        obtain ⟨e1, _⟩ := aeq_eql hx hy hb t
        refine ⟨_, .bool b, fun w => ?_⟩
        obtain ⟨r1, r2⟩ := run_aeq hx hy hb hq w
        simp [execOp, ho, r2, e1, r1]
      · cases h
    · rename_i q hq
      unfold eqO at h
      split at h
      · rename_i b hb
        cases h
        obtain ⟨_, e1⟩ := aeq_eql hx hy hb t
        refine ⟨_, .bool (!b), fun w => ?_⟩
        obtain ⟨r1, r2⟩ := run_aeq hx hy hb hq w
        simp [execOp, ho, r2, e1, r1]
      · cases h
    · cases h
end Go.Ab
