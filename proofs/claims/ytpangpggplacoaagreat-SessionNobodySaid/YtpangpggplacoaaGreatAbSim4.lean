/- THE ABSTRACT EVALUATOR: what reads memory, on both sides. -/
import Derived.Test.YtpangpggplacoaaGreatAbSim3
namespace Go.Ab
variable {P : Program}

def RdOk (P : Program) (o : Oper) (f : T AV → St → Option AV) : Prop :=
  ∀ (B : Nat) (m : Mp) (N : Nat) (t : T AV) (s : St) (a : Act) (w : World) (v : AV), R P B m s w → TR m N t a.tmps → f t s = some v → ∃ v', VR m v v' ∧ (execOp a.eval o).run P w = .ok (.value v') w

/-- what stands where an address leads -/
structure Cls (P : Program) (m : Mp) (w : World) (id : Nat) (c : List AV) (e : TypeId) (o : Bool) (b C sz : Nat) (arr : Array Value) (lo hi : Nat) : Prop where
  live : m id = .live b C sz
  heap : w.heap[b]? = some (.cells arr e (lo, hi))
  hC : arr.size = C
  hsz : sz = P.cellsOf e
  le : c.length ≤ C
  all : o = false → c.length = C
  vr : VRs m c (arr.toList.take c.length)
  free : ∀ i, i < C → ¬ (lo ≤ i ∧ i < hi)
  mark : P.underlying e = some (.int .u8) ∨ hi ≤ lo
theorem R.cells {B : Nat} {m : Mp} {s : St} {w : World} (r : R P B m s w) {id : Nat} (hn : m id ≠ .un) {c : List AV} {e : TypeId} {o : Bool} (hs : s.at id = some (.cells c e o)) :
    id < s.nx ∧ ∃ b C sz arr lo hi, Cls P m w id c e o b C sz arr lo hi := by
  obtain ⟨b, C, sz, ob, hlt, hl, hh, hb⟩ := r.live hn hs (by intro h; cases h)
  cases hb with
  | cells _ _ _ arr lo hi h1 h2 h3 h4 h5 h6 h7 => exact ⟨hlt, b, C, sz, arr, lo, hi, ⟨hl, hh, h1, h2, h3, h4, h5, h6, h7⟩⟩
theorem AR.eq {m : Mp} {id off b C sz : Nat} {a : Addr} (h : AR m id off a) (hl : m id = .live b C sz) : a = ⟨b, off, none⟩ := by
  unfold AR at h; rw [hl] at h; exact h
theorem Cls.nth {m : Mp} {w : World} {id : Nat} {c : List AV} {e : TypeId} {o : Bool} {b C sz : Nat} {arr : Array Value} {lo hi : Nat} (h : Cls P m w id c e o b C sz arr lo hi) {i : Nat} {v : AV} (hi : c[i]? = some v) :
    ∃ v', arr[i]? = some v' ∧ VR m v v' := by
  obtain ⟨v', h1, h2⟩ := h.vr.nth hi
  refine ⟨v', ?_, h2⟩
  rw [List.getElem?_take] at h1
  split at h1
  · rwa [Array.getElem?_toList] at h1
  · cases h1
theorem Cls.cell {m : Mp} {w : World} {id : Nat} {c : List AV} {e : TypeId} {o : Bool} {b C sz : Nat} {arr : Array Value} {lo hi : Nat} (h : Cls P m w id c e o b C sz arr lo hi) (i : Nat) : w.cell? ⟨b, i, none⟩ = arr[i]? := by
  unfold World.cell?
  rw [h.heap]
  rfl
theorem add_at (b off j : Nat) : (Addr.add ⟨b, off, none⟩ j) = ⟨b, off + j, none⟩ := by
  unfold Addr.add
  by_cases h : j = 0
  · subst h; rfl
  · rw [if_neg h]
/-- a span of cells, read -/
theorem Cls.span {m : Mp} {w : World} {id : Nat} {c : List AV} {e : TypeId} {o : Bool} {b C sz : Nat} {arr : Array Value} {lo hi : Nat} (h : Cls P m w id c e o b C sz arr lo hi) {off n : Nat} {l : List AV} (hl : seg off n c = some l) :
    ∃ vs : List Value, vs.length = n ∧ VRs m l vs ∧ ∀ w2 : World, w2.heap = w.heap → (loadCells ⟨b, off, none⟩ n).run P w2 = .ok vs.toArray w2 := by
  obtain ⟨h1, h2, h3⟩ := seg_some hl
  have hv : VRs m l ((arr.toList.drop off).take n) := by
    rw [h1]
    have := (h.vr.drop off).take n
    rw [List.drop_take, List.take_take] at this
    rcases h3 with h3 | h3
    · subst h3; simpa using this
    · rwa [Nat.min_eq_left (by omega)] at this
  refine ⟨_, by rw [← hv.length, h2], hv, fun w2 hw2 => ?_⟩
  have hcell : ∀ i, w2.cell? ⟨b, i, none⟩ = arr[i]? := fun i => by
    have := h.cell i
    unfold World.cell? at this ⊢
    rw [hw2]; exact this
  have hlen : ((arr.toList.drop off).take n).length = n := by rw [← hv.length, h2]
  have := run_loadCells_list (P := P) w2 ⟨b, off, none⟩ ((arr.toList.drop off).take n) (fun j v hj => by
    rw [add_at, hcell]
    rw [List.getElem?_take] at hj
    split at hj
    · rw [List.getElem?_drop, Array.getElem?_toList] at hj; exact hj
    · cases hj)
  rwa [hlen] at this

theorem rd_load {o : Oper} {ty : TypeId} {x : Operand} {x' : Opd} {d : TypeDesc} (ho : o.op = .load ty x) (hx : OR x' x) (hd : P.underlying ty = some d) : RdOk P o (k_load (aggT P ty) (P.cellsOf ty) x') := by
  intro B m N t s a w v r ht h
  have hx := hx m N t a ht
  unfold k_load loadA at h
  split at h
  · rename_i id off e
    rw [e] at hx
    split at h
    · rename_i c el op hs
      cases hv : a.eval x <;> rw [hv] at hx <;> cases hx
      rename_i ad hr
      obtain ⟨_, b, C, sz, arr, lo, hi, hc⟩ := r.cells hr.ne hs
      obtain rfl := hr.eq hc.live
      unfold partA at h
      cases hg : aggT P ty with
      | true =>
        rw [hg] at h
        simp only [cond_true] at h
        split at h
        · rename_i l hl
          cases h
          obtain ⟨vs, h1, h2, h3⟩ := hc.span hl
          exact ⟨.agg vs.toArray, .agg _ _ (by simpa using h2), by
            simp [execOp, ho, hv, Instr.loadAt, Instr.sureAddr, loadVar, run_isAgg hd, hg, run_size (info_of_under hd), h3 w rfl]⟩
        · cases h
      | false =>
        rw [hg] at h
        simp only [cond_false, lnth_eq] at h
        obtain ⟨v', h1, h2⟩ := hc.nth h
        exact ⟨v', h2, by simp [execOp, ho, hv, Instr.loadAt, Instr.sureAddr, loadVar, run_isAgg hd, hg, hc.cell, h1]⟩
    · cases h
  · cases h

/-! ### slicing -/
/-- an operand that may be missing -/
def OO (o : Option Opd) (x : Option Operand) : Prop := match o, x with
  | none, none => True
  | some o, some x => OR o x
  | _, _ => False
inductive VO (m : Mp) : Option AV → Option Value → Prop
  | none : VO m .none .none
  | some (v : AV) (x : Value) (h : VR m v x) : VO m (.some v) (.some x)
theorem OO.ev {o : Option Opd} {x : Option Operand} (h : OO o x) {m : Mp} {N : Nat} {t : T AV} {a : Act} (ht : TR m N t a.tmps) : VO m (evo t o) (x.map a.eval) := by
  cases o <;> cases x <;> first | exact h.elim | exact .none | exact .some _ _ (h m N t a ht)
theorem sliceB_some {m : Mp} {v : AV} {x : Value} (hx : VR m v x) {hi d n : Nat} (h : sliceB (some v) hi d = some n) (code : BoundsCode) : n ≤ hi ∧ ∀ w, (Instr.sliceBound x hi code).run P w = .ok n w := by
  unfold sliceB at h
  split at h
  · rename_i e; cases e
  · rename_i k j e
    cases e; cases hx
    rw [ble_nat] at h
    by_cases hj : j ≤ hi
    · rw [decide_eq_true hj] at h; cases h
      exact ⟨hj, fun w => by simp [Instr.sliceBound, asIntOf, hj]⟩
    · rw [decide_eq_false hj] at h; cases h
  · cases h
def MxOk (cap M : Nat) : Option AV → Prop
  | none => M = cap
  | some v => ∃ d, sliceB (some v) cap d = some M
/-- the bounds: the greatest, the high, the low one -/
theorem bounds_run {m : Mp} {lo hi mx : Option AV} {lo' hi' mx' : Option Value} (hlo : VO m lo lo') (hhi : VO m hi hi') (hmx : VO m mx mx') {isS : Bool} {len cap M H L : Nat}
    (hM : MxOk cap M mx) (hH : hiB hi mx M len = some H) (hL : sliceB lo H 0 = some L) :
    (∀ w, (Instr.sliceBounds isS len cap lo' hi' mx').run P w = .ok (L, H, M) w) ∧ (hi = none ∨ H ≤ M) ∧ L ≤ H ∧ M ≤ cap ∧ (hi = none → H = len ∧ mx = none) := by
  cases hmx with
  | none =>
    obtain rfl : M = cap := hM
    cases hhi with
    | none =>
      cases hH
      cases hlo with
      | none => cases hL; exact ⟨fun w => by simp [Instr.sliceBounds], .inl rfl, Nat.zero_le _, Nat.le_refl _, fun _ => ⟨rfl, rfl⟩⟩
      | some v x hx =>
        have l := sliceB_some (P := P) hx hL .sliceB
        exact ⟨fun w => by simp [Instr.sliceBounds, l.2], .inl rfl, l.1, Nat.le_refl _, fun _ => ⟨rfl, rfl⟩⟩
    | some u y hy =>
      have g := sliceB_some (P := P) hy (show sliceB (some u) M len = some H from hH) (if isS then .sliceAcap else .sliceAlen)
      cases hlo with
      | none => cases hL; exact ⟨fun w => by simp [Instr.sliceBounds, g.2], .inr g.1, Nat.zero_le _, Nat.le_refl _, fun h => by cases h⟩
      | some v x hx =>
        have l := sliceB_some (P := P) hx hL .sliceB
        exact ⟨fun w => by simp [Instr.sliceBounds, g.2, l.2], .inr g.1, l.1, Nat.le_refl _, fun h => by cases h⟩
  | some q z hz =>
    obtain ⟨d, hd⟩ := hM
    have f := sliceB_some (P := P) hz hd (if isS then .slice3Acap else .slice3Alen)
    cases hhi with
    | none => cases hH
    | some u y hy =>
      have g := sliceB_some (P := P) hy (show sliceB (some u) M len = some H from hH) .slice3B
      cases hlo with
      | none => cases hL; exact ⟨fun w => by simp [Instr.sliceBounds, f.2, g.2], .inr g.1, Nat.zero_le _, f.1, fun h => by cases h⟩
      | some v x hx =>
        have l := sliceB_some (P := P) hx hL .slice3C
        exact ⟨fun w => by simp [Instr.sliceBounds, f.2, g.2, l.2], .inr g.1, l.1, f.1, fun h => by cases h⟩
/-- a slice of a known capacity -/
theorem slMx_run {m : Mp} {lo hi mx : Option AV} {lo' hi' mx' : Option Value} (hlo : VO m lo lo') (hhi : VO m hi hi') (hmx : VO m mx mx') {isS : Bool} {sz id off len cap d : Nat} {a : Addr} {v : AV} (ha : AR m id off a)
    (hlen : len ≤ cap) (h : slMx sz id off len lo hi mx (sliceB mx cap d) = some v) (hd : mx = none → d = cap) :
    ∃ L H M, (∀ w, (Instr.sliceBounds isS len cap lo' hi' mx').run P w = .ok (L, H, M) w) ∧ VR m v (.slice (some (if M = L then a else a.add (L * sz))) (H - L) (M - L)) := by
  unfold slMx at h
  split at h
  · rename_i M hM
    unfold slHi at h
    split at h
    · rename_i H hH
      unfold slRes at h
      split at h
      · rename_i L hL
        cases h
        have hM' : MxOk cap M mx := by
          cases mx with
          | none => unfold sliceB at hM; cases hM; exact hd rfl
          | some v => exact ⟨d, hM⟩
        obtain ⟨h1, h2, h3, h4, h5⟩ := bounds_run (P := P) (isS := isS) hlo hhi hmx hM' hH hL
        have hHM : H ≤ M := by
          rcases h2 with h2 | h2
          · obtain ⟨e1, e2⟩ := h5 h2
            rw [e2] at hM'; have : M = cap := hM'; omega
          · exact h2
        refine ⟨L, H, M, h1, .sl _ _ _ _ _ _ ?_ (by omega) (fun k hk => by cases hk; rfl) (fun hk => by cases hk)⟩
        rw [beq_nat]
        by_cases hML : M = L
        · subst hML; simpa using ha
        · rw [show (M == L) = false from beq_eq_false_iff_ne.2 hML, if_neg hML]
          exact ha.add (L * sz)
      · cases h
    · cases h
  · cases h
theorem run_slice_str {m : Mp} {lo hi : Option AV} {lo' hi' : Option Value} (hlo : VO m lo lo') (hhi : VO m hi hi') {bs : ByteArray} {v : AV} (h : sliceStr (bs.data.toList.map UInt8.toNat) lo hi = some v) {ty : TypeId} (hu : P.underlying ty = some .string) :
    ∃ v', VR m v v' ∧ ∀ w, (Instr.slice ty (.string bs) lo' hi' none).run P w = .ok v' w := by
  unfold sliceStr strHi at h
  rw [llen_eq, bytes_len] at h
  split at h
  · rename_i H hH
    unfold strLo at h
    split at h
    · rename_i L hL
      unfold strO at h
      split at h
      · rename_i l hl
        cases h
        obtain ⟨h1, h2, h3, h4, h5⟩ := bounds_run (P := P) (isS := false) hlo hhi (.none : VO m none none) (M := bs.size) (cap := bs.size) (len := bs.size) rfl (by cases hi <;> exact hH) hL
        obtain ⟨g1, g2, g3⟩ := seg_some hl
        refine ⟨.string (bs.extract L H), .str _ _ ?_, ?_⟩
        · rw [ByteArray.data_extract, Array.toList_extract, List.extract_eq_take_drop, g1, List.map_take, List.map_drop]
        · intro w; simp [Instr.slice, run_under hu, h1]
      · cases h
    · cases h
  · cases h
theorem sliceAt_not_arr {ty : TypeId} {d : TypeDesc} (hu : P.underlying ty = some d) (hd : ∀ n e, d ≠ .array n e) (x : Value) (lo hi mx : Option Value) (w : World) :
    (Instr.sliceAt ty x lo hi mx).run P w = (Instr.slice ty x lo hi mx).run P w := by
  unfold Instr.sliceAt
  rw [Sem.run_bind, run_under hu, Result.andThen_ok]
  cases d <;> first | rfl | exact absurd rfl (hd _ _)
theorem pu_slice_str {o : Oper} {ty : TypeId} {x : Operand} {lo hi : Option Operand} {x' : Opd} {lo' hi' : Option Opd} (ho : o.op = .slice ty x lo hi none) (hx : OR x' x) (hlo : OO lo' lo) (hhi : OO hi' hi)
    (hu : P.underlying ty = some .string) : PuOk P o (k_slStr x' lo' hi') := by
  intro m N t a v ht h
  have hx := hx m N t a ht
  have hlo := hlo.ev ht
  have hhi := hhi.ev ht
  unfold k_slStr sliceStrA at h
  split at h
  · rename_i l e
    rw [e] at hx
    cases hv : a.eval x <;> rw [hv] at hx <;> cases hx
    rename_i bs hb
    subst hb
    obtain ⟨v', h1, h2⟩ := run_slice_str (P := P) hlo hhi h hu
    exact ⟨v', h1, fun w => by simp only [execOp, ho, hv, Sem.run_bind, sliceAt_not_arr hu (by intro n e h; cases h), Option.map_none, h2, Result.andThen_ok]; rfl⟩
  · cases h
theorem run_slArr {m : Mp} {lo hi mx : Option AV} {lo' hi' mx' : Option Value} (hlo : VO m lo lo') (hhi : VO m hi hi') (hmx : VO m mx mx') {ty e : TypeId} {n id off : Nat} {a : Addr} {v : AV} (ha : AR m id off a)
    (h : sliceArr (P.cellsOf e) n id off lo hi mx = some v) (hu : P.underlying ty = some (.array n e)) (hs : P.cellsOf e ≠ 0) :
    ∃ v', VR m v v' ∧ ∀ w, (Instr.sliceAt ty (.pointer (some a)) lo' hi' mx').run P w = .ok v' w := by
  obtain ⟨L, H, M, h1, h2⟩ := slMx_run (P := P) hlo hhi hmx (isS := false) ha (Nat.le_refl n) h (fun _ => rfl)
  exact ⟨_, h2, fun w => by simp [Instr.sliceAt, run_under hu, Instr.sureAddr, h1, run_size (info_of_cells hs)]⟩
theorem run_nilMx {m : Mp} {lo hi mx : Option AV} {lo' hi' mx' : Option Value} (hlo : VO m lo lo') (hhi : VO m hi hi') (hmx : VO m mx mx') {ty e : TypeId} {v : AV}
    (h : nilMx lo hi mx (sliceB mx 0 0) = some v) (hu : P.underlying ty = some (.slice e)) (hs : P.cellsOf e ≠ 0) (w : World) :
    v = .nils ∧ (Instr.slice ty (.slice none 0 0) lo' hi' mx').run P w = .ok (.slice none 0 0) w := by
  unfold nilMx at h
  split at h
  · rename_i M hM
    unfold nilHi at h
    split at h
    · rename_i H hH
      unfold nilLo at h
      split at h
      · rename_i L hL
        cases h
        have hM' : MxOk 0 M mx := by
          cases mx with
          | none => unfold sliceB at hM; cases hM; rfl
          | some v => exact ⟨0, hM⟩
        obtain ⟨h1, h2, h3, h4, h5⟩ := bounds_run (P := P) (isS := true) (len := 0) hlo hhi hmx hM' hH hL
        have hM0 : M = 0 := by omega
        have hH0 : H = 0 := by
          rcases h2 with h2 | h2
          · exact (h5 h2).1
          · omega
        have hL0 : L = 0 := by omega
        subst hM0; subst hH0; subst hL0
        exact ⟨rfl, by simp [Instr.slice, run_under hu, h1, run_size (info_of_cells hs)]⟩
      · cases h
    · cases h
  · cases h
theorem pu_slice_arr {o : Oper} {ty e : TypeId} {n : Nat} {x : Operand} {lo hi mx : Option Operand} {x' : Opd} {lo' hi' mx' : Option Opd} (ho : o.op = .slice ty x lo hi mx) (hx : OR x' x) (hlo : OO lo' lo) (hhi : OO hi' hi) (hmx : OO mx' mx)
    (hu : P.underlying ty = some (.array n e)) (hs : P.cellsOf e ≠ 0) : PuOk P o (k_slArr (P.cellsOf e) n x' lo' hi' mx') := by
  intro m N t a v ht h
  have hx := hx m N t a ht
  unfold k_slArr sliceArrA at h
  split at h
  · rename_i id off ex
    rw [ex] at hx
    cases hv : a.eval x <;> rw [hv] at hx <;> cases hx
    rename_i ad hr
    obtain ⟨v', h1, h2⟩ := run_slArr (P := P) (hlo.ev ht) (hhi.ev ht) (hmx.ev ht) hr h hu hs
    exact ⟨v', h1, fun w => by simp only [execOp, ho, hv, Sem.run_bind, h2, Result.andThen_ok]; rfl⟩
  · cases h
theorem sureCap_some {m : Mp} {s : St} {w : World} {B : Nat} (r : R P B m s w) {id off c k : Nat} {e : TypeId} {a : Addr} (ha : AR m id off a) (hc : CR m id off c) (hz : P.cellsOf e ≠ 0)
    (h : sureCap s e (P.cellsOf e) id off = some k) : k ≤ c := by
  unfold sureCap at h
  split at h
  · rename_i cs ce o hs
    obtain ⟨_, b, C, sz', arr, lo, hi, hcl⟩ := r.cells ha.ne hs
    rw [beq_nat] at h
    by_cases he : ce = e
    · subst he
      simp only [beq_self_eq_true, cond_true, llen_eq, Option.some.injEq] at h
      subst h
      unfold CR at hc
      rw [hcl.live] at hc
      simp only at hc
      have h1 := hcl.le
      have h2 := hcl.hsz
      refine Nat.div_le_of_le_mul ?_
      rw [← h2, Nat.mul_comm]; omega
    · rw [show (ce == e) = false from beq_eq_false_iff_ne.2 he] at h; cases h
  · cases h
theorem cr_add {m : Mp} {id off c l : Nat} {sz : Nat} (hc : CR m id off c) (hl : l ≤ c) (hsz : ∀ b C sz', m id = .live b C sz' → sz' = sz) : CR m id (off + l * sz) (c - l) := by
  unfold CR at *
  cases hm : m id with
  | un => trivial
  | dead => trivial
  | val x => trivial
  | live b C sz' =>
    rw [hm] at hc
    simp only at hc ⊢
    obtain rfl := hsz b C sz' hm
    rw [← hc, Nat.add_assoc, ← Nat.add_mul]
    congr 2; omega
theorem run_sliceSl {m : Mp} {s : St} {w : World} {B : Nat} (r : R P B m s w) {lo hi mx : Option AV} {lo' hi' mx' : Option Value} (hlo : VO m lo lo') (hhi : VO m hi hi') (hmx : VO m mx mx') {ty e : TypeId} {id off len c : Nat} {cap : Option Nat} {a : Addr} {v : AV}
    (ha : AR m id off a) (hl : len ≤ c) (hc : ∀ k, cap = some k → c = k) (hcu : cap = none → CR m id off c) (h : sliceSl s e (P.cellsOf e) id off len cap lo hi mx = some v)
    (hu : P.underlying ty = some (.slice e)) (hs : P.cellsOf e ≠ 0) :
    ∃ v', VR m v v' ∧ (Instr.slice ty (.slice (some a) len c) lo' hi' mx').run P w = .ok v' w := by
  unfold sliceSl at h
  split at h
  · rename_i k
    obtain rfl := hc _ rfl
    obtain ⟨L, H, M, h1, h2⟩ := slMx_run (P := P) hlo hhi hmx (isS := true) ha hl h (fun _ => rfl)
    refine ⟨_, h2, ?_⟩
    simp only [Instr.slice, Sem.run_bind, run_under hu, Result.andThen_ok, h1, run_size (info_of_cells hs)]
    by_cases hML : M = L <;> simp [hML]
  · split at h
    · unfold slSure at h
      split at h
      · rename_i k hk
        have hsure := sureCap_some r ha (hcu rfl) hs hk
        have hszb : ∀ b C sz', m id = .live b C sz' → sz' = P.cellsOf e := by
          unfold sureCap at hk
          split at hk
          · rename_i cs ce o hst
            intro b C sz' hm
            obtain ⟨_, b2, C2, sz2, arr, lo2, hi2, hcl⟩ := r.cells ha.ne hst
            rw [beq_nat] at hk
            by_cases he : ce = e
            · subst he
              have := hcl.live; rw [hm] at this; cases this
              exact hcl.hsz
            · rw [show (ce == e) = false from beq_eq_false_iff_ne.2 he] at hk; cases hk
          · cases hk
        unfold slHiU at h
        split at h
        · rename_i H hH
          unfold slResU at h
          split at h
          · rename_i L hL
            have hH' : hiB hi none c len = some H ∧ H ≤ c := by
              rw [ble_nat] at hH
              cases hhi with
              | none => cases hH; exact ⟨rfl, hl⟩
              | some u y hy =>
                have g := sliceB_some (P := P) hy hH .sliceAcap
                have hle : H ≤ c := by
                  have := g.1
                  by_cases hkl : k ≤ len
                  · rw [decide_eq_true hkl] at this; simp only [cond_true] at this; omega
                  · rw [decide_eq_false hkl] at this; simp only [cond_false] at this; omega
                refine ⟨?_, hle⟩
                unfold hiB sliceB
                unfold sliceB at hH
                split at hH
                · rename_i e1; cases e1
                · rename_i kk j e1
                  cases e1
                  have hj : j = H := by
                    rw [ble_nat] at hH
                    by_cases hq : j ≤ (bif decide (k ≤ len) then len else k)
                    · rw [decide_eq_true hq] at hH; cases hH; rfl
                    · rw [decide_eq_false hq] at hH; cases hH
                  subst hj
                  simp only [ble_nat, decide_eq_true hle, cond_true]
                · cases hH
            obtain ⟨h1, h2, h3, h4, h5⟩ := bounds_run (P := P) (isS := true) hlo hhi (.none : VO m none none) (M := c) (cap := c) (len := len) rfl hH'.1 hL
            have hm : mx' = none := by cases hmx; rfl
            subst hm
            rw [beq_nat, beq_nat] at h
            by_cases hL0 : L = 0
            · subst hL0
              simp only [beq_self_eq_true, cond_true, Option.some.injEq] at h
              subst h
              refine ⟨.slice (some a) H c, .sl _ _ _ _ _ _ ha hH'.2 (fun k hk => by cases hk) (fun _ => hcu rfl), ?_⟩
              simp only [Instr.slice, Sem.run_bind, run_under hu, Result.andThen_ok, h1, run_size (info_of_cells hs)]
              have : a.add 0 = a := rfl
              by_cases hc0 : c = 0 <;> simp [hc0, this]
            · rw [show (L == 0) = false from beq_eq_false_iff_ne.2 hL0] at h
              simp only [cond_false] at h
              by_cases hHL : H = L
              · subst hHL
                simp only [beq_self_eq_true, cond_true, Option.some.injEq] at h
                subst h
                refine ⟨.slice (some (if c = H then a else a.add (H * P.cellsOf e))) 0 (c - H), .sle _ _, ?_⟩
                simp only [Instr.slice, Sem.run_bind, run_under hu, Result.andThen_ok, h1, run_size (info_of_cells hs)]
                by_cases hcH : c = H <;> simp [hcH]
              · rw [show (H == L) = false from beq_eq_false_iff_ne.2 hHL] at h
                simp only [cond_false, Option.some.injEq] at h
                subst h
                have hcL : c ≠ L := by omega
                refine ⟨.slice (some (a.add (L * P.cellsOf e))) (H - L) (c - L), .sl _ _ _ _ _ _ (ha.add _) (by omega) (fun k hk => by cases hk) (fun _ => cr_add (hcu rfl) (by omega) hszb), ?_⟩
                simp only [Instr.slice, Sem.run_bind, run_under hu, Result.andThen_ok, h1, run_size (info_of_cells hs)]
                simp [hcL]
          · cases h
        · cases h
      · cases h
    · rename_i q
      unfold slMxU at h
      split at h
      · rename_i M hM
        unfold slHi at h
        split at h
        · rename_i H hH
          unfold slRes at h
          split at h
          · rename_i L hL
            cases h
            have hMl : M ≤ len ∧ sliceB (some q) c 0 = some M := by
              unfold sliceB at hM ⊢
              split at hM
              · rename_i e1; cases e1
              · rename_i kk j e1
                cases e1
                rw [ble_nat] at hM
                by_cases hj : j ≤ len
                · rw [decide_eq_true hj] at hM; cases hM
                  refine ⟨hj, ?_⟩
                  simp only [ble_nat]
                  rw [decide_eq_true (Nat.le_trans hj hl)]
                  rfl
                · rw [decide_eq_false hj] at hM; cases hM
              · cases hM
            obtain ⟨h1, h2, h3, h4, h5⟩ := bounds_run (P := P) (isS := true) hlo hhi hmx (M := M) (cap := c) (len := len) ⟨0, hMl.2⟩ hH hL
            have hHM : H ≤ M := by
              rcases h2 with h2 | h2
              · have := (h5 h2).2; cases this
              · exact h2
            refine ⟨.slice (some (if M = L then a else a.add (L * P.cellsOf e))) (H - L) (M - L), .sl _ _ _ _ _ _ ?_ (by omega) (fun k hk => by cases hk; rfl) (fun hk => by cases hk), ?_⟩
            · rw [beq_nat]
              by_cases hML : M = L
              · subst hML; simpa using ha
              · rw [show (M == L) = false from beq_eq_false_iff_ne.2 hML, if_neg hML]
                exact ha.add _
            · simp only [Instr.slice, Sem.run_bind, run_under hu, Result.andThen_ok, h1, run_size (info_of_cells hs)]
              by_cases hML : M = L <;> simp [hML]
          · cases h
        · cases h
      · cases h
theorem rd_slice_sl {o : Oper} {ty e : TypeId} {x : Operand} {lo hi mx : Option Operand} {x' : Opd} {lo' hi' mx' : Option Opd} (ho : o.op = .slice ty x lo hi mx) (hx : OR x' x) (hlo : OO lo' lo) (hhi : OO hi' hi) (hmx : OO mx' mx)
    (hu : P.underlying ty = some (.slice e)) (hs : P.cellsOf e ≠ 0) : RdOk P o (k_slSl e (P.cellsOf e) x' lo' hi' mx') := by
  intro B m N t s a w v r ht h
  have hx := hx m N t a ht
  unfold k_slSl sliceSlA at h
  have nar : ∀ n e', TypeDesc.slice e ≠ .array n e' := by intro n e' h; cases h
  split at h
  · rename_i ex
    rw [ex] at hx
    cases hv : a.eval x <;> rw [hv] at hx <;> cases hx
    obtain ⟨rfl, h2⟩ := run_nilMx (P := P) (hlo.ev ht) (hhi.ev ht) (hmx.ev ht) h hu hs w
    exact ⟨_, .nils, by simp only [execOp, ho, hv, Sem.run_bind, sliceAt_not_arr hu nar, h2, Result.andThen_ok]; rfl⟩
  · rename_i id off len cap ex
    rw [ex] at hx
    cases hv : a.eval x <;> rw [hv] at hx <;> cases hx
    rename_i ad c h1 h2 h3 h4
    obtain ⟨v', g1, g2⟩ := run_sliceSl r (hlo.ev ht) (hhi.ev ht) (hmx.ev ht) h1 h2 h3 h4 h hu hs
    exact ⟨v', g1, by simp only [execOp, ho, hv, Sem.run_bind, sliceAt_not_arr hu nar, g2, Result.andThen_ok]; rfl⟩
  · cases h
end Go.Ab
