/- THE ABSTRACT EVALUATOR: a region whose order is drawn goes as the text's own order does. -/
import Derived.Test.YtpangpggplacoaaGreatAbTrace
namespace Go.Ab
variable {P : Program} {B : Nat} {rc : RC} {ry : RY}

structure DrawnOk (P : Program) (N : Nat) (ops : Array Oper) (sl : List SOp) (acts : List Nat) : Prop where
  len : sl.length = ops.size
  st : ∀ i o, ops[i]? = some o → ∃ so, sl[i]? = some so ∧ dstS N o.dst = some so.dst ∧ guardS ops.toList o.guard = some so.guard ∧ stageK P o.op = some so.k ∧
    (∀ f, so.k = .rd f → so.chk = chkOf (Region.before ops).toList acts i)
  isAct : ∀ i so, sl[i]? = some so → (i ∈ acts ↔ isEff so.k = true)
  lt : ∀ i ∈ acts, i < ops.size
  edges : edgesOk ops.toList = true
  order : ∀ (i j : Nat) (o p : Oper) (d : Tmp), ops[i]? = some o → ops[j]? = some p → o.dst = some d → i ≠ j → (p.dst = some d ∨ d ∈ readsOf ops.toList p) → ((Region.before ops).getD (max i j) 0).testBit (min i j) = true
  chain : ∀ i j, i ∈ acts → j ∈ acts → i < j → ((Region.before ops).getD j 0).testBit i = true

theorem allS_nth : ∀ {l : List (Option SOp)} {r : List SOp}, allS l = some r → l = r.map some := by
  intro l
  induction l with
  | nil => intro r h; cases h; rfl
  | cons o l ih =>
    intro r h
    obtain ⟨so, l', rfl, h2, rfl⟩ := allS_cons h
    rw [ih h2]; rfl
theorem toList_getD {a : Array Nat} (i : Nat) : a.toList.getD i 0 = a.getD i 0 := by
  rw [List.getD_eq_getElem?_getD, Array.getD_eq_getD_getElem?, Array.getElem?_toList]
theorem drawn_spec {N : Nat} {ops : Array Oper} {sl : List SOp} (h : drawn P N ops = some sl) : ∃ acts, DrawnOk P N ops sl acts := by
  unfold drawn at h
  cases hb : (edgesOk ops.toList && orderOk ops.toList (Region.before ops).toList && chainOk (Region.before ops).toList (actsL (plain P N ops.toList))) with
  | false => rw [hb] at h; cases h
  | true =>
    rw [hb] at h
    simp only [cond_true] at h
    simp only [Bool.and_eq_true] at hb
    obtain ⟨⟨hE, hO⟩, hC⟩ := hb
    have hl := allS_nth h
    have hlen : sl.length = ops.size := by
      have := congrArg List.length hl
      simp [plain] at this
      exact this.symm
    have hnth : ∀ i o, ops[i]? = some o → ∃ so so0, sl[i]? = some so ∧ stageOp P N ops.toList [] o = some so0 ∧ so = { so0 with chk := (match so0.k with | .rd _ => chkOf (Region.before ops).toList (actsL (plain P N ops.toList)) i | _ => []) } := by
      intro i o ho
      have h1 := congrArg (fun l => l[i]?) hl
      simp only [List.getElem?_map, List.getElem?_zipIdx, plain, Array.getElem?_toList, ho, Option.map_some, Nat.zero_add] at h1
      cases hs : sl[i]? with
      | none => rw [hs] at h1; cases h1
      | some so =>
        rw [hs] at h1
        simp only [Option.map_some, Option.some.injEq] at h1
        cases hso : stageOp P N ops.toList [] o with
        | none => rw [hso] at h1; cases h1
        | some so0 =>
          rw [hso] at h1
          refine ⟨so, so0, rfl, rfl, ?_⟩
          obtain ⟨d, g, k, c⟩ := so0
          simp only [withChk, Option.some.injEq] at h1
          exact h1.symm
    refine ⟨actsL (plain P N ops.toList), hlen, fun i o ho => ?_, fun i so hi => ?_, fun i hi => ?_, hE, ?_, ?_⟩
    · obtain ⟨so, so0, h1, h2, rfl⟩ := hnth i o ho
      obtain ⟨a1, a2, a3, _⟩ := stageOp_some h2
      exact ⟨_, h1, a1, a2, a3, fun f hf => by simp only at hf ⊢; rw [hf]⟩
    · have hlt : i < ops.size := by rw [← hlen]; exact (List.getElem?_eq_some_iff.1 hi).1
      obtain ⟨so', so0, h1, h2, h3⟩ := hnth i ops[i] (by simp [hlt])
      rw [hi] at h1; cases h1
      unfold actsL
      rw [List.mem_filter, List.mem_range]
      have hp : (plain P N ops.toList)[i]? = some (some so0) := by
        unfold plain; rw [List.getElem?_map]; simp [hlt, h2]
      have : (plain P N ops.toList).length = ops.size := by simp [plain]
      rw [this]
      unfold effAt
      rw [hp, h3]
      simp [hlt]
    · unfold actsL at hi
      rw [List.mem_filter, List.mem_range] at hi
      simpa [plain] using hi.1
    · intro i j o p d ho hp hd hne hor
      unfold orderOk at hO
      rw [List.all_eq_true] at hO
      have h1 := hO (o, i) (by rw [List.mem_zipIdx_iff_getElem?]; simpa using ho)
      simp only [hd, List.all_eq_true] at h1
      have h2 := h1 (p, j) (by rw [List.mem_zipIdx_iff_getElem?]; simpa using hp)
      simp only [toList_getD] at h2
      rcases hor with hor | hor
      · simpa [hne, hor] using h2
      · simpa [hne, hor] using h2
    · intro i j hi hj hlt
      unfold chainOk at hC
      rw [List.all_eq_true] at hC
      have h1 := hC i hi
      rw [List.all_eq_true] at h1
      have h2 := h1 j hj
      rw [toList_getD, blt_nat] at h2
      simpa [hlt] using h2

/-! ### the states of the text's own order -/
section
variable {N : Nat} {ops : Array Oper} {sl : List SOp} {acts : List Nat} {t : Nat → T AV} {s : Nat → St}

structure Ctx (P : Program) (B : Nat) (rc : RC) (ry : RY) (N : Nat) (ops : Array Oper) (sl : List SOp) (acts : List Nat) (t : Nat → T AV) (s : Nat → St) : Prop where
  hrc : RcOk P B rc
  hry : RyOk P B ry
  d : DrawnOk P N ops sl acts
  tr : Trace rc ry sl t s

theorem Ctx.shape (c : Ctx P B rc ry N ops sl acts t s) {i : Nat} {o : Oper} (ho : ops[i]? = some o) : ∃ so v, sl[i]? = some so ∧ dstS N o.dst = some so.dst ∧ guardS ops.toList o.guard = some so.guard ∧ stageK P o.op = some so.k ∧
    t (i + 1) = putT so.dst v (t i) ∧ ((wantG so.guard (t i) = true ∧ doOp rc ry so.k (t i) (s i) = some (v, s (i + 1))) ∨ (wantG so.guard (t i) = false ∧ v = undefA ∧ s (i + 1) = s i)) := by
  obtain ⟨so, h1, h2, h3, h4, _⟩ := c.d.st i o ho
  have hstep := c.tr.step i so h1
  unfold doS at hstep
  cases hw : wantG so.guard (t i) with
  | true =>
    rw [hw] at hstep
    simp only [cond_true] at hstep
    split at hstep
    · rename_i v s1 hop
      injection hstep with hstep
      injection hstep with e1 e2
      exact ⟨so, v, h1, h2, h3, h4, e1.symm, .inl ⟨hw, e2 ▸ hop⟩⟩
    · cases hstep
  | false =>
    rw [hw] at hstep
    simp only [cond_false] at hstep
    injection hstep with hstep
    injection hstep with e1 e2
    exact ⟨so, undefA, h1, h2, h3, h4, e1.symm, .inr ⟨hw, rfl, e2.symm⟩⟩

theorem Ctx.nx1 (c : Ctx P B rc ry N ops sl acts t s) {i : Nat} (hi : i < ops.size) : (s i).nx ≤ (s (i + 1)).nx := by
  obtain ⟨so, v, h1, _, _, h4, _, h5⟩ := c.shape (i := i) (o := ops[i]) (by simp [hi])
  rcases h5 with ⟨_, h5⟩ | ⟨_, _, h5⟩
  · exact doOp_nx c.hrc c.hry h4 h5
  · rw [h5]; exact Nat.le_refl _
theorem Ctx.nx (c : Ctx P B rc ry N ops sl acts t s) {i : Nat} : ∀ {j : Nat}, i ≤ j → j ≤ ops.size → (s i).nx ≤ (s j).nx := by
  intro j
  induction j with
  | zero => intro h _; have : i = 0 := by omega
            subst this; exact Nat.le_refl _
  | succ j ih =>
    intro h hj
    rcases Nat.lt_or_ge j i with h1 | h1
    · have : i = j + 1 := by omega
      subst this; exact Nat.le_refl _
    · exact Nat.le_trans (ih h1 (by omega)) (c.nx1 (by omega))

/-- an operation that makes a block, in the text's own order -/
structure Mk (rc : RC) (ry : RY) (sl : List SOp) (t : Nat → T AV) (s : Nat → St) (i : Nat) (b : ABlk) : Prop where
  ex : ∃ so f kk, sl[i]? = some so ∧ so.k = .al f ∧ wantG so.guard (t i) = true ∧ f (t i) = some (b, kk)
  new : s (i + 1) = (s i).new b

theorem Mk.same {i : Nat} {b b' : ABlk} (h : Mk rc ry sl t s i b) (h' : Mk rc ry sl t s i b') : b = b' := by
  obtain ⟨so, f, kk, a1, a2, _, a4⟩ := h.ex
  obtain ⟨so', f', kk', b1, b2, _, b4⟩ := h'.ex
  rw [a1] at b1; cases b1
  rw [a2] at b2; cases b2
  rw [a4] at b4; cases b4; rfl
theorem Mk.lt (c : Ctx P B rc ry N ops sl acts t s) {i : Nat} {b : ABlk} (h : Mk rc ry sl t s i b) : i < ops.size := by
  obtain ⟨so, _, _, a1, _⟩ := h.ex
  rw [← c.d.len]; exact (List.getElem?_eq_some_iff.1 a1).1
theorem Mk.nx {i : Nat} {b : ABlk} (h : Mk rc ry sl t s i b) : (s (i + 1)).nx = (s i).nx + 1 := by rw [h.new]; rfl
theorem Mk.not_act (c : Ctx P B rc ry N ops sl acts t s) {i : Nat} {b : ABlk} (h : Mk rc ry sl t s i b) : i ∉ acts := by
  obtain ⟨so, f, kk, a1, a2, _⟩ := h.ex
  intro hi
  have := (c.d.isAct i so a1).1 hi
  rw [a2] at this; cases this

/-- no act: nothing turns, but that a block is made -/
theorem Ctx.quiet (c : Ctx P B rc ry N ops sl acts t s) {i : Nat} (hi : i < ops.size) (hn : i ∉ acts) : s (i + 1) = s i ∨ ∃ b, Mk rc ry sl t s i b := by
  obtain ⟨so, v, h1, _, _, h4, _, h5⟩ := c.shape (i := i) (o := ops[i]) (by simp [hi])
  rcases h5 with ⟨hw, h5⟩ | ⟨_, _, h5⟩
  · have hne : isEff so.k = false := by
      cases he : isEff so.k with
      | false => rfl
      | true => exact absurd ((c.d.isAct i so h1).2 he) hn
    cases hk : so.k with
    | pu f =>
      rw [hk] at h5
      replace h5 : valS (s i) (f (t i)) = some (v, s (i + 1)) := h5
      unfold valS at h5
      split at h5
      · injection h5 with h5; injection h5 with _ e; exact .inl e.symm
      · cases h5
    | rd f =>
      rw [hk] at h5
      replace h5 : valS (s i) (f (t i) (s i)) = some (v, s (i + 1)) := h5
      unfold valS at h5
      split at h5
      · injection h5 with h5; injection h5 with _ e; exact .inl e.symm
      · cases h5
    | al f =>
      rw [hk] at h5
      replace h5 : newS (s i) (f (t i)) = some (v, s (i + 1)) := h5
      unfold newS at h5
      split at h5
      · rename_i b kk hf
        injection h5 with h5; injection h5 with _ e
        exact .inr ⟨b, ⟨so, f, kk, h1, hk, hw, hf⟩, e.symm⟩
      · cases h5
    | ef f => rw [hk] at hne; cases hne
    | cl f args => rw [hk] at hne; cases hne
  · exact .inl h5

theorem Ctx.at_quiet (c : Ctx P B rc ry N ops sl acts t s) {i : Nat} : ∀ {j : Nat}, i ≤ j → j ≤ ops.size → (∀ e ∈ acts, i ≤ e → j ≤ e) → ∀ id, id < (s i).nx → (s j).at id = (s i).at id := by
  intro j
  induction j with
  | zero => intro h _ _ id _; have : i = 0 := by omega
            subst this; rfl
  | succ j ih =>
    intro h hj hn id hid
    rcases Nat.lt_or_ge j i with h1 | h1
    · have : i = j + 1 := by omega
      subst this; rfl
    · rw [← ih h1 (by omega) (fun e he hi => by have := hn e he hi; omega) id hid]
      rcases c.quiet (i := j) (by omega) (fun he => by have := hn j he h1; omega) with h2 | ⟨b, h2⟩
      · rw [h2]
      · rw [h2.new, St.at_new, if_neg (by have := c.nx h1 (by omega); omega)]

theorem Ctx.noWrite (c : Ctx P B rc ry N ops sl acts t s) {k i : Nat} : ∀ {j : Nat}, i ≤ j → j ≤ ops.size → (∀ q o, i ≤ q → q < j → ops[q]? = some o → o.dst ≠ some k) → (t j).get (path k) = (t i).get (path k) := by
  intro j
  induction j with
  | zero => intro h _ _; have : i = 0 := by omega
            subst this; rfl
  | succ j ih =>
    intro h hj hn
    rcases Nat.lt_or_ge j i with h1 | h1
    · have : i = j + 1 := by omega
      subst this; rfl
    · rw [← ih h1 (by omega) (fun q o hq hqj => hn q o hq (by omega))]
      have ho : ops[j]? = some ops[j] := by simp
      obtain ⟨so, v, h1', h2, _, _, h6, _⟩ := c.shape ho
      have hne := hn j ops[j] h1 (by omega) ho
      rw [h6]
      cases hd : (ops[j]).dst with
      | none => rw [hd] at h2; injection h2 with h2; rw [← h2]; rfl
      | some d =>
        rw [hd] at h2 hne
        replace h2 : (bif Nat.blt d N then some (some (path d)) else none) = some so.dst := h2
        cases hb : Nat.blt d N with
        | false => rw [hb] at h2; cases h2
        | true =>
          rw [hb] at h2
          injection h2 with h2
          rw [← h2]
          show ((t j).set (path d) v).get (path k) = _
          rw [T.get_set, if_neg (fun e => hne (by rw [e]))]
end
end Go.Ab
