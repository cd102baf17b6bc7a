/- THE ABSTRACT EVALUATOR: a region whose order is drawn: what was run, operation by operation; which operations come ahead of which. -/
import Derived.Test.YtpangpggplacoaaGreatAbLoc
namespace Go.Ab
variable {P : Program} {B : Nat} {rc : RC} {ry : RY}

/-! ### the same value -/
theorem avEqL_eq : ∀ (f : Nat) (x y : List AV), avEqL f x y = true → x = y := by
  intro f
  induction f with
  | zero => intro x y h; cases h
  | succ f ih =>
    intro x y h
    unfold avEqL at h
    split at h
    · rfl
    · rename_i a x b y
      rw [Bool.and_eq_true] at h
      obtain ⟨h1, h2⟩ := h
      rw [ih _ _ h2]
      congr 1
      split at h1
      all_goals first
        | rfl
        | (cases h1; done)
        | (simp only [beq_nat, lbeq_eq, ibeq_eq, Bool.and_eq_true, beq_iff_eq, decide_eq_true_eq] at h1; first | (obtain ⟨⟨⟨e1, e2⟩, e3⟩, e4⟩ := h1; subst e1 e2 e3 e4; rfl) | (obtain ⟨⟨e1, e2⟩, e3⟩ := h1; subst e1 e2 e3; rfl) | (obtain ⟨e1, e2⟩ := h1; first | (rw [kbeq_true e1, e2]; done) | (subst e1 e2; rfl)) | (subst h1; rfl))
        | (rw [ih _ _ h1])
    · cases h
theorem avEq_eq {a b : AV} (h : avEq a b = true) : a = b := by have := avEqL_eq _ _ _ h; simpa using this

/-! ### what was run -/
structure Trace (rc : RC) (ry : RY) (sl : List SOp) (t : Nat → T AV) (s : Nat → St) : Prop where
  step : ∀ i so, sl[i]? = some so → doS rc ry so (t i) (s i) = some ⟨t (i + 1), s (i + 1)⟩
  look : ∀ i so f, sl[i]? = some so → so.k = .rd f → wantG so.guard (t i) = true → ∀ v, f (t i) (s i) = some v → ∀ p ∈ so.chk, f (t i) (s p) = some v

def shiftF {α : Type} (x : α) (f : Nat → α) : Nat → α
  | 0 => x
  | n + 1 => f n

theorem runOps_trace : ∀ (sl : List SOp) (t0 : T AV) (s0 : St) (t' : T AV) (s' : St), runOps rc ry sl t0 s0 = some ⟨t', s'⟩ →
    ∃ (t : Nat → T AV) (s : Nat → St), t 0 = t0 ∧ s 0 = s0 ∧ t sl.length = t' ∧ s sl.length = s' ∧ ∀ i so, sl[i]? = some so → doS rc ry so (t i) (s i) = some ⟨t (i + 1), s (i + 1)⟩ := by
  intro sl
  induction sl with
  | nil => intro t0 s0 t' s' h; cases h; exact ⟨fun _ => t0, fun _ => s0, rfl, rfl, rfl, rfl, fun i so h => by cases h⟩
  | cons o sl ih =>
    intro t0 s0 t' s' h
    obtain ⟨t1, s1, h1, h2⟩ := runOps_cons h
    obtain ⟨t, s, e1, e2, e3, e4, hs⟩ := ih t1 s1 t' s' h2
    refine ⟨shiftF t0 t, shiftF s0 s, rfl, rfl, e3, e4, fun i so hi => ?_⟩
    cases i with
    | zero => cases hi; show doS rc ry o t0 s0 = some ⟨t 0, s 0⟩; rw [e1, e2]; exact h1
    | succ i => exact hs i so hi

theorem doD_some {o : SOp} {x y : DS} (h : doD rc ry o x = some y) : doS rc ry o x.t x.s = some ⟨y.t, y.s⟩ ∧ y.bs = y.s :: x.bs ∧ (∀ l ∈ x.ls, l ∈ y.ls) ∧
    (∀ f, o.k = .rd f → wantG o.guard x.t = true → o.chk ≠ [] → ∃ v, f x.t x.s = some v ∧ (⟨f, x.t, v, o.chk⟩ : Look) ∈ y.ls) := by
  unfold doD at h
  unfold doS
  cases hw : wantG o.guard x.t with
  | false =>
    rw [hw] at h
    cases h
    exact ⟨rfl, rfl, fun l hl => hl, fun f _ hc => by cases hc⟩
  | true =>
    rw [hw] at h
    simp only [cond_true] at h ⊢
    split at h
    · rename_i v s1 hop
      cases h
      refine ⟨rfl, rfl, fun l hl => ?_, fun f hk _ hc => ?_⟩
      · unfold looksOf
        split
        · split
          · exact hl
          · exact List.mem_cons_of_mem _ hl
        · exact hl
      · rw [hk] at hop
        replace hop : valS x.s (f x.t x.s) = some (v, s1) := hop
        unfold valS at hop
        split at hop
        · rename_i v' hv
          cases hop
          refine ⟨v, hv, ?_⟩
          unfold looksOf
          rw [hk]
          simp only
          first
            | exact List.mem_cons_self ..
            | (split
               · rename_i he; exact absurd he hc
               · exact List.mem_cons_self ..)
        · cases hop
    · cases h

theorem runD_trace : ∀ (sl : List SOp) (x y : DS), runD rc ry sl x = some y →
    ∃ (t : Nat → T AV) (s : Nat → St), t 0 = x.t ∧ s 0 = x.s ∧ t sl.length = y.t ∧ s sl.length = y.s ∧ (∀ i so, sl[i]? = some so → doS rc ry so (t i) (s i) = some ⟨t (i + 1), s (i + 1)⟩) ∧
      y.bs.reverse = x.bs.reverse ++ (List.range sl.length).map (fun i => s (i + 1)) ∧ (∀ l ∈ x.ls, l ∈ y.ls) ∧
      (∀ i so f, sl[i]? = some so → so.k = .rd f → wantG so.guard (t i) = true → so.chk ≠ [] → ∃ v, f (t i) (s i) = some v ∧ (⟨f, t i, v, so.chk⟩ : Look) ∈ y.ls) := by
  intro sl
  induction sl with
  | nil => intro x y h; cases h; exact ⟨fun _ => x.t, fun _ => x.s, rfl, rfl, rfl, rfl, fun i so h => (by cases h), by simp, fun l hl => hl, fun i so f h => (by cases h)⟩
  | cons o sl ih =>
    intro x y h
    replace h : (match doD rc ry o x with | some x => runD rc ry sl x | none => none) = some y := h
    split at h
    · rename_i x1 h1
      obtain ⟨d1, d2, d3, d4⟩ := doD_some h1
      obtain ⟨t, s, e1, e2, e3, e4, hs, hb, hl, hk⟩ := ih x1 y h
      refine ⟨shiftF x.t t, shiftF x.s s, rfl, rfl, e3, e4, fun i so hi => ?_, ?_, fun l hx => hl l (d3 l hx), fun i so f hi => ?_⟩
      · cases i with
        | zero => cases hi; show doS rc ry o x.t x.s = some ⟨t 0, s 0⟩; rw [e1, e2]; exact d1
        | succ i => exact hs i so hi
      · rw [hb, d2, List.length_cons, List.range_succ_eq_map]
        simp only [List.reverse_cons, List.map_cons, List.map_map, List.append_assoc, List.singleton_append]
        show _ ++ x1.s :: _ = _ ++ s 0 :: _
        rw [e2]; rfl
      · cases i with
        | zero =>
          cases hi
          intro hk' hw hc
          obtain ⟨v, hv, hm⟩ := d4 f hk' hw hc
          exact ⟨v, hv, hl _ hm⟩
        | succ i => exact hk i so f hi
    · cases h

theorem reg_trace {sl : List SOp} {looks : Bool} (hlooks : looks = sl.any fun o => match o.chk with | [] => false | _ => true) {t0 t' : T AV} {s0 s' : St}
    (h : (bif looks then endD (runD rc ry sl ⟨t0, s0, [s0], []⟩) else runOps rc ry sl t0 s0) = some ⟨t', s'⟩) :
    ∃ (t : Nat → T AV) (s : Nat → St), t 0 = t0 ∧ s 0 = s0 ∧ t sl.length = t' ∧ s sl.length = s' ∧ Trace rc ry sl t s := by
  cases hb : looks with
  | false =>
    rw [hb] at h
    obtain ⟨t, s, e1, e2, e3, e4, hs⟩ := runOps_trace sl _ _ _ _ h
    refine ⟨t, s, e1, e2, e3, e4, hs, fun i so f hi _ _ v _ p hp => ?_⟩
    have hall : ∀ o ∈ sl, (match o.chk with | [] => false | _ => true) = false := by
      rw [hb] at hlooks
      have := List.any_eq_false.1 hlooks.symm
      intro o ho
      simpa using this o ho
    have hc := hall so (List.mem_of_getElem? hi)
    split at hc
    · rename_i he; rw [he] at hp; cases hp
    · cases hc
  | true =>
    rw [hb] at h
    simp only [cond_true] at h
    unfold endD at h
    split at h
    · rename_i y hy
      cases hl : lall (lookOk y.bs.reverse) y.ls with
      | false => rw [hl] at h; cases h
      | true =>
        rw [hl] at h
        simp only [cond_true] at h
        cases h
        obtain ⟨t, s, e1, e2, e3, e4, hs, hbs, _, hk⟩ := runD_trace sl _ y hy
        refine ⟨t, s, e1, e2, e3, e4, hs, fun i so f hi hkk hw v hv p hp => ?_⟩
        obtain ⟨v1, hv1, hm⟩ := hk i so f hi hkk hw (fun e => by rw [e] at hp; cases hp)
        rw [hv] at hv1; cases hv1
        rw [lall_eq, List.all_eq_true] at hl
        have h1 := hl _ hm
        unfold lookOk at h1
        rw [List.all_eq_true] at h1
        have h2 := h1 p hp
        rw [lnth_eq, hbs] at h2
        simp only [List.reverse_singleton, List.singleton_append] at h2
        have h3 : ∀ x, (s0 :: (List.range sl.length).map (fun i => s (i + 1)))[p]? = some x → x = s p := by
          intro x hx
          cases p with
          | zero => cases hx; exact e2.symm
          | succ p =>
            rw [List.getElem?_cons_succ, List.getElem?_map] at hx
            cases hr : (List.range sl.length)[p]? with
            | none => rw [hr] at hx; cases hx
            | some q =>
              rw [hr] at hx
              have := List.getElem?_range (n := sl.length) (i := p)
              cases hx
              obtain ⟨hlt, hq⟩ := List.getElem?_eq_some_iff.1 hr
              rw [List.getElem_range] at hq
              subst hq; rfl
        split at h2
        · rename_i x hx
          rw [h3 x hx] at h2
          split at h2
          · rename_i v2 hv2
            rw [hv2, avEq_eq h2]
          · cases h2
        · cases h2
    · cases h

/-! ### which come ahead of which -/
section
variable {ops : Array Oper}
def beforeStep (acc : Array Nat) (o : Oper) : Array Nat :=
  acc.push (o.after.foldl (fun s e => if Region.binds .any e then s ||| 2 ^ e.on ||| acc.getD e.on 0 else s) 0)
theorem before_eq : Region.before ops = ops.toList.foldl beforeStep #[] := by
  unfold Region.before
  rw [← Array.foldl_toList]
  rfl
theorem bits_fold (acc : Array Nat) (j : Nat) : ∀ (l : List Edge) (s0 : Nat), (l.foldl (fun s e => if Region.binds .any e then s ||| 2 ^ e.on ||| acc.getD e.on 0 else s) s0).testBit j = true →
    s0.testBit j = true ∨ ∃ e ∈ l, Region.binds .any e = true ∧ (j = e.on ∨ (acc.getD e.on 0).testBit j = true) := by
  intro l
  induction l with
  | nil => intro s0 h; exact .inl h
  | cons e l ih =>
    intro s0 h
    rw [List.foldl_cons] at h
    rcases ih _ h with h | ⟨e', he', hb, hj⟩
    · by_cases hb : Region.binds .any e = true
      · rw [if_pos hb, Nat.testBit_or, Nat.testBit_or, Nat.testBit_two_pow] at h
        simp only [Bool.or_eq_true, decide_eq_true_eq] at h
        rcases h with (h | h) | h
        · exact .inl h
        · exact .inr ⟨e, List.mem_cons_self .., hb, .inl h.symm⟩
        · exact .inr ⟨e, List.mem_cons_self .., hb, .inr h⟩
      · rw [if_neg hb] at h; exact .inl h
    · exact .inr ⟨e', List.mem_cons_of_mem _ he', hb, hj⟩
def BefOk (l : List Oper) (acc : Array Nat) : Prop :=
  acc.size = l.length ∧ ∀ i j, (acc.getD i 0).testBit j = true → ∃ o, l[i]? = some o ∧ ∃ e ∈ o.after, Region.binds .any e = true ∧ (j = e.on ∨ (acc.getD e.on 0).testBit j = true)
theorem getD_push {α : Type} (acc : Array α) (x d : α) (i : Nat) : (acc.push x).getD i d = if i = acc.size then x else acc.getD i d := by
  simp only [Array.getD_eq_getD_getElem?, Array.getElem?_push]
  split <;> rfl
theorem befOk_step {l : List Oper} {acc : Array Nat} (h : BefOk l acc) (o : Oper) : BefOk (l ++ [o]) (beforeStep acc o) := by
  obtain ⟨hsz, hb⟩ := h
  refine ⟨by unfold beforeStep; simp [hsz], fun i j hj => ?_⟩
  have keep : ∀ k, (acc.getD k 0).testBit j = true → ((beforeStep acc o).getD k 0).testBit j = true := by
    intro k hk
    unfold beforeStep
    rw [getD_push]
    have : k ≠ acc.size := fun e => by subst e; simp [Array.getD] at hk
    rw [if_neg this]; exact hk
  unfold beforeStep at hj
  rw [getD_push] at hj
  by_cases hi : i = acc.size
  · rw [if_pos hi, ← Array.foldl_toList] at hj
    rcases bits_fold acc j _ _ hj with h0 | ⟨e, he, hbe, hje⟩
    · simp at h0
    · refine ⟨o, by rw [hi, hsz]; simp, e, by simpa using he, hbe, ?_⟩
      rcases hje with hje | hje
      · exact .inl hje
      · exact .inr (keep _ hje)
  · rw [if_neg hi] at hj
    obtain ⟨o', ho', e, he, hbe, hje⟩ := hb i j hj
    refine ⟨o', ?_, e, he, hbe, ?_⟩
    · rw [List.getElem?_append_left (List.getElem?_eq_some_iff.1 ho').1]; exact ho'
    · rcases hje with hje | hje
      · exact .inl hje
      · exact .inr (keep _ hje)
theorem befOk_fold : ∀ (r l : List Oper) (acc : Array Nat), BefOk l acc → BefOk (l ++ r) (r.foldl beforeStep acc) := by
  intro r
  induction r with
  | nil => intro l acc h; simpa using h
  | cons o r ih =>
    intro l acc h
    have := ih (l ++ [o]) _ (befOk_step h o)
    simpa using this
theorem befOk : BefOk ops.toList (Region.before ops) := by
  rw [before_eq]
  have := befOk_fold ops.toList [] #[] ⟨rfl, fun i j h => by simp [Array.getD] at h⟩
  simpa using this

def Closed (ops : Array Oper) (D : Nat → Prop) : Prop := ∀ i o, ops[i]? = some o → D i → ∀ e ∈ o.after, Region.binds .any e = true → D e.on
theorem edges_lt (h : edgesOk ops.toList = true) {i : Nat} {o : Oper} (ho : ops[i]? = some o) {e : Edge} (he : e ∈ o.after) (hb : Region.binds .any e = true) : e.on < i := by
  unfold edgesOk at h
  rw [List.all_eq_true] at h
  have h1 := h (o, i) (by
    rw [List.mem_zipIdx_iff_getElem?]; simpa using ho)
  simp only [List.all_eq_true] at h1
  have h2 := h1 e (by simpa using he)
  rw [hb, blt_nat] at h2
  simpa using h2
theorem ahead {D : Nat → Prop} (hE : edgesOk ops.toList = true) (hc : Closed ops D) : ∀ (i j : Nat), ((Region.before ops).getD i 0).testBit j = true → D i → D j := by
  intro i
  induction i using Nat.strongRecOn with
  | _ i ih =>
    intro j hj hi
    obtain ⟨o, ho, e, he, hb, hje⟩ := befOk.2 i j hj
    have ho' : ops[i]? = some o := by simpa using ho
    have hd := hc i o ho' hi e he hb
    rcases hje with rfl | hje
    · exact hd
    · exact ih e.on (edges_lt hE ho' he hb) j hje hd
/-- of one that may come now -/
theorem ahead_ready {D : Nat → Prop} (hE : edgesOk ops.toList = true) (hc : Closed ops D) {i j : Nat} {o : Oper} (ho : ops[i]? = some o) (hr : ∀ e ∈ o.after, Region.binds .any e = true → D e.on)
    (hj : ((Region.before ops).getD i 0).testBit j = true) : D j := by
  obtain ⟨o', ho', e, he, hb, hje⟩ := befOk.2 i j hj
  have : ops[i]? = some o' := by simpa using ho'
  rw [ho] at this; cases this
  have hd := hr e he hb
  rcases hje with rfl | hje
  · exact hd
  · exact ahead hE hc e.on j hje hd
end
end Go.Ab
