/- THE ABSTRACT EVALUATOR: an operation, and a region in the text's order, in the walk's own words. -/
import Derived.Test.YtpangpggplacoaaGreatAbNx
namespace Go.Ab
variable {P : Program} {B : Nat}

/-- the fence that lets everything in, within a round or not -/
def fen (ro : Option Nat) : Fence := { Fence.wide with round := ro }
theorem fen_fn (ro : Option Nat) (f : FuncId) : (fen ro).fn f := trivial
theorem fen_depth (ro : Option Nat) : (fen ro).depth = none := rfl
theorem fen_calls {ro : Option Nat} {f : FuncId} {args : Array Value} {w : World} {X : Ending → World → Prop} (h : CallsIn Fence.wide 0 P f args w X) : CallsIn (fen ro) 0 P f args w X := h
theorem fen_round {ro : Option Nat} {l : Nat} {f : FuncId} {tmps : Array Value} {asg body : Code} {w : World} {X : Ending → World → Prop} (h : RoundIn Fence.wide 0 P l f tmps asg body w X) : RoundIn (fen ro) 0 P l f tmps asg body w X := h

/-- how a call ends, on both sides -/
def Back (P : Program) (B : Nat) (m : Mp) (s : St) (w : World) (v : AV) (s' : St) : Ending → World → Prop :=
  fun e w' => ∃ x m', e = .returned x ∧ VR m' v x ∧ R P B m' s' w' ∧ Stp m s w m' s' w'
def Enters (P : Program) (f : FuncId) : Prop := ∀ (args : Array Value) (w : World), (callFunc f args).run P w = .ok (.enter f args) w
def CallOk (P : Program) (B : Nat) (f : FuncId) (g : List AV → St → Option (AV × St)) : Prop :=
  ∀ args s v s', g args s = some (v, s') → Enters P f ∧ s.nx ≤ s'.nx ∧ ∀ (m : Mp) (w : World) (args' : Array Value), B ≤ w.heap.size → R P B m s w → VRs m args args'.toList → Fresh m s.nx s'.nx →
    CallsIn Fence.wide 0 P f args' w (Back P B m s w v s')
def RcOk (P : Program) (B : Nat) (rc : RC) : Prop := ∀ f, CallOk P B f (rc f)
def RyOk (P : Program) (B : Nat) (ry : RY) : Prop :=
  ∀ l args s v s', ry l args s = some (v, s') → s.nx ≤ s'.nx ∧ ∀ (m : Mp) (w : World) (b : Nat) (args' : Array Value), B ≤ w.heap.size → R P B m s w → MR m l b → VRs m args args'.toList → Fresh m s.nx s'.nx →
    ∃ fid tmps asg body, (Instr.yield b args').run P w = .ok (.round b fid tmps asg body) w ∧ RoundIn Fence.wide 0 P b fid tmps asg body w (Back P B m s w v s')

theorem stage_no_defer {o : Oper} {k : OpK} (h : stageK P o.op = some k) : ∀ c, o.op ≠ .defer c := by
  intro c hc; rw [hc] at h; cases h

section
variable {rc : RC} {ry : RY} {ro : Option Nat} {Q : Exit → Act → World → Prop}

theorem doOp_ok (hrc : RcOk P B rc) (hry : RyOk P B ry) {o : Oper} {k : OpK} (hk : stageK P o.op = some k) {t : T AV} {s s' : St} {v : AV} (h : doOp rc ry k t s = some (v, s'))
    {m : Mp} {N : Nat} {a : Act} {w : World} (hB : B ≤ w.heap.size) (r : R P B m s w) (ht : TR m N t a.tmps) (hf : Fresh m s.nx s'.nx) {next : Act → World → Prop}
    (hn : ∀ x m' w', VR m' v x → R P B m' s' w' → Stp m s w m' s' w' → next (a.put o.dst x) w') : o.wpIn (fen ro) 0 P a w next Q := by
  refine ⟨fun f _ => trivial, ?_⟩
  have hg := good hk
  rw [Oper.semAt_eq _ _ _ (stage_no_defer hk)]
  cases k with
  | pu f =>
    replace h : valS s (f t) = some (v, s') := h
    unfold valS at h
    split at h
    · rename_i v0 hv; cases h
      obtain ⟨v', hv', hrun⟩ := hg m N t a v ht hv
      rw [hrun w, Oper.uponIn_value]
      exact hn _ m w hv' r (Stp.refl _ _ _)
    · cases h
  | rd f =>
    replace h : valS s (f t s) = some (v, s') := h
    unfold valS at h
    split at h
    · rename_i v0 hv; cases h
      obtain ⟨v', hv', hrun⟩ := hg B m N t s a w v r ht hv
      rw [hrun, Oper.uponIn_value]
      exact hn _ m w hv' r (Stp.refl _ _ _)
    · cases h
  | al f =>
    replace h : newS s (f t) = some (v, s') := h
    unfold newS at h
    split at h
    · rename_i b kk hv; cases h
      obtain ⟨ob, C, sz, v', w', hrun, hheap, hos, htape, hout, hbr, hval⟩ := hg m N t a b kk w ht hv
      rw [hrun, Oper.uponIn_value]
      have hun : m s.nx = .un := hf s.nx (Nat.le_refl _) (by simp)
      exact hn _ _ _ (hval _ _ (by unfold Mp.bind; rw [if_pos rfl])) (r.new hB hun hheap hbr) (Stp.new hun hheap hos htape hout)
    · cases h
  | ef f =>
    replace h : f t s = some (v, s') := h
    obtain ⟨x, w', m', hrun, hx, r', hst⟩ := hg B m N t s a w v s' hB r ht hf h
    rw [hrun]
    rcases hx with ⟨v', rfl, hv'⟩ | ⟨rfl, rfl⟩
    · rw [Oper.uponIn_value]; exact hn _ _ _ hv' r' hst
    · rw [Oper.uponIn_skip]; exact hn _ _ _ (VR.undef _) r' hst
  | cl f args =>
    obtain ⟨c, fo, ho, hc, hfo, hargs⟩ := hg
    replace h : callA rc ry (f.ev t) (evs t args) s = some (v, s') := h
    unfold callA at h
    have hfv := hfo m N t a ht
    have hav := hargs.ev ht
    have hfin : ∀ (e : Ending) (w'' : World), Back P B m s w v s' e w'' → ∃ x, e = .returned x ∧ next (a.put o.dst x) w'' := by
      intro e w'' hb
      obtain ⟨x, m', rfl, hvx, r', hst⟩ := hb
      exact ⟨x, rfl, hn _ _ _ hvx r' hst⟩
    split at h
    · rename_i g first cap hfe
      rw [hfe] at hfv
      cases hv : a.eval fo <;> rw [hv] at hfv <;> cases hfv
      rename_i fn first' cap' hfn hfirst hcap
      cases fn <;> simp only [FnR] at hfn
      subst hfn
      obtain ⟨hent, _, hcall⟩ := hrc g _ s v s' h
      have hrun : (execOp a.eval o).run P w = .ok (.enter g (first' ++ c.args.map a.eval ++ cap')) w := by
        simp only [execOp, ho, resolve, hc, hv, Deferred.ofValue, invoke, Sem.run_bind, Sem.run_pure, Result.andThen_ok]; exact hent _ _
      rw [hrun, Oper.uponIn_enter]
      refine ⟨fun hd => (by cases hd), CallsIn.mono (fen_calls (hcall m w _ hB r ?_ hf)) fun e w'' hb => by obtain ⟨x, rfl, hx⟩ := hfin e w'' hb; exact hx⟩
      simp only [lapp_eq, Array.toList_append, Array.toList_map, List.append_assoc]
      exact hfirst.app (hav.app hcap)
    · rename_i l hfe
      rw [hfe] at hfv
      cases hv : a.eval fo <;> rw [hv] at hfv <;> cases hfv
      rename_i fn first' cap' hfn hfirst hcap
      cases fn <;> simp only [FnR] at hfn
      rename_i b
      have h1 : first' = #[] := by
        have := hfirst.length
        exact Array.eq_empty_of_size_eq_zero (by simpa using this.symm)
      subst h1
      obtain ⟨fid, tmps, asg, body, hy, hround⟩ := (hry l _ s v s' h).2 m w b (#[] ++ c.args.map a.eval) hB r hfn (by simpa using hav) hf
      have hrun : (execOp a.eval o).run P w = .ok (.round b fid tmps asg body) w := by
        simp only [execOp, ho, resolve, hc, hv, Deferred.ofValue, invoke, Sem.run_bind, Sem.run_pure, Result.andThen_ok, hy]
      rw [hrun, Oper.uponIn_round]
      exact ⟨fun hd => (by cases hd), RoundIn.mono (fen_round hround) fun e w'' hb => by obtain ⟨x, rfl, hx⟩ := hfin e w'' hb; exact hx⟩
    · cases h

theorem doOp_nx (hrc : RcOk P B rc) (hry : RyOk P B ry) {op : Op} {k : OpK} (hk : stageK P op = some k) {t : T AV} {s s' : St} {v : AV} (h : doOp rc ry k t s = some (v, s')) : s.nx ≤ s'.nx := by
  have hn := nxK hk
  cases k with
  | pu f =>
    replace h : valS s (f t) = some (v, s') := h
    unfold valS at h
    split at h
    · cases h; exact Nat.le_refl _
    · cases h
  | rd f =>
    replace h : valS s (f t s) = some (v, s') := h
    unfold valS at h
    split at h
    · cases h; exact Nat.le_refl _
    · cases h
  | al f =>
    replace h : newS s (f t) = some (v, s') := h
    unfold newS at h
    split at h
    · cases h; simp
    · cases h
  | ef f => exact hn t s v s' h
  | cl f args =>
    replace h : callA rc ry (f.ev t) (evs t args) s = some (v, s') := h
    unfold callA at h
    split at h
    · exact (hrc _ _ _ _ _ h).2.1
    · exact (hry _ _ _ _ _ h).1
    · cases h

theorem TR.put {m : Mp} {N : Nat} {t : T AV} {a : Array Value} (h : TR m N t a) {d : Nat} (hd : d < N) {v : AV} {x : Value} (hv : VR m v x) : TR m N (t.set (path d) v) (a.setIfInBounds d x) := by
  refine ⟨by simp [h.size], fun k => ?_⟩
  unfold Opd.ev
  simp only [T.get_set]
  by_cases hk : k = d
  · subst hk
    rw [if_pos rfl]
    have : k < a.size := by rw [h.size]; exact hd
    simp [Array.getD, this]; exact hv
  · rw [if_neg hk]
    have := h.get k
    unfold Opd.ev at this
    simp only at this
    have e : (a.setIfInBounds d x).getD k undef = a.getD k undef := by
      simp only [Array.getD_eq_getD_getElem?, Array.getElem?_setIfInBounds, if_neg (Ne.symm hk)]
    rw [e]; exact this
theorem TR.putO {m : Mp} {N : Nat} {t : T AV} {a : Act} (h : TR m N t a.tmps) {dst : Option Tmp} {d : Option (List Bool)} (hd : dstS N dst = some d) {v : AV} {x : Value} (hv : VR m v x) :
    TR m N (putT d v t) (a.put dst x).tmps := by
  cases dst with
  | none => cases hd; exact h
  | some d' =>
    replace hd : (bif Nat.blt d' N then some (some (path d')) else none) = some d := hd
    rw [blt_nat] at hd
    by_cases hlt : d' < N
    · rw [decide_eq_true hlt] at hd; cases hd; exact h.put hlt hv
    · rw [decide_eq_false hlt] at hd; cases hd
theorem put_defers (a : Act) (dst : Option Tmp) (x : Value) : (a.put dst x).defers = a.defers := by cases dst <;> rfl

theorem wantG_eq {m : Mp} {N : Nat} {t : T AV} {a : Act} (h : TR m N t a.tmps) {ops : Array Oper} {o : Oper} {g : Option (List Bool × Bool)} (hg : guardS ops.toList o.guard = some g) :
    wantG g t = Region.wanted o (yielded ops a.tmps) := by
  unfold Region.wanted
  cases hgu : o.guard with
  | none => rw [hgu] at hg; cases hg; rfl
  | some jw =>
    obtain ⟨j, want⟩ := jw
    rw [hgu] at hg
    simp only [guardS] at hg
    · split at hg
      · rename_i oj hoj
        split at hg
        · rename_i d hd
          cases hg
          have hoj' : ops[j]? = some oj := by simpa using hoj
          unfold yielded wantG
          simp only [hoj', Option.bind_some, hd]
          have hv := h.get d
          unfold Opd.ev at hv
          simp only at hv
          have key : ∀ b, a.tmps[d]? = some (.bool b) ↔ a.tmps.getD d undef = .bool b := by
            intro b
            rw [Array.getD_eq_getD_getElem?]
            cases a.tmps[d]? with
            | none => simp [undef]
            | some x => simp
          cases hgt : t.get (path d) with
          | none =>
            rw [hgt] at hv
            simp only at hv ⊢
            cases ha : a.tmps[d]? with
            | none => rfl
            | some x =>
              rw [Array.getD_eq_getD_getElem?, ha] at hv
              simp only [Option.getD_some] at hv
              cases hv; rfl
          | some v =>
            rw [hgt] at hv
            simp only at hv ⊢
            cases ha : a.tmps[d]? with
            | none =>
              rw [Array.getD_eq_getD_getElem?, ha] at hv
              simp only [Option.getD_none] at hv
              cases hv <;> first | rfl | (rename_i h1 _; cases h1)
            | some x =>
              rw [Array.getD_eq_getD_getElem?, ha] at hv
              simp only [Option.getD_some] at hv
              cases hv with
              | var _ _ _ _ h1 _ => cases x <;> first | rfl | cases h1
              | _ => first | rfl | (simp only; rename_i b; cases b <;> cases want <;> rfl)
        · cases hg
      · cases hg

theorem stageOp_some {N : Nat} {ops : List Oper} {chk : List Nat} {o : Oper} {so : SOp} (h : stageOp P N ops chk o = some so) :
    dstS N o.dst = some so.dst ∧ guardS ops o.guard = some so.guard ∧ stageK P o.op = some so.k ∧ so.chk = chk := by
  unfold stageOp sopOf at h
  split at h
  · rename_i d g k hd hg hk; cases h; exact ⟨hd, hg, hk, rfl⟩
  · cases h

/-- one operation of a region -/
theorem doS_ok (hrc : RcOk P B rc) (hry : RyOk P B ry) {ops : Array Oper} {i : Nat} {o : Oper} (ho : ops[i]? = some o) {N : Nat} {so : SOp}
    (hd : dstS N o.dst = some so.dst) (hg : guardS ops.toList o.guard = some so.guard) (hk : stageK P o.op = some so.k) {t t' : T AV} {s s' : St} (h : doS rc ry so t s = some ⟨t', s'⟩)
    {m : Mp} {a : Act} {w : World} (hB : B ≤ w.heap.size) (r : R P B m s w) (ht : TR m N t a.tmps) (hf : Fresh m s.nx s'.nx) {K : Act → World → Prop}
    (hn : ∀ m' a' w', a'.defers = a.defers → TR m' N t' a'.tmps → R P B m' s' w' → Stp m s w m' s' w' → K a' w') : wpOpIn (fen ro) 0 P ops Q i K a w := by
  unfold wpOpIn
  simp only [ho]
  unfold doS at h
  rw [wantG_eq ht hg] at h
  cases hw : Region.wanted o (yielded ops a.tmps) with
  | true =>
    rw [hw] at h
    simp only [cond_true] at h
    rw [if_pos rfl]
    split at h
    · rename_i v s1 hop
      cases h
      exact doOp_ok hrc hry hk hop hB r ht hf fun x m' w' hv r' hst => hn _ _ _ (put_defers _ _ _) ((ht.mono hst.ext).putO hd hv) r' hst
    · cases h
  | false =>
    rw [hw] at h
    simp only [cond_false] at h
    cases h
    rw [if_neg (by simp)]
    exact ⟨fun _ _ => trivial, hn _ _ _ (put_defers _ _ _) (ht.putO hd (VR.undef _)) r (Stp.refl _ _ _)⟩
theorem doS_nx (hrc : RcOk P B rc) (hry : RyOk P B ry) {op : Op} {so : SOp} (hk : stageK P op = some so.k) {t t' : T AV} {s s' : St} (h : doS rc ry so t s = some ⟨t', s'⟩) : s.nx ≤ s'.nx := by
  unfold doS at h
  cases hw : wantG so.guard t with
  | true =>
    rw [hw] at h
    simp only [cond_true] at h
    split at h
    · rename_i v s1 hop; cases h; exact doOp_nx hrc hry hk hop
    · cases h
  | false => rw [hw] at h; cases h; exact Nat.le_refl _

/-! ### a region in the text's order -/
theorem allS_cons {o : Option SOp} {r : List (Option SOp)} {l : List SOp} (h : allS (o :: r) = some l) : ∃ so l', o = some so ∧ allS r = some l' ∧ l = so :: l' := by
  cases o with
  | none => cases h
  | some so =>
    cases hr : allS r with
    | none => unfold allS at h; rw [hr] at h; cases h
    | some l' => unfold allS at h; rw [hr] at h; cases h; exact ⟨so, l', rfl, rfl, rfl⟩
theorem runOps_cons {so : SOp} {l : List SOp} {t : T AV} {s : St} {x : TS} (h : runOps rc ry (so :: l) t s = some x) : ∃ t1 s1, doS rc ry so t s = some ⟨t1, s1⟩ ∧ runOps rc ry l t1 s1 = some x := by
  replace h : (match doS rc ry so t s with | some ⟨t, s⟩ => runOps rc ry l t s | none => none) = some x := h
  split at h
  · rename_i t1 s1 h1; exact ⟨t1, s1, h1, h⟩
  · cases h
theorem runOps_nx (hrc : RcOk P B rc) (hry : RyOk P B ry) {N : Nat} {L : List Oper} : ∀ {l : List Oper} {sl : List SOp} {t t' : T AV} {s s' : St}, allS (l.map (stageOp P N L [])) = some sl → runOps rc ry sl t s = some ⟨t', s'⟩ → s.nx ≤ s'.nx := by
  intro l
  induction l with
  | nil => intro sl t t' s s' hs h; cases hs; cases h; exact Nat.le_refl _
  | cons o l ih =>
    intro sl t t' s s' hs h
    obtain ⟨so, sl', hso, hsl', rfl⟩ := allS_cons hs
    obtain ⟨t1, s1, h1, h2⟩ := runOps_cons h
    obtain ⟨_, _, hk, _⟩ := stageOp_some hso
    exact Nat.le_trans (doS_nx hrc hry hk h1) (ih hsl' h2)
theorem Fresh.left {m : Mp} {a b c : Nat} (h : Fresh m a c) (hbc : b ≤ c) : Fresh m a b := fun id h1 h2 => h id h1 (Nat.lt_of_lt_of_le h2 hbc)
theorem Fresh.right {m m' : Mp} {s s1 : St} {w w1 : World} {c : Nat} (h : Fresh m s.nx c) (hst : Stp m s w m' s1 w1) : Fresh m' s1.nx c := fun id h1 h2 => by
  rw [hst.high id h1]; exact h id (Nat.le_trans hst.nx h1) h2
theorem runOps_ok (hrc : RcOk P B rc) (hry : RyOk P B ry) {N : Nat} {ops : Array Oper} {t' : T AV} {s' : St} : ∀ (l : List Oper) (k : Nat) (sl : List SOp) (t : T AV) (s : St), (∀ j, l[j]? = ops[k + j]?) →
    allS (l.map (stageOp P N ops.toList [])) = some sl → runOps rc ry sl t s = some ⟨t', s'⟩ →
    ∀ (m : Mp) (a : Act) (w : World), B ≤ w.heap.size → R P B m s w → TR m N t a.tmps → Fresh m s.nx s'.nx →
    (∀ m' a' w', a'.defers = a.defers → TR m' N t' a'.tmps → R P B m' s' w' → Stp m s w m' s' w' → Q .normal a' w') →
    wpOpsIn (fen ro) 0 P ops Q (List.range' k l.length) a w := by
  intro l
  induction l with
  | nil =>
    intro k sl t s _ hs h m a w hB r ht hf hQ
    cases hs; cases h
    exact hQ m a w rfl ht r (Stp.refl _ _ _)
  | cons o l ih =>
    intro k sl t s hl hs h m a w hB r ht hf hQ
    obtain ⟨so, sl', hso, hsl', rfl⟩ := allS_cons hs
    obtain ⟨t1, s1, h1, h2⟩ := runOps_cons h
    obtain ⟨hd, hg, hk, _⟩ := stageOp_some hso
    have hle := runOps_nx hrc hry hsl' h2
    rw [List.length_cons, List.range'_succ, wpOpsIn_cons]
    refine doS_ok hrc hry (o := o) (by have := hl 0; simpa using this.symm) hd hg hk h1 hB r ht (hf.left hle) fun m1 a1 w1 hdf ht1 r1 hst => ?_
    refine ih (k + 1) sl' t1 s1 (fun j => by have := hl (j + 1); rw [List.getElem?_cons_succ] at this; rw [this]; congr 1; omega) hsl' h2 m1 a1 w1 (Nat.le_trans hB hst.size) r1 ht1 (hf.right hst) ?_
    intro m2 a2 w2 hdf2 ht2 r2 hst2
    exact hQ m2 a2 w2 (hdf2.trans hdf) ht2 r2 (hst.trans hst2)
theorem plain_ok (hrc : RcOk P B rc) (hry : RyOk P B ry) {N id : Nat} {ops : Array Oper} {sl : List SOp} {t t' : T AV} {s s' : St} (hs : allS (plain P N ops.toList) = some sl) (h : runOps rc ry sl t s = some ⟨t', s'⟩)
    {m : Mp} {a : Act} {w : World} (hB : B ≤ w.heap.size) (r : R P B m s w) (ht : TR m N t a.tmps) (hf : Fresh m s.nx s'.nx)
    (hQ : ∀ m' a' w', a'.defers = a.defers → TR m' N t' a'.tmps → R P B m' s' w' → Stp m s w m' s' w' → Q .normal a' w') : (Code.region id ops false).wpIn (fen ro) 0 P Q a w := by
  refine wpIn_region ?_
  rw [List.range_eq_range', ← Array.length_toList]
  exact runOps_ok hrc hry ops.toList 0 sl t s (fun j => by simp) hs h m a w hB r ht hf hQ

end
end Go.Ab
