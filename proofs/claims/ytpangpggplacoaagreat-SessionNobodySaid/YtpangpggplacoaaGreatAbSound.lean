/- THE ABSTRACT EVALUATOR: soundness: statements. -/
import Derived.Test.YtpangpggplacoaaGreatAbDrawC
import Derived.RangeFuncNested
namespace Go.Ab
variable {P : Program} {B : Nat} {rc : RC} {ry : RY} {rec : RJ}

def ExR : Ex → Exit → Prop
  | .normal, .normal => True
  | .ret, .ret => True
  | .exit i, .exit j => i = j
  | _, _ => False
inductive DfR (lo : Nat) (m : Mp) (s : St) : List Nat → List Deferred → Prop
  | nil : DfR lo m s [] []
  | cons (id : Nat) (df : List Nat) (ds : List Deferred) (b C sz : Nat) (hlo : lo ≤ id) (hlt : id < s.nx) (hs : s.at id = some .dfr) (hm : m id = .live b C sz) (hn : id ∉ df) (h : DfR lo m s df ds) :
      DfR lo m s (id :: df) ({ target := .collected b, args := #[] } :: ds)
theorem DfR.step {lo : Nat} {m m' : Mp} {s s' : St} {w w' : World} (h : Stp m s w m' s' w') {df : List Nat} {ds : List Deferred} (r : DfR lo m s df ds) : DfR lo m' s' df ds := by
  induction r with
  | nil => exact .nil
  | cons id df ds b C sz hlo hlt hs hm hn _ ih =>
    obtain ⟨h1, h2⟩ := h.dfr id hlt hs
    exact .cons id df ds b C sz hlo (Nat.lt_of_lt_of_le hlt h.nx) h1 (h2.trans hm) hn ih
theorem DfR.lt {lo : Nat} {m : Mp} {s : St} {df : List Nat} {ds : List Deferred} (r : DfR lo m s df ds) : ∀ id ∈ df, id < s.nx := by
  induction r with
  | nil => intro id h; cases h
  | cons id df ds b C sz hlo hlt hs hm hn _ ih =>
    intro i hi
    rcases List.mem_cons.1 hi with rfl | hi
    · exact hlt
    · exact ih i hi

def RoR (m : Mp) : Option Nat → Option Nat → Prop
  | none, none => True
  | some l, some b => MR m l b
  | _, _ => False
theorem RoR.mono {m m' : Mp} (h : Ext m m') {ro ro' : Option Nat} (r : RoR m ro ro') : RoR m' ro ro' := by
  cases ro <;> cases ro' <;> first | exact r | exact MR.mono h r

def JPost (P : Program) (B N lo : Nat) (m : Mp) (s : St) (w : World) (e : Ex) (x' : FS) : Exit → Act → World → Prop :=
  fun e' a' w' => ∃ m', ExR e e' ∧ R P B m' x'.s w' ∧ TR m' N x'.t a'.tmps ∧ DfR lo m' x'.s x'.df a'.defers ∧ Stp m s w m' x'.s w'
def JOk (P : Program) (B : Nat) (rj : RJ) : Prop :=
  ∀ N ro c x e x', rj N ro c x = some (e, x') → x.s.nx ≤ x'.s.nx ∧ ∀ (lo : Nat) (ro' : Option Nat) (m : Mp) (a : Act) (w : World), B ≤ w.heap.size → lo ≤ x.s.nx → RoR m ro ro' → R P B m x.s w → TR m N x.t a.tmps →
    DfR lo m x.s x.df a.defers → Fresh m x.s.nx x'.s.nx → c.wpIn (fen ro') 0 P (JPost P B N lo m x.s w e x') a w

theorem JPost.back {N lo : Nat} {m m1 : Mp} {s s1 : St} {w w1 : World} (h : Stp m s w m1 s1 w1) {e : Ex} {x' : FS} {e' : Exit} {a' : Act} {w' : World} (p : JPost P B N lo m1 s1 w1 e x' e' a' w') : JPost P B N lo m s w e x' e' a' w' := by
  obtain ⟨m', h1, h2, h3, h4, h5⟩ := p
  exact ⟨m', h1, h2, h3, h4, h.trans h5⟩

theorem reg_ok (hm : P.follows .mixedOrders = true) (hrc : RcOk P B rc) (hry : RyOk P B ry) {N id : Nat} {ops : Array Oper} {draw : Bool} {t t' : T AV} {s s' : St} (h : runReg rc ry (stageReg P N ops draw) t s = some ⟨t', s'⟩) :
    s.nx ≤ s'.nx ∧ ∀ {ro : Option Nat} {Q : Exit → Act → World → Prop} {m : Mp} {a : Act} {w : World}, B ≤ w.heap.size → R P B m s w → TR m N t a.tmps → Fresh m s.nx s'.nx →
      (∀ m' a' w', a'.defers = a.defers → TR m' N t' a'.tmps → R P B m' s' w' → Stp m s w m' s' w' → Q .normal a' w') → (Code.region id ops draw).wpIn (fen ro) 0 P Q a w := by
  unfold runReg at h
  split at h
  · cases h
  · rename_i l looks hst
    unfold stageReg at hst
    cases draw with
    | false =>
      simp only [cond_false] at hst
      split at hst
      · rename_i sl hsl
        cases hst
        exact ⟨runOps_nx hrc hry hsl h, fun hB r ht hf hQ => plain_ok hrc hry hsl h hB r ht hf hQ⟩
      · cases hst
    | true =>
      simp only [cond_true] at hst
      unfold regS at hst
      split at hst
      · rename_i sl hsl
        injection hst with hst
        injection hst with e1 e2
        subst e1
        have htr := reg_trace e2.symm h
        refine ⟨?_, fun hB r ht hf hQ => drawn_ok hm hrc hry hsl htr hB r ht hf hQ⟩
        obtain ⟨t1, s1, a1, a2, a3, a4, a5⟩ := htr
        obtain ⟨acts, hdo⟩ := drawn_spec hsl
        have c : Ctx P B rc ry N ops sl acts t1 s1 := ⟨hrc, hry, hdo, a5⟩
        rw [← a2, ← a4, hdo.len]
        exact c.nx (Nat.zero_le _) (Nat.le_refl _)
      · cases hst

/-! ### a range over a function -/
theorem Frame0.dummy : True := trivial

theorem setAll_ok {m : Mp} {N : Nat} : ∀ {ps : List Tmp} {args : List AV} {t t' : T AV}, setAll N ps args t = some t' → ∀ {a : Array Value} {xs : List Value}, TR m N t a → VRs m args xs →
    ps.length = xs.length ∧ TR m N t' ((ps.zip xs).foldl (fun tmps (t, a) => tmps.setIfInBounds t a) a) := by
  intro ps
  induction ps with
  | nil =>
    intro args t t' h a xs ht hv
    cases hv with
    | nil => cases h; exact ⟨rfl, ht⟩
    | cons => cases h
  | cons p ps ih =>
    intro args t t' h a xs ht hv
    cases hv with
    | nil => cases h
    | cons v v' l l' hv hl =>
      replace h : (bif Nat.blt p N then setAll N ps l (t.set (path p) v) else none) = some t' := h
      rw [blt_nat] at h
      by_cases hp : p < N
      · rw [decide_eq_true hp] at h
        obtain ⟨h1, h2⟩ := ih (show setAll N ps l (t.set (path p) v) = some t' from h) (ht.put hp hv) hl
        exact ⟨by simp [h1], h2⟩
      · rw [decide_eq_false hp] at h; cases h

theorem R.loop {m : Mp} {s : St} {w : World} (r : R P B m s w) {l b : Nat} (hl : MR m l b) {st : LoopState} {pend : Option Code} {N : Nat} {t : T AV} {ps : List Tmp} {asg body : Code} {d : Nat}
    (hs : s.at l = some (.loop st pend N t ps asg body d)) : ∃ C sz fn tmps ps' d', l < s.nx ∧ m l = .live b C sz ∧ w.heap[b]? = some (.loop { state := st, pending := pend, fn, tmps, params := ps', assign := asg, body, defers := d' }) ∧
      TR m N t tmps ∧ ps'.toList = ps ∧ MR m d d' := by
  obtain ⟨b', C, sz, o, h1, h2, h3, h4⟩ := r.live hl.ne hs (by intro h; cases h)
  have hb : b = b' := by unfold MR at hl; rw [h2] at hl; exact hl
  subst hb
  cases h4 with
  | loop _ _ _ _ _ _ _ _ fn tmps ps' d' ht hp hd => exact ⟨C, sz, fn, tmps, ps', d', h1, h2, h3, ht, hp, hd⟩

def jumpR : Ex → Exit → Option Code → Prop
  | .normal, .normal, none => True
  | .ret, .ret, some .ret => True
  | .exit i, .exit j, some (.exit k) => i = j ∧ i = k
  | _, _, _ => False

theorem endRd_ok {l b : Nat} {e : Ex} {x : FS} {v : AV} {s' : St} (h : endRd l (some (e, x)) = some (v, s')) : x.s.nx = s'.nx ∧
    ∀ {m : Mp} {w : World}, R P B m x.s w → MR m l b → ∃ v' w', (Instr.endRound b (jumpOf e)).run P w = .ok v' w' ∧ VR m v v' ∧ R P B m s' w' ∧ Stp m x.s w m s' w' := by
  unfold endRd at h
  simp only at h
  split at h
  · rename_i st pend N t ps asg body dfr hs
    split at h
    · rename_i hj
      cases h
      refine ⟨rfl, fun {m w} r hl => ?_⟩
      obtain ⟨C, sz, fn, tmps, ps', d', h1, h2, h3, h4, h5, h6⟩ := r.loop hl hs
      obtain ⟨p1, p2⟩ := r.putObj h1 h2 hs (by intro h; cases h) h3 (.loop .ready none N t ps asg body dfr fn tmps ps' d' h4 h5 h6)
      exact ⟨_, _, by rw [hj]; exact run_endRound none h3, .bool _, p1, p2⟩
    · rename_i c hj
      cases h
      refine ⟨rfl, fun {m w} r hl => ?_⟩
      obtain ⟨C, sz, fn, tmps, ps', d', h1, h2, h3, h4, h5, h6⟩ := r.loop hl hs
      obtain ⟨p1, p2⟩ := r.putObj h1 h2 hs (by intro h; cases h) h3 (.loop .done (some c) N t ps asg body dfr fn tmps ps' d' h4 h5 h6)
      exact ⟨_, _, by rw [hj]; exact run_endRound (some c) h3, .bool _, p1, p2⟩
  · cases h

theorem yieldF_ok (hj : JOk P B rec) : RyOk P B (yieldF rec) := by
  intro l args s v s' h
  unfold yieldF at h
  split at h
  · rename_i st pend N t ps asg body dfr hs
    split at h
    · rename_i t1 hset
      cases hasg : rec N (some l) asg ⟨t1, [], s⟩ with
      | none => rw [hasg] at h; cases h
      | some y =>
        obtain ⟨e1, x1⟩ := y
        rw [hasg] at h
        cases e1 with
        | ret => cases h
        | exit i => cases h
        | normal =>
          simp only [bodyRd] at h
          split at h
          · rename_i pend' N' t' ps' asg' bd dfr' hs1
            cases hbody : rec N (some l) body ⟨x1.t, x1.df, x1.s.put l (.loop .busy pend' N' t' ps' asg' bd dfr')⟩ with
            | none => rw [hbody] at h; cases h
            | some y =>
              obtain ⟨e2, x2⟩ := y
              rw [hbody] at h
              obtain ⟨hn1, hwp1⟩ := hj _ _ _ _ _ _ hasg
              obtain ⟨hn2, hwp2⟩ := hj _ _ _ _ _ _ hbody
              obtain ⟨hn3, _⟩ := endRd_ok (P := P) (B := B) (b := 0) h
              simp only at hn1 hwp1 hn2 hwp2
              simp only [St.nx_put] at hn2 hwp2
              refine ⟨by omega, fun m w b args' hB r hl hv hf => ?_⟩
              obtain ⟨C, sz, fn, tmps, psa, d', h1, h2, h3, h4, h5, h6⟩ := r.loop hl hs
              obtain ⟨hlen, htr⟩ := setAll_ok hset h4 hv
              refine ⟨fn, _, asg, body, run_yield h3 ?_, ?_⟩
              · simp only; rw [← Array.length_toList, ← Array.length_toList, h5, hlen]
              have hzip : (psa.zip args').foldl (fun tmps (t, a) => tmps.setIfInBounds t a) tmps = (ps.zip args'.toList).foldl (fun tmps (t, a) => tmps.setIfInBounds t a) tmps := by
                rw [← Array.foldl_toList, Array.toList_zip, h5]
              simp only [hzip]
              refine roundIn_of_wpIn (F := Fence.wide) trivial ?_
              have hk1 := hwp1 s.nx (some b) m { tmps := (ps.zip args'.toList).foldl (fun tmps (t, a) => tmps.setIfInBounds t a) tmps, defers := [] } w hB (Nat.le_refl _) hl r htr .nil (hf.left (by omega))
              refine wpIn_mono hk1 fun e a1 w1 hp => ?_
              obtain ⟨m1, he, r1, ht1, hd1, hst1⟩ := hp
              cases e <;> simp only [ExR] at he
              have hl1 : MR m1 l b := hl.mono hst1.ext
              obtain ⟨C1, sz1, fn1, tmps1, psa1, d1, g1, g2, g3, g4, g5, g6⟩ := r1.loop hl1 hs1
              obtain ⟨p1, p2⟩ := r1.putObj g1 g2 hs1 (by intro h; cases h) g3 (.loop .busy pend' N' t' ps' asg' bd dfr' fn1 tmps1 psa1 d1 g4 g5 g6)
              refine ⟨_, run_beginRound g3 rfl, ?_⟩
              have hst2 := hst1.trans p2
              have hk2 := hwp2 s.nx (some b) m1 a1 _ (Nat.le_trans hB hst2.size) (by omega) hl1 p1 ht1 (hd1.step p2) (by
                have := hf.right hst2
                simp only [St.nx_put] at this
                exact this.left (by omega))
              refine wpIn_mono hk2 fun e a2 w2 hp => ?_
              obtain ⟨m2, he2, r2, ht2, hd2, hst3⟩ := hp
              have hl2 : MR m2 l b := hl1.mono hst3.ext
              obtain ⟨_, hend⟩ := endRd_ok (P := P) (B := B) (b := b) h
              obtain ⟨v', w', hrun, hvr, r3, hst4⟩ := hend r2 hl2
              have hback : Back P B m s w v s' (.returned v') w' := ⟨v', m2, rfl, hvr, r3, (hst2.trans hst3).trans hst4⟩
              cases e2 <;> cases e <;> simp only [ExR] at he2
              · exact ⟨v', w', hrun, hback⟩
              · exact ⟨v', w', hrun, hback⟩
              · subst he2; exact ⟨v', w', hrun, hback⟩
          · cases h
    · cases h
  · cases h

/-! ### a function's call -/
theorem frameL_get : ∀ (args : List AV) (k : Nat) (t : T AV) (j : Nat), (frameL args k t).get (path j) = if k ≤ j ∧ j < k + args.length then args[j - k]? else t.get (path j) := by
  intro args
  induction args with
  | nil => intro k t j; rw [if_neg (by simp)]; rfl
  | cons v args ih =>
    intro k t j
    show (frameL args (k + 1) (t.set (path k) v)).get (path j) = _
    rw [ih, T.get_set]
    by_cases h1 : j = k
    · subst h1
      rw [if_neg (by omega), if_pos rfl, if_pos ⟨Nat.le_refl _, by simp⟩]; simp
    · rw [if_neg h1]
      by_cases h2 : k + 1 ≤ j ∧ j < k + 1 + args.length
      · rw [if_pos h2, if_pos ⟨by omega, by simp; omega⟩]
        have : j - k = (j - (k + 1)) + 1 := by omega
        rw [this]; simp
      · rw [if_neg h2, if_neg (by simp; omega)]
theorem frame_ok {m : Mp} {args : List AV} {args' : Array Value} (hv : VRs m args args'.toList) {N : Nat} (hN : args.length ≤ N) : TR m N (frameL args 0 .e) (args' ++ Array.replicate (N - args'.size) undef) := by
  have hlen : args.length = args'.size := by have := hv.length; simpa using this
  refine ⟨by simp; omega, fun k => ?_⟩
  unfold Opd.ev
  simp only [frameL_get]
  by_cases hk : k < args.length
  · rw [if_pos ⟨Nat.zero_le _, by omega⟩]
    have hk' : args[k]? = some args[k] := by simp [hk]
    obtain ⟨v', h1, h2⟩ := hv.nth hk'
    simp only [Nat.sub_zero, hk']
    rw [Array.getD_eq_getD_getElem?, Array.getElem?_append_left (by omega)]
    rw [Array.getElem?_toList] at h1
    rw [h1]; exact h2
  · rw [if_neg (by omega), T.get_e]
    simp only
    rw [Array.getD_eq_getD_getElem?, Array.getElem?_append_right (by omega), Array.getElem?_replicate]
    split <;> exact VR.undef _

theorem run_loadVar {m : Mp} {s : St} {w : World} (r : R P B m s w) {ty : TypeId} {d : TypeDesc} (hd : P.underlying ty = some d) {x : AV} {x' : Value} (hx : VR m x x') {v : AV} (h : loadA (aggT P ty) (P.cellsOf ty) s x = some v) :
    ∃ v' ad, x' = .pointer (some ad) ∧ VR m v v' ∧ (loadVar ty ad).run P w = .ok v' w := by
  unfold loadA at h
  split at h
  · rename_i id off
    split at h
    · rename_i c el op hs
      cases hx
      rename_i ad hr
      refine ?_
      obtain ⟨_, b, C, sz, arr, lo, hi, hc⟩ := r.cells hr.ne hs
      obtain rfl := hr.eq hc.live
      unfold partA at h
      cases hg : aggT P ty with
      | true =>
        rw [hg] at h
        simp only [cond_true] at h
        split at h
        · rename_i l hl
          cases h
          obtain ⟨vs, h1, h2, h3⟩ := hc.span hl
          exact ⟨.agg vs.toArray, _, rfl, .agg _ _ (by simpa using h2), by
            simp [loadVar, run_isAgg hd, hg, run_size (info_of_under hd), h3 w rfl]⟩
        · cases h
      | false =>
        rw [hg] at h
        simp only [cond_false, lnth_eq] at h
        obtain ⟨v', h1, h2⟩ := hc.nth h
        exact ⟨v', _, rfl, h2, by simp [loadVar, run_isAgg hd, hg, hc.cell, h1]⟩
    · cases h
  · cases h

def resOne (tmps : Array Value) : ResultVar → Sem Value
  | .tmp t => pure (tmps.getD t undef)
  | .cell a t => do loadVar t (← asAddr (tmps.getD a undef))
theorem resV_ok {m : Mp} {s : St} {w : World} (r : R P B m s w) {N : Nat} {t : T AV} {tmps : Array Value} (ht : TR m N t tmps) {x : ResultVar} {v : AV} (h : resV P t s x = some v) : ∃ v', VR m v v' ∧ (resOne tmps x).run P w = .ok v' w := by
  cases x with
  | tmp k => cases h; exact ⟨_, ht.get k, rfl⟩
  | cell a ty =>
    unfold resV at h
    simp only at h
    split at h
    · rename_i d hd
      obtain ⟨v', ad, h1, h2, h3⟩ := run_loadVar r hd (ht.get a) h
      exact ⟨v', h2, by unfold resOne; simp only [h1, asAddr, Sem.run_bind, Sem.run_pure, Result.andThen_ok, h3]⟩
    · cases h
theorem resL_ok {m : Mp} {s : St} {w : World} (r : R P B m s w) {N : Nat} {t : T AV} {tmps : Array Value} (ht : TR m N t tmps) : ∀ {l : List ResultVar} {vs : List AV}, resL P t s l = some vs →
    ∃ xs, VRs m vs xs ∧ (l.mapM (resOne tmps)).run P w = .ok xs w := by
  intro l
  induction l with
  | nil => intro vs h; cases h; exact ⟨[], .nil, by simp⟩
  | cons x l ih =>
    intro vs h
    replace h : resC (resV P t s x) (resL P t s l) = some vs := h
    unfold resC at h
    split at h
    · rename_i v hv
      obtain ⟨r', hr, rfl⟩ := consO_some h
      obtain ⟨xs, h1, h2⟩ := ih hr
      obtain ⟨v', h3, h4⟩ := resV_ok r ht hv
      exact ⟨v' :: xs, .cons _ _ _ _ h3 h1, by rw [List.mapM_cons]; simp only [Sem.run_bind, h4, Result.andThen_ok, h2, Sem.run_pure]⟩
    · cases h
theorem results_ok {m : Mp} {s : St} {w : World} (r : R P B m s w) {N : Nat} {t : T AV} {tmps : Array Value} (ht : TR m N t tmps) {fn : Func} {v : AV} (h : resA (resL P t s fn.results.toList) = some v) :
    ∃ v', VR m v v' ∧ (results fn tmps).run P w = .ok v' w := by
  have key : ∀ vs, resL P t s fn.results.toList = some vs → ∃ xs, VRs m vs xs ∧ ∀ k : Array Value → Sem Value, (fn.results.mapM (resOne tmps) >>= k).run P w = (k xs.toArray).run P w := by
    intro vs hvs
    obtain ⟨xs, h1, h2⟩ := resL_ok r ht hvs
    refine ⟨xs, h1, fun k => ?_⟩
    rw [Array.mapM_eq_mapM_toList]
    simp only [Sem.run_bind, bind_map_left, h2, Result.andThen_ok]
  have hres : ∀ xs : Array Value, (results fn tmps) = (fn.results.mapM (resOne tmps) >>= fun vs => pure (if h : vs.size = 1 then vs[0] else .tuple vs)) := by
    intro _
    unfold results
    congr 1
  rw [hres #[]]
  unfold resA at h
  split at h
  · rename_i v0 hv0
    cases h
    obtain ⟨xs, h1, h2⟩ := key _ hv0
    rw [h2]
    cases h1 with
    | cons _ x _ l' hx hl =>
      cases hl
      exact ⟨x, hx, by simp⟩
  · rename_i l hne hl
    cases h
    obtain ⟨xs, h1, h2⟩ := key _ hl
    rw [h2]
    refine ⟨.tuple xs.toArray, .tup _ _ (by simpa using h1), ?_⟩
    have hlen := h1.length
    have hn1 : l.length ≠ 1 := by
      intro hlen1
      obtain ⟨v1, rfl⟩ := List.length_eq_one_iff.1 hlen1
      exact hne v1 rfl
    have : ¬ xs.toArray.size = 1 := by simp; omega
    rw [dif_neg this]; simp
  · cases h
end Go.Ab
