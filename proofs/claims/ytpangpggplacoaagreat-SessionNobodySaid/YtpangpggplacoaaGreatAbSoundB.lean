/- THE ABSTRACT EVALUATOR: it is sound. -/
import Derived.Test.YtpangpggplacoaaGreatAbSound
namespace Go.Ab
variable {P : Program} {B : Nat} {rc : RC} {ry : RY} {rec : RJ}

/-! ### the marks among the deferred calls -/
theorem R.shut {m : Mp} {s : St} {w : World} (r : R P B m s w) {id b C sz : Nat} (hlt : id < s.nx) (hs : s.at id = some .dfr) (hm : m id = .live b C sz) (o : Obj) : R P B (m.bind id .dead) s (w.putObj b o) := by
  have he : Ext m (m.bind id .dead) := Ext.kill (by rw [hm]; intro h; cases h) (fun x => by rw [hm]; intro h; cases h)
  refine ⟨fun i b' C' sz' hi hl => ?_, fun i hi hd => ?_, r.top, fun i b' C' sz' hl => ?_, fun i i' b' C1 s1 C2 s2 h1 h2 => ?_⟩
  · unfold Mp.bind at hl
    by_cases e : i = id
    · rw [if_pos e] at hl; cases hl
    · rw [if_neg e] at hl
      obtain ⟨x, o', h1, h2, h3⟩ := r.blk i b' C' sz' hi hl
      have : b' ≠ b := fun hb => by subst hb; exact e (r.inj _ _ _ _ _ _ _ hl hm)
      exact ⟨x, o', h1, by rw [World.putObj_heap_other this]; exact h2, h3.mono he⟩
  · unfold Mp.bind at hd
    by_cases e : i = id
    · subst e; exact hs
    · rw [if_neg e] at hd; exact r.dead i hi hd
  · unfold Mp.bind at hl
    by_cases e : i = id
    · rw [if_pos e] at hl; cases hl
    · rw [if_neg e] at hl; rw [World.putObj_size]; exact r.base i b' C' sz' hl
  · unfold Mp.bind at h1 h2
    by_cases e : i = id
    · rw [if_pos e] at h1; cases h1
    · by_cases e' : i' = id
      · rw [if_pos e'] at h2; cases h2
      · rw [if_neg e] at h1; rw [if_neg e'] at h2; exact r.inj _ _ _ _ _ _ _ h1 h2
theorem Stp.shut {m0 m : Mp} {s0 s : St} {w0 w : World} (h : Stp m0 s0 w0 m s w) {id b C sz : Nat} (hge : s0.nx ≤ id) (hlt : id < s.nx) (hm : m id = .live b C sz) (o : Obj) : Stp m0 s0 w0 (m.bind id .dead) s (w.putObj b o) := by
  have hb : ∀ i, i ≠ id → (m.bind id .dead) i = m i := fun i hi => by unfold Mp.bind; rw [if_neg hi]
  refine ⟨h.ext.trans (Ext.kill (by rw [hm]; intro h; cases h) (fun x => by rw [hm]; intro h; cases h)), fun i hi hu => ?_, fun i hi => ?_, fun i hi hd => ?_, h.nx, fun c hc hn => ?_, by rw [World.putObj_size]; exact h.size, fun i b' C' sz' hi hl => ?_, h.os, h.tape, h.output⟩
  · rw [hb i (by omega)]; exact h.low i hi hu
  · rw [hb i (by omega)]; exact h.high i hi
  · rw [hb i (by omega)]; exact h.dfr i hi hd
  · have : c ≠ b := by
      intro e; subst e
      rcases h.fresh id c C sz hlt hm with h1 | ⟨i0, C0, sz0, h1, h2⟩
      · omega
      · exact hn i0 C0 sz0 h1 h2
    rw [World.putObj_heap_other this]; exact h.frame c hc hn
  · by_cases e : i = id
    · unfold Mp.bind at hl; rw [if_pos e] at hl; cases hl
    · rw [hb i e] at hl; exact h.fresh i b' C' sz' hi hl
theorem DfR.shut {lo : Nat} {m : Mp} {s : St} {df : List Nat} {ds : List Deferred} (r : DfR lo m s df ds) {id : Nat} (h : id ∉ df) : DfR lo (m.bind id .dead) s df ds := by
  induction r with
  | nil => exact .nil
  | cons i df ds b C sz hlo hlt hs hm hn _ ih =>
    rw [List.mem_cons] at h
    exact .cons i df ds b C sz hlo hlt hs (by unfold Mp.bind; rw [if_neg (fun e => h (.inl e.symm))]; exact hm) hn (ih (fun h' => h (.inr h')))

theorem leaves_ok {fn : Func} {v : AV} {s0 s : St} {m0 : Mp} {w0 : World} {t : T AV} {tmps : Array Value} {N lo : Nat} (hres : resA (resL P t s fn.results.toList) = some v) (hlo : s0.nx ≤ lo) :
    ∀ (df : List Nat) (ds : List Deferred) (m : Mp) (w : World), DfR lo m s df ds → R P B m s w → TR m N t tmps → Stp m0 s0 w0 m s w → LeavesInM Fence.wide 0 P fn tmps (Back P B m0 s0 w0 v s) ds .returning w := by
  intro df
  induction df with
  | nil =>
    intro ds m w hd r ht hst
    cases hd
    obtain ⟨v', h1, h2⟩ := results_ok r ht hres
    exact ⟨v', h2, v', m, rfl, h1, r, hst⟩
  | cons id df ih =>
    intro ds m w hd r ht hst
    cases hd with
    | cons _ _ ds b C sz hlo' hlt hs hm hn hd =>
    refine ⟨(by intro h; cases h), .inl ⟨b, w.putObj b (.deferred none), rfl, ?_, ?_⟩⟩
    · obtain ⟨x, o, h1, h2, h3⟩ := r.blk id b C sz hlt hm
      rw [hs] at h1; cases h1
      cases h3
      exact run_takeDeferred h2
    · exact ih ds _ _ (hd.shut hn) (r.shut hlt hs hm _) (ht.mono (Ext.kill (by rw [hm]; intro h; cases h) (fun x => by rw [hm]; intro h; cases h))) (hst.shut (by omega) hlt hm _)

/-- no function of the run-time's that the machine takes for itself -/
def NameOk (P : Program) : Prop := ∀ (f : FuncId) (fn : Func), P.funcs[f]? = some fn → fn.body.isSome = true → (fn.name == "runtime.NumGoroutine") = false
theorem enters (hN : NameOk P) {f : FuncId} {fn : Func} {c : Code} (hf : P.funcs[f]? = some fn) (hb : fn.body = some c) : Enters P f := by
  intro args w
  have hn := hN f fn hf (by rw [hb]; rfl)
  unfold callFunc
  simp only [Sem.run_bind, run_program, Result.andThen_ok, hf, hn, hb]
  simp

theorem callC_ok (hN : NameOk P) (hj : JOk P B rec) {f : FuncId} {fn : Func} (hf : P.funcs[f]? = some fn) : CallOk P B f (callC P rec fn) := by
  intro args s v s' h
  unfold callC at h
  split at h
  · cases h
  · rename_i c hb
    rw [ble_nat, llen_eq] at h
    by_cases hle : args.length ≤ fn.ntmps
    · rw [decide_eq_true hle] at h
      simp only [cond_true] at h
      cases hrec : rec fn.ntmps none c ⟨frameL args 0 .e, [], s⟩ with
      | none => rw [hrec] at h; cases h
      | some y =>
        obtain ⟨e, x⟩ := y
        rw [hrec] at h
        obtain ⟨hn, hwp⟩ := hj _ _ _ _ _ _ hrec
        simp only at hn hwp
        have hfin : ∃ (he : e = .normal ∨ e = .ret), resA (resL P x.t x.s fn.results.toList) = some v ∧ x.s = s' := by
          unfold retS at h
          split at h
          · cases h
          · rename_i e' x' hne heq
            cases heq
            cases hmk : marksOk x.s x.df with
            | false => rw [hmk] at h; cases h
            | true =>
              rw [hmk] at h
              simp only [cond_true] at h
              split at h
              · rename_i v1 hv1
                cases h
                refine ⟨?_, hv1, rfl⟩
                cases e with
                | normal => exact .inl rfl
                | ret => exact .inr rfl
                | exit i => exact (hne i rfl).elim
              · cases h
          · cases h
        obtain ⟨he, hres, rfl⟩ := hfin
        refine ⟨enters hN hf hb, hn, fun m w args' hB r hv hfr => ?_⟩
        refine callsIn_of_wp_marks hf hb trivial ?_
        have := hwp s.nx none m { tmps := args' ++ Array.replicate (fn.ntmps - args'.size) undef, defers := [] } w hB (Nat.le_refl _) trivial r (frame_ok hv hle) .nil hfr
        refine wpIn_mono this fun e' a' w' hp => ?_
        obtain ⟨m', h1, h2, h3, h4, h5⟩ := hp
        have hl := leaves_ok hres (Nat.le_refl _) _ _ _ _ h4 h2 h3 h5
        rcases he with rfl | rfl <;> cases e' <;> simp only [ExR] at h1 <;> exact hl
    · rw [decide_eq_false hle] at h; cases h
theorem callN_ok (hN : NameOk P) (hj : JOk P B rec) : RcOk P B (callN P rec) := by
  intro f args s v s' h
  unfold callN at h
  split at h
  · rename_i fn hf; exact callC_ok hN hj hf args s v s' h
  · cases h
/-- what stands in a function's place -/
def OvOk (P : Program) (B : Nat) (ov : Ov) : Prop := ∀ rc, RcOk P B rc → ∀ f g, ov f = some g → CallOk P B f (g rc)
theorem callF_ok (hN : NameOk P) {ov : Ov} (hov : OvOk P B ov) (hj : JOk P B rec) : RcOk P B (callF P ov rec) := by
  intro f args s v s' h
  unfold callF at h
  split at h
  · rename_i g hg; exact hov _ (callN_ok hN hj) f g hg args s v s' h
  · split at h
    · rename_i fn hf; exact callC_ok hN hj hf args s v s' h
    · cases h

/-! ### a range over a function -/
theorem rangeEnd_ok (hj : JOk P B rec) {N : Nat} {ro : Option Nat} {l : Nat} {t : T AV} {df : List Nat} {v : AV} {s2 : St} {e : Ex} {x' : FS}
    (h : rangeEnd (fun x c => rec N ro c x) l t df (some (v, s2)) = some (e, x')) : s2.nx ≤ x'.s.nx ∧
    ∀ {lo b : Nat} {ro' : Option Nat} {m : Mp} {w : World} {a : Act} {v' : Value}, B ≤ w.heap.size → lo ≤ s2.nx → RoR m ro ro' → R P B m s2 w → MR m l b → TR m N t a.tmps → DfR lo m s2 df a.defers → Fresh m s2.nx x'.s.nx →
      rangePost (fen ro') 0 P b (JPost P B N lo m s2 w e x') a (.returned v') w := by
  unfold rangeEnd at h
  simp only at h
  split at h
  · rename_i st pend N' lt ps asg body dfr hs
    have hst : st ≠ .busy := by intro e; subst e; cases h
    have hend : ∀ {m : Mp} {w : World} {b : Nat}, R P B m s2 w → MR m l b → ∃ w', (Instr.endLoop b).run P w = .ok pend w' ∧ R P B m (s2.put l (.loop .exhausted pend N' lt ps asg body dfr)) w' ∧
        Stp m s2 w m (s2.put l (.loop .exhausted pend N' lt ps asg body dfr)) w' := by
      intro m w b r hl
      obtain ⟨C, sz, fn, tmps, ps', d', h1, h2, h3, h4, h5, h6⟩ := r.loop hl hs
      obtain ⟨p1, p2⟩ := r.putObj h1 h2 hs (by intro h; cases h) h3 (.loop .exhausted pend N' lt ps asg body dfr fn tmps ps' d' h4 h5 h6)
      exact ⟨_, run_endLoop h3 hst, p1, p2⟩
    cases pend with
    | none =>
      have h' : some (Ex.normal, (⟨t, df, s2.put l (.loop .exhausted none N' lt ps asg body dfr)⟩ : FS)) = some (e, x') := by
        cases st with
        | busy => exact absurd rfl hst
        | ready => exact h
        | done => exact h
        | exhausted => exact h
      cases h'
      refine ⟨by simp, fun {lo b ro' m w a v'} hB hlo hro r hl ht hd hf => ?_⟩
      obtain ⟨w', h1, h2, h3⟩ := hend r hl
      exact ⟨none, w', h1, m, trivial, h2, ht, hd.step h3, h3⟩
    | some c =>
      have h' : rec N ro c ⟨t, df, s2.put l (.loop .exhausted (some c) N' lt ps asg body dfr)⟩ = some (e, x') := by
        cases st with
        | busy => exact absurd rfl hst
        | ready => exact h
        | done => exact h
        | exhausted => exact h
      obtain ⟨hn, hwp⟩ := hj _ _ _ _ _ _ h'
      simp only [St.nx_put] at hn hwp
      refine ⟨hn, fun {lo b ro' m w a v'} hB hlo hro r hl ht hd hf => ?_⟩
      obtain ⟨w', h1, h2, h3⟩ := hend r hl
      refine ⟨some c, w', h1, ?_⟩
      refine wpIn_mono (hwp lo ro' m a w' (Nat.le_trans hB h3.size) hlo hro h2 ht (hd.step h3) hf) fun e' a' w'' hp => hp.back h3
  · cases h

theorem rangeS_ok (hrc : RcOk P B rc) (hj : JOk P B rec) {N : Nat} {ro : Option Nat} {f : Operand} {ps : Array Tmp} {asg body : Code} {x : FS} {e : Ex} {x' : FS}
    (h : rangeS rc (fun x c => rec N ro c x) N ro (opd f) ps.toList asg body x = some (e, x')) : x.s.nx ≤ x'.s.nx ∧
    ∀ (lo : Nat) (ro' : Option Nat) (m : Mp) (a : Act) (w : World), B ≤ w.heap.size → lo ≤ x.s.nx → RoR m ro ro' → R P B m x.s w → TR m N x.t a.tmps → DfR lo m x.s x.df a.defers → Fresh m x.s.nx x'.s.nx →
      (Code.rangeFunc f ps asg body).wpIn (fen ro') 0 P (JPost P B N lo m x.s w e x') a w := by
  unfold rangeS at h
  split at h
  · cases h
  · rename_i fo hfo
    have hOR := opd_or hfo
    split at h
    · -- an outermost loop
      cases hc : rangeCallA rc (fo.ev x.t) (x.s.nx + 1) ((x.s.new .dfr).new (.loop .ready none N x.t ps.toList asg body x.s.nx)) with
      | none => rw [hc] at h; cases h
      | some y =>
        obtain ⟨v, s2⟩ := y
        rw [hc] at h
        obtain ⟨hn2, hend⟩ := rangeEnd_ok hj h
        unfold rangeCallA at hc
        split at hc
        · rename_i g first cap hfe
          obtain ⟨hent, hn1, hcall⟩ := hrc g _ _ v s2 hc
          simp only [St.nx_new] at hn1 hcall
          refine ⟨by omega, fun lo ro' m a w hB hlo hro r ht hd hf => ?_⟩
          cases ro' with
          | some _ => exact hro.elim
          | none =>
          refine wpIn_rangeFunc fun fid _ => ?_
          have hfv := hOR m N x.t a ht
          rw [hfe] at hfv
          cases hv : a.eval f <;> rw [hv] at hfv <;> cases hfv
          rename_i fn' first' cap' hfn hfirst hcap
          cases fn' <;> simp only [FnR] at hfn
          subst hfn
          -- the two blocks
          have hu0 : m x.s.nx = .un := hf _ (Nat.le_refl _) (by omega)
          have r1 := r.new (w' := w.alloc (.deferred (some []))) hB hu0 rfl (.dfr : BR P m 0 0 .dfr (.deferred (some [])))
          have st1 := Stp.new (w := w) (w' := w.alloc (.deferred (some []))) hu0 (x := ABlk.dfr) (o := .deferred (some [])) (C := 0) (sz := 0) rfl rfl rfl rfl
          generalize hm1 : m.bind x.s.nx (.live w.heap.size 0 0) = m1 at r1 st1
          have hm1d : m1 x.s.nx = .live w.heap.size 0 0 := by rw [← hm1]; unfold Mp.bind; rw [if_pos rfl]
          have hu1 : m1 (x.s.new .dfr).nx = .un := by
            rw [← hm1]; unfold Mp.bind; rw [St.nx_new, if_neg (by omega)]; exact hf _ (by omega) (by omega)
          have hbl : BR P m1 0 0 (.loop .ready none N x.t ps.toList asg body x.s.nx) (.loop { state := .ready, pending := none, fn := fid, tmps := a.tmps, params := ps, assign := asg, body := body, defers := w.heap.size }) :=
            .loop _ _ _ _ _ _ _ _ _ _ _ _ (ht.mono st1.ext) rfl (by unfold MR; rw [hm1d])
          have hB1 : B ≤ (w.alloc (.deferred (some []))).heap.size := Nat.le_trans hB st1.size
          have r2 := r1.new (w' := (w.alloc (.deferred (some []))).alloc (.loop { state := .ready, pending := none, fn := fid, tmps := a.tmps, params := ps, assign := asg, body := body, defers := w.heap.size })) hB1 hu1 rfl hbl
          have st2 := Stp.new (w := w.alloc (.deferred (some []))) (w' := (w.alloc (.deferred (some []))).alloc (.loop { state := .ready, pending := none, fn := fid, tmps := a.tmps, params := ps, assign := asg, body := body, defers := w.heap.size })) hu1
            (x := ABlk.loop .ready none N x.t ps.toList asg body x.s.nx) (o := .loop { state := .ready, pending := none, fn := fid, tmps := a.tmps, params := ps, assign := asg, body := body, defers := w.heap.size }) (C := 0) (sz := 0) rfl rfl rfl rfl
          have hsz1 : (w.alloc (.deferred (some []))).heap.size = w.heap.size + 1 := by show (w.heap.push _).size = _; simp
          rw [hsz1] at r2 st2
          simp only [St.nx_new] at r2 st2
          generalize hm2 : m1.bind (x.s.nx + 1) (.live (w.heap.size + 1) 0 0) = m2 at r2 st2
          have hm2l : m2 (x.s.nx + 1) = .live (w.heap.size + 1) 0 0 := by rw [← hm2]; unfold Mp.bind; rw [if_pos rfl]
          have hm2d : m2 x.s.nx = .live w.heap.size 0 0 := by rw [← hm2]; unfold Mp.bind; rw [if_neg (by omega)]; exact hm1d
          have st12 := st1.trans st2
          refine ⟨w.heap.size + 1, _, ((w.alloc (.deferred (some []))).alloc (.loop { state := .ready, pending := none, fn := fid, tmps := a.tmps, params := ps, assign := asg, body := body, defers := w.heap.size })), { target := .fn (.func g) cap', args := first' ++ #[.func (.yield (w.heap.size + 1)) #[] #[]] }, ((w.alloc (.deferred (some []))).alloc (.loop { state := .ready, pending := none, fn := fid, tmps := a.tmps, params := ps, assign := asg, body := body, defers := w.heap.size })), g, first' ++ #[.func (.yield (w.heap.size + 1)) #[] #[]] ++ cap', ((w.alloc (.deferred (some []))).alloc (.loop { state := .ready, pending := none, fn := fid, tmps := a.tmps, params := ps, assign := asg, body := body, defers := w.heap.size })),
            run_enterLoop_outer fid a.tmps ps asg body, ?_, fun _ _ => trivial, ?_, (fun h => by cases h), ?_⟩
          · simp only [resolve, hv, Deferred.ofValue, Sem.run_pure, List.map_toArray, List.map_cons, List.map_nil]; rfl
          · simp only [invoke]; exact hent _ _
          · have hmr : MR m2 (x.s.nx + 1) (w.heap.size + 1) := by unfold MR; rw [hm2l]
            have hargs : VRs m2 (lapp first (.fn (.yield (x.s.nx + 1)) [] [] :: cap)) (first' ++ #[Value.func (.yield (w.heap.size + 1)) #[] #[]] ++ cap').toList := by
              simp only [lapp_eq, Array.toList_append, List.append_assoc]
              refine (hfirst.mono st12.ext).app ?_
              exact .cons _ _ _ _ (.fn (.yield _) (.yield _) _ _ _ _ hmr .nil .nil) (hcap.mono st12.ext)
            have hcl := hcall m2 _ _ (Nat.le_trans hB st12.size) r2 hargs (by
              have := hf.right st12
              simp only [St.nx_new] at this
              exact this.left (by omega))
            refine CallsIn.mono (fen_calls hcl) fun e' w3 hb => ?_
            obtain ⟨xv, m3, rfl, hvx, r3, st3⟩ := hb
            have st13 := st12.trans st3
            obtain ⟨hd1, hd2⟩ := st3.dfr x.s.nx (by simp only [St.nx_new]; omega) (by rw [St.at_new, St.at_new]; rw [St.nx_new, if_neg (by omega), if_pos rfl])
            have hp := hend (lo := lo) (b := w.heap.size + 1) (ro' := none) (m := m3) (w := w3) (a := { a with defers := { target := .collected w.heap.size, args := #[] } :: a.defers }) (v' := xv)
              (Nat.le_trans hB st13.size) (Nat.le_trans hlo st13.nx) (hro.mono st13.ext) r3 (hmr.mono st3.ext) (ht.mono st13.ext)
              (.cons _ _ _ _ _ _ hlo (by have := st3.nx; simp only [St.nx_new] at this; omega) hd1 (hd2.trans hm2d) (fun hmem => by have := hd.lt _ hmem; omega) (hd.step st13))
              (hf.right st13)
            obtain ⟨jump, w4, q1, q2⟩ := hp
            refine ⟨jump, w4, q1, ?_⟩
            cases jump with
            | none => exact JPost.back st13 q2
            | some c => exact wpIn_mono q2 fun e' a' w'' hp => hp.back st13
        · cases hc
    · -- within a round
      rename_i l0
      split at h
      · rename_i st0 pend0 N0 t0 ps0 asg0 body0 d0 hs0
        cases hc : rangeCallA rc (fo.ev x.t) x.s.nx (x.s.new (.loop .ready none N x.t ps.toList asg body d0)) with
        | none => rw [hc] at h; cases h
        | some y =>
          obtain ⟨v, s2⟩ := y
          rw [hc] at h
          obtain ⟨hn2, hend⟩ := rangeEnd_ok hj h
          unfold rangeCallA at hc
          split at hc
          · rename_i g first cap hfe
            obtain ⟨hent, hn1, hcall⟩ := hrc g _ _ v s2 hc
            simp only [St.nx_new] at hn1 hcall
            refine ⟨by omega, fun lo ro' m a w hB hlo hro r ht hd hf => ?_⟩
            cases ro' with
            | none => exact hro.elim
            | some b0 =>
            refine wpIn_rangeFunc fun fid _ => ?_
            have hfv := hOR m N x.t a ht
            rw [hfe] at hfv
            cases hv : a.eval f <;> rw [hv] at hfv <;> cases hfv
            rename_i fn' first' cap' hfn hfirst hcap
            cases fn' <;> simp only [FnR] at hfn
            subst hfn
            obtain ⟨C0, sz0, fn0, tmps0, psa0, dd0, g1, g2, g3, g4, g5, g6⟩ := r.loop (show MR m l0 b0 from hro) hs0
            have hu0 : m x.s.nx = .un := hf _ (Nat.le_refl _) (by omega)
            have hbl : BR P m 0 0 (.loop .ready none N x.t ps.toList asg body d0) (.loop { state := .ready, pending := none, fn := fid, tmps := a.tmps, params := ps, assign := asg, body := body, defers := dd0 }) :=
              .loop _ _ _ _ _ _ _ _ _ _ _ _ ht rfl g6
            have r2 := r.new (w' := w.alloc (.loop { state := .ready, pending := none, fn := fid, tmps := a.tmps, params := ps, assign := asg, body := body, defers := dd0 })) hB hu0 rfl hbl
            have st2 := Stp.new (w := w) (w' := w.alloc (.loop { state := .ready, pending := none, fn := fid, tmps := a.tmps, params := ps, assign := asg, body := body, defers := dd0 })) hu0
              (x := ABlk.loop .ready none N x.t ps.toList asg body d0) (o := .loop { state := .ready, pending := none, fn := fid, tmps := a.tmps, params := ps, assign := asg, body := body, defers := dd0 }) (C := 0) (sz := 0) rfl rfl rfl rfl
            generalize hm2 : m.bind x.s.nx (.live w.heap.size 0 0) = m2 at r2 st2
            have hm2l : m2 x.s.nx = .live w.heap.size 0 0 := by rw [← hm2]; unfold Mp.bind; rw [if_pos rfl]
            refine ⟨w.heap.size, _, (w.alloc (.loop { state := .ready, pending := none, fn := fid, tmps := a.tmps, params := ps, assign := asg, body := body, defers := dd0 })), { target := .fn (.func g) cap', args := first' ++ #[.func (.yield w.heap.size) #[] #[]] }, (w.alloc (.loop { state := .ready, pending := none, fn := fid, tmps := a.tmps, params := ps, assign := asg, body := body, defers := dd0 })), g, first' ++ #[.func (.yield w.heap.size) #[] #[]] ++ cap', (w.alloc (.loop { state := .ready, pending := none, fn := fid, tmps := a.tmps, params := ps, assign := asg, body := body, defers := dd0 })),
              run_enterLoop_inner g3 fid a.tmps ps asg body, ?_, fun _ _ => trivial, ?_, (fun h => by cases h), ?_⟩
            · simp only [resolve, hv, Deferred.ofValue, Sem.run_pure, List.map_toArray, List.map_cons, List.map_nil]; rfl
            · simp only [invoke]; exact hent _ _
            · have hmr : MR m2 x.s.nx w.heap.size := by unfold MR; rw [hm2l]
              have hargs : VRs m2 (lapp first (.fn (.yield x.s.nx) [] [] :: cap)) (first' ++ #[Value.func (.yield w.heap.size) #[] #[]] ++ cap').toList := by
                simp only [lapp_eq, Array.toList_append, List.append_assoc]
                refine (hfirst.mono st2.ext).app ?_
                exact .cons _ _ _ _ (.fn (.yield _) (.yield _) _ _ _ _ hmr .nil .nil) (hcap.mono st2.ext)
              have hcl := hcall m2 _ _ (Nat.le_trans hB st2.size) r2 hargs (by
                have := hf.right st2
                simp only [St.nx_new] at this
                exact this.left (by omega))
              refine CallsIn.mono (fen_calls hcl) fun e' w3 hb => ?_
              obtain ⟨xv, m3, rfl, hvx, r3, st3⟩ := hb
              have st13 := st2.trans st3
              have hp := hend (lo := lo) (b := w.heap.size) (ro' := some b0) (m := m3) (w := w3) (a := { a with defers := [] ++ a.defers }) (v' := xv)
                (Nat.le_trans hB st13.size) (Nat.le_trans hlo st13.nx) (hro.mono st13.ext) r3 (hmr.mono st3.ext) (ht.mono st13.ext) (hd.step st13) (hf.right st13)
              obtain ⟨jump, w4, q1, q2⟩ := hp
              refine ⟨jump, w4, q1, ?_⟩
              cases jump with
              | none => exact JPost.back st13 q2
              | some c => exact wpIn_mono q2 fun e' a' w'' hp => hp.back st13
          · cases hc
      · cases h
end Go.Ab
