/- THE ABSTRACT EVALUATOR: a region whose order is drawn: one operation more; all of them. -/
import Derived.Test.YtpangpggplacoaaGreatAbDrawB
namespace Go.Ab
variable {P : Program} {B : Nat} {rc : RC} {ry : RY}
variable {N : Nat} {ops : Array Oper} {sl : List SOp} {acts : List Nat} {t : Nat → T AV} {s : Nat → St} {m0 : Mp} {w0 : World} {a0 : Act}
variable {D : Nat → Prop} {p x : Nat} {m : Mp} {w : World} {τ : T AV} {a : Act} {ro : Option Nat} {Q : Exit → Act → World → Prop}

theorem wantG_loc {o : Oper} {g : Option (List Bool × Bool)} (hg : guardS ops.toList o.guard = some g) {τ' : T AV} (h : ∀ k ∈ readsOf ops.toList o, τ.get (path k) = τ'.get (path k)) : wantG g τ = wantG g τ' := by
  cases hgu : o.guard with
  | none => rw [hgu] at hg; cases hg; rfl
  | some jw =>
    obtain ⟨j, want⟩ := jw
    rw [hgu] at hg
    simp only [guardS] at hg
    split at hg
    · rename_i oj hoj
      split at hg
      · rename_i d hd
        cases hg
        have := h d (by unfold readsOf; rw [hgu]; simp only [hoj, hd]; simp)
        unfold wantG
        simp only [this]
      · cases hg
    · cases hg

theorem reads_ops {o : Oper} {d : Tmp} (h : Operand.tmp d ∈ o.op.operands) : d ∈ readsOf ops.toList o := by
  unfold readsOf tmpsOf
  rw [List.mem_append]
  exact .inl (List.mem_filterMap.2 ⟨.tmp d, by simpa using h, rfl⟩)

theorem doOp_loc {ks : List Nat} {k : OpK} (h : KLoc ks k) {τ' : T AV} (ha : Agree ks τ τ') (σ : St) : doOp rc ry k τ σ = doOp rc ry k τ' σ := by
  cases k with
  | pu f => show valS _ _ = valS _ _; rw [h _ _ ha]
  | rd f => show valS _ _ = valS _ _; rw [h _ _ σ ha]
  | al f => show newS _ _ = newS _ _; rw [h _ _ ha]
  | ef f => exact h _ _ σ ha
  | cl f args => show callA _ _ _ _ _ = callA _ _ _ _ _; rw [h.1 _ _ ha, h.2 _ _ ha]

theorem wp_value {o : Oper} {k : OpK} (hk : stageK P o.op = some k) {w' : World} {v' : Value} (h : (execOp a.eval o).run P w = .ok (.value v') w') {K : Act → World → Prop} (hK : K (a.put o.dst v') w') :
    o.wpIn (fen ro) 0 P a w K Q := by
  refine ⟨fun _ _ => trivial, ?_⟩
  rw [Oper.semAt_eq _ _ _ (stage_no_defer hk), h, Oper.uponIn_value]; exact hK

theorem Inv.step (c : Ctx P B rc ry N ops sl acts t s) (I : Inv P B rc ry N ops sl acts t s m0 w0 a0 D p m w τ a) (hB : B ≤ w0.heap.size) (hc : Closed ops D) {o : Oper} (ho : ops[x]? = some o) (hx : ¬ D x)
    (hr : ∀ e ∈ o.after, Region.binds .any e = true → D e.on) {K : Act → World → Prop}
    (hK : ∀ p' m' w' τ' a', Inv P B rc ry N ops sl acts t s m0 w0 a0 (Add D x) p' m' w' τ' a' → K a' w') : wpOpIn (fen ro) 0 P ops Q x K a w := by
  obtain ⟨so, v, hso, hd, hg, hk, hv, hcase⟩ := c.shape ho
  have hlt : x < ops.size := (Array.getElem?_eq_some_iff.1 ho).1
  have hagree : Agree (readsOf ops.toList o) τ (t x) := fun k hk => I.reads c hc ho hx hr hk
  have hwant := wantG_eq (ops := ops) (o := o) I.tr hg
  rw [wantG_loc hg hagree] at hwant
  have hB' : B ≤ w.heap.size := Nat.le_trans hB I.stq.size
  unfold wpOpIn
  simp only [ho]
  rcases hcase with ⟨hw, hop⟩ | ⟨hw, rfl, hs⟩
  · rw [hw] at hwant
    rw [if_pos hwant.symm]
    have hl := loc (ks := readsOf ops.toList o) hk (fun d h => reads_ops h)
    have hgood := good hk
    have hacts := c.d.isAct x so hso
    cases hkk : so.k with
    | pu f =>
      rw [hkk] at hop hl hgood hk hacts
      replace hop : valS (s x) (f (t x)) = some (v, s (x + 1)) := hop
      unfold valS at hop
      split at hop
      · rename_i v1 hf
        injection hop with hop
        injection hop with e1 _
        subst e1
        obtain ⟨v', hv', hrun⟩ := hgood m N τ a _ I.tr (by rw [hl _ _ hagree]; exact hf)
        refine wp_value hk (hrun w) (hK _ _ _ _ _ (I.val c hc ho hx (fun h => ?_) (fun b hm => ?_) hd hv hv'))
        · have := hacts.1 h; cases this
        · obtain ⟨so', f', kk', b1, b2, _⟩ := hm.ex
          rw [hso] at b1; cases b1; rw [hkk] at b2; cases b2
      · cases hop
    | rd f =>
      rw [hkk] at hop hl hgood hk hacts
      replace hop : valS (s x) (f (t x) (s x)) = some (v, s (x + 1)) := hop
      unfold valS at hop
      split at hop
      · rename_i v1 hf
        injection hop with hop
        injection hop with e1 _
        subst e1
        have hval : ∃ σ, R P B m σ w ∧ f (t x) σ = some v1 := by
          by_cases hcan : p ≤ x ∧ ∀ e ∈ acts, p ≤ e → x ≤ e
          · exact ⟨s x, I.walk c hcan.1 (by omega) hcan.2, hf⟩
          · refine ⟨s p, I.r, c.tr.look x so f hso hkk hw v1 hf p ?_⟩
            obtain ⟨so', h1, _, _, _, hchk⟩ := c.d.st x o ho
            rw [hso] at h1; cases h1
            rw [hchk f hkk]
            unfold chkOf
            rw [List.mem_filter]
            refine ⟨?_, ?_⟩
            · rcases I.pact with h | ⟨e, he, h⟩
              · rw [h]; exact List.mem_cons_self ..
              · exact List.mem_cons_of_mem _ (List.mem_map.2 ⟨e, he, h.symm⟩)
            · rw [Bool.and_eq_true]
              refine ⟨?_, ?_⟩
              · rw [List.all_eq_true]
                intro e he
                rw [Bool.and_eq_true, toList_getD, toList_getD, blt_nat, ble_nat]
                constructor
                · cases hb : ((Region.before ops).getD x 0).testBit e with
                  | false => rfl
                  | true =>
                    have hde := ahead_ready c.d.edges hc ho hr hb
                    have : e < p := by
                      rcases Nat.lt_or_ge e p with h | h
                      · exact h
                      · exact absurd hde (I.after e he h)
                    simp [this]
                · cases hb : ((Region.before ops).getD e 0).testBit x with
                  | false => rfl
                  | true =>
                    have : p ≤ e := by
                      rcases Nat.lt_or_ge e p with h | h
                      · exact absurd (ahead c.d.edges hc e x hb (I.before e he h)) hx
                      · exact h
                    simp [this]
              · cases hcn : canon acts p x with
                | false => rfl
                | true =>
                  refine absurd ?_ hcan
                  unfold canon at hcn
                  rw [Bool.and_eq_true, ble_nat, decide_eq_true_eq, List.all_eq_true] at hcn
                  refine ⟨hcn.1, fun e he hpe => ?_⟩
                  have := hcn.2 e he
                  rw [Bool.or_eq_true, blt_nat, ble_nat, decide_eq_true_eq, decide_eq_true_eq] at this
                  omega
        obtain ⟨σ, hrσ, hfσ⟩ := hval
        obtain ⟨v', hv', hrun⟩ := hgood B m N τ σ a w _ hrσ I.tr (by rw [hl _ _ σ hagree]; exact hfσ)
        refine wp_value hk hrun (hK _ _ _ _ _ (I.val c hc ho hx (fun h => ?_) (fun b hm => ?_) hd hv hv'))
        · have := hacts.1 h; cases this
        · obtain ⟨so', f', kk', b1, b2, _⟩ := hm.ex
          rw [hso] at b1; cases b1; rw [hkk] at b2; cases b2
      · cases hop
    | al f =>
      rw [hkk] at hop hl hgood hk hacts
      replace hop : newS (s x) (f (t x)) = some (v, s (x + 1)) := hop
      unfold newS at hop
      split at hop
      · rename_i b kk hf
        injection hop with hop
        injection hop with e1 e2
        have hmk : Mk rc ry sl t s x b := ⟨⟨so, f, kk, hso, hkk, hw, hf⟩, e2.symm⟩
        obtain ⟨ob, C, sz, v', w', hrun, hheap, hos, htape, hout, hbr, hval⟩ := hgood m N τ a b kk w I.tr (by rw [hl _ _ hagree]; exact hf)
        refine wp_value hk hrun (hK _ _ _ _ _ (I.make c hB hc ho hx hmk hd hv hheap hos htape hout hbr ?_))
        rw [← e1]
        exact hval _ _ (by unfold Mp.bind; rw [if_pos rfl])
      · cases hop
    | ef f =>
      have hact : x ∈ acts := hacts.2 (by rw [hkk]; rfl)
      obtain ⟨hpx, hgap⟩ := I.gap c hc ho hx hr hact
      have hrx := I.walk c hpx (by omega) hgap
      rw [← doOp_loc hl hagree] at hop
      exact doOp_ok c.hrc c.hry hk hop hB' hrx I.tr (I.fresh x hact hpx) fun x' m' w' hv' r' hst => hK _ _ _ _ _ (I.act c hc ho hx hr hact hd hv hv' r' hst)
    | cl f args =>
      have hact : x ∈ acts := hacts.2 (by rw [hkk]; rfl)
      obtain ⟨hpx, hgap⟩ := I.gap c hc ho hx hr hact
      have hrx := I.walk c hpx (by omega) hgap
      rw [← doOp_loc hl hagree] at hop
      exact doOp_ok c.hrc c.hry hk hop hB' hrx I.tr (I.fresh x hact hpx) fun x' m' w' hv' r' hst => hK _ _ _ _ _ (I.act c hc ho hx hr hact hd hv hv' r' hst)
  · rw [hw] at hwant
    rw [if_neg (by rw [← hwant]; simp)]
    refine ⟨fun _ _ => trivial, ?_⟩
    by_cases hact : x ∈ acts
    · obtain ⟨hpx, hgap⟩ := I.gap c hc ho hx hr hact
      have hrx := I.walk c hpx (by omega) hgap
      exact hK _ _ _ _ _ (I.act c hc ho hx hr hact hd hv (VR.undef _) (by rw [hs]; exact hrx) (by rw [hs]; exact Stp.refl _ _ _))
    · refine hK _ _ _ _ _ (I.val c hc ho hx hact (fun b hm => ?_) hd hv (VR.undef _))
      obtain ⟨so', f', kk', b1, b2, b3, _⟩ := hm.ex
      rw [hso] at b1; cases b1; rw [hw] at b3; cases b3

theorem Inv.done (c : Ctx P B rc ry N ops sl acts t s) (I : Inv P B rc ry N ops sl acts t s m0 w0 a0 D p m w τ a) (hall : ∀ i, i < ops.size → D i) :
    a.defers = a0.defers ∧ TR m N (t ops.size) a.tmps ∧ R P B m (s ops.size) w ∧ Stp m0 (s 0) w0 m (s ops.size) w := by
  have hgap : ∀ e ∈ acts, p ≤ e → ops.size ≤ e := fun e he hpe => absurd (hall e (c.d.lt e he)) (I.after e he hpe)
  have hat := c.at_quiet (i := p) (j := ops.size) I.pn (Nat.le_refl _) hgap
  have hnp : (s 0).nx ≤ (s p).nx := c.nx (Nat.zero_le _) I.pn
  have q := I.stq
  refine ⟨I.dfr, ⟨I.tr.size, fun k => ?_⟩, I.walk c I.pn (Nat.le_refl _) hgap, ⟨q.ext, fun id hid hu => ?_, q.high, fun id hid hd => ?_, c.nx (Nat.zero_le _) (Nat.le_refl _), q.frame, q.size, q.fresh, q.os, q.tape, q.output⟩⟩
  · have h := I.tr.get k
    unfold Opd.ev at h ⊢
    simp only at h ⊢
    rw [I.tmp k ops.size (Nat.le_refl _) (fun i o ho _ => by
      have := (Array.getElem?_eq_some_iff.1 ho).1
      exact ⟨fun _ => this, fun h => hall i h⟩)] at h
    exact h
  · obtain ⟨h1, h2⟩ := q.low id hid hu
    exact ⟨h1, by rw [hat id (by omega), h2]⟩
  · obtain ⟨h1, h2⟩ := q.dfr id hid hd
    exact ⟨by rw [hat id (by omega), h1], h2⟩

def left (ops : Array Oper) (listed : Array Bool) : Nat := (List.range ops.size).countP (fun i => !listed.getD i false)
theorem countP_lt {α : Type} (q r : α → Bool) : ∀ (l : List α), (∀ y ∈ l, q y = true → r y = true) → (∃ y ∈ l, r y = true ∧ q y = false) → l.countP q < l.countP r := by
  intro l
  induction l with
  | nil => intro _ h; obtain ⟨y, hy, _⟩ := h; cases hy
  | cons y l ih =>
    intro h1 h2
    have hle : l.countP q ≤ l.countP r := List.countP_mono_left (fun z hz => h1 z (List.mem_cons_of_mem _ hz))
    rw [List.countP_cons, List.countP_cons]
    obtain ⟨z, hz, hz1, hz2⟩ := h2
    rcases List.mem_cons.1 hz with rfl | hz
    · rw [hz1, hz2]; simp; omega
    · have := ih (fun z hz => h1 z (List.mem_cons_of_mem _ hz)) ⟨z, hz, hz1, hz2⟩
      have h3 := h1 y (List.mem_cons_self ..)
      cases hq : q y <;> cases hr : r y <;> simp [hq, hr] at h3 ⊢ <;> omega
theorem getD_set (l : Array Bool) (i j : Nat) (hi : i < l.size) : (l.setIfInBounds i true).getD j false = (if j = i then true else l.getD j false) := by
  simp only [Array.getD_eq_getD_getElem?, Array.getElem?_setIfInBounds]
  by_cases h : j = i
  · subst h; simp [hi]
  · rw [if_neg h, if_neg (Ne.symm h)]

theorem Inv.all (c : Ctx P B rc ry N ops sl acts t s) (hB : B ≤ w0.heap.size)
    (hQ : ∀ m' a' w', a'.defers = a0.defers → TR m' N (t ops.size) a'.tmps → R P B m' (s ops.size) w' → Stp m0 (s 0) w0 m' (s ops.size) w' → Q .normal a' w') :
    ∀ (fuel : Nat) (listed : Array Bool) (p : Nat) (m : Mp) (w : World) (τ : T AV) (a : Act), listed.size = ops.size → left ops listed ≤ fuel → Closed ops (fun i => listed.getD i false = true) →
      Inv P B rc ry N ops sl acts t s m0 w0 a0 (fun i => listed.getD i false = true) p m w τ a → wpAnyIn (fen ro) 0 P .any ops Q fuel listed a w := by
  intro fuel
  have hfin : ∀ (listed : Array Bool) (p : Nat) (m : Mp) (w : World) (τ : T AV) (a : Act), listed.size = ops.size → Region.ready .any ops listed = [] →
      Inv P B rc ry N ops sl acts t s m0 w0 a0 (fun i => listed.getD i false = true) p m w τ a → Q .normal a w := by
    intro listed p m w τ a hsz hrd I
    have hall : ∀ i, i < ops.size → listed.getD i false = true := by
      intro i
      induction i using Nat.strongRecOn with
      | _ i ih =>
        intro hi
        cases hl : listed.getD i false with
        | true => rfl
        | false =>
          have hmem : i ∈ Region.ready .any ops listed := by
            rw [mem_ready]
            refine ⟨?_, ops[i], by simp [hi], fun e he hb => ?_⟩
            · rw [Array.getD_eq_getD_getElem?] at hl ⊢
              have : i < listed.size := by omega
              simp [this] at hl ⊢; exact hl
            · have hel := edges_lt c.d.edges (i := i) (o := ops[i]) (by simp [hi]) he hb
              exact ih e.on hel (by omega)
          rw [hrd] at hmem; cases hmem
    obtain ⟨h1, h2, h3, h4⟩ := I.done c hall
    exact hQ m a w h1 h2 h3 h4
  induction fuel with
  | zero =>
    intro listed p m w τ a hsz hleft hc I
    have hnone : Region.ready .any ops listed = [] := by
      cases hrd : Region.ready .any ops listed with
      | nil => rfl
      | cons i l =>
        have hmem : i ∈ Region.ready .any ops listed := by rw [hrd]; exact List.mem_cons_self ..
        obtain ⟨h0, o, ho, _⟩ := mem_ready.1 hmem
        have hi := (Array.getElem?_eq_some_iff.1 ho).1
        unfold left at hleft
        have h2 := List.countP_eq_zero.1 (Nat.le_zero.1 hleft) i (List.mem_range.2 hi)
        rw [Array.getD_eq_getD_getElem?] at h0 h2
        have : i < listed.size := by omega
        simp [this] at h0 h2
        rw [h0] at h2; cases h2
    exact ⟨hnone, hfin listed p m w τ a hsz hnone I⟩
  | succ fuel ih =>
    intro listed p m w τ a hsz hleft hc I
    refine ⟨fun hnone => hfin listed p m w τ a hsz hnone I, fun i hi => ?_⟩
    obtain ⟨h0, o, ho, hr⟩ := mem_ready.1 hi
    have hlt := (Array.getElem?_eq_some_iff.1 ho).1
    have hil : i < listed.size := by omega
    have hx : ¬ listed.getD i false = true := by
      rw [Array.getD_eq_getD_getElem?] at h0 ⊢
      simp [hil] at h0 ⊢; exact h0
    have hadd : (fun j => (listed.setIfInBounds i true).getD j false = true) = Add (fun j => listed.getD j false = true) i := by
      funext j
      rw [getD_set listed i j hil]
      unfold Add
      by_cases h : j = i <;> simp [h]
    refine I.step c hB hc ho hx hr fun p' m' w' τ' a' I' => ?_
    refine ih (listed.setIfInBounds i true) p' m' w' τ' a' (by simp [hsz]) ?_ ?_ (by rw [hadd]; exact I')
    · have : left ops (listed.setIfInBounds i true) < left ops listed := by
        refine countP_lt _ _ _ (fun y _ hy => ?_) ⟨i, List.mem_range.2 hlt, ?_, ?_⟩
        · rw [getD_set listed i y hil] at hy
          by_cases h : y = i
          · simp [h] at hy
          · simpa [h] using hy
        · simpa using hx
        · rw [getD_set listed i i hil]; simp
      omega
    · rw [hadd]
      intro j oj hoj hj e he hb
      rcases hj with hj | rfl
      · exact .inl (hc j oj hoj hj e he hb)
      · rw [ho] at hoj; cases hoj
        exact .inl (hr e he hb)

theorem drawn_ok (hm : P.follows .mixedOrders = true) (hrc : RcOk P B rc) (hry : RyOk P B ry) {id : Nat} (hd : drawn P N ops = some sl) {t0 t' : T AV} {s0 s' : St}
    (h : ∃ (t : Nat → T AV) (s : Nat → St), t 0 = t0 ∧ s 0 = s0 ∧ t sl.length = t' ∧ s sl.length = s' ∧ Trace rc ry sl t s)
    {m : Mp} {a : Act} {w : World} (hB : B ≤ w.heap.size) (r : R P B m s0 w) (ht : TR m N t0 a.tmps) (hf : Fresh m s0.nx s'.nx)
    (hQ : ∀ m' a' w', a'.defers = a.defers → TR m' N t' a'.tmps → R P B m' s' w' → Stp m s0 w m' s' w' → Q .normal a' w') : (Code.region id ops true).wpIn (fen ro) 0 P Q a w := by
  obtain ⟨acts, hdo⟩ := drawn_spec hd
  obtain ⟨t, s, e1, e2, e3, e4, htr⟩ := h
  have c : Ctx P B rc ry N ops sl acts t s := ⟨hrc, hry, hdo, htr⟩
  rw [hdo.len] at e3 e4
  subst e1 e2 e3 e4
  refine wpIn_region_any hm (Inv.all (m0 := m) (w0 := { w with drawn := w.drawn + 1 }) (a0 := a) c hB (fun m' a' w' h1 h2 h3 h4 => hQ m' a' w' h1 h2 h3 ?_) ops.size _ 0 m _ (t 0) a (by simp) ?_ ?_ ?_)
  · exact Stp.trans (Stp.same (w := w) (w' := { w with drawn := w.drawn + 1 }) rfl rfl rfl rfl) h4
  · unfold left
    have := List.countP_le_length (p := fun i => !(Array.replicate ops.size false).getD i false) (l := List.range ops.size)
    simpa using this
  · intro i o ho hi
    rw [Array.getD_eq_getD_getElem?] at hi
    simp [Array.getElem?_replicate] at hi
    split at hi <;> simp at hi
  · have hno : ∀ i, ¬ ((Array.replicate ops.size false).getD i false = true) := by
      intro i hi
      rw [Array.getD_eq_getD_getElem?] at hi
      simp [Array.getElem?_replicate] at hi
      split at hi <;> simp at hi
    refine ⟨Nat.zero_le _, .inl rfl, fun e he h => absurd h (Nat.not_lt_zero _), fun e he h => hno e, r.same rfl, ht, fun k j hj hk => ?_, fun i b hm hD => absurd hD (hno i), fun i b hm hD => ⟨?_, fun h => absurd h (Nat.not_lt_zero _)⟩, fun e he hle => ?_, ?_, rfl⟩
    · refine (c.noWrite (Nat.zero_le j) hj fun q o _ hq ho hdq => ?_).symm
      exact hno q ((hk q o ho hdq).2 hq)
    · have hi := hm.lt c
      exact hf _ (c.nx (Nat.zero_le _) (by omega)) (mk_mono c hm hi (Nat.le_refl _))
    · have hel := hdo.lt e he
      intro id h1 h2
      have h3 := c.nx (i := 0) (j := e) (Nat.zero_le _) (by omega)
      have h4 := c.nx (i := e + 1) (j := ops.size) (by omega) (Nat.le_refl _)
      exact hf id (by omega) (by omega)
    · exact ⟨Ext.refl m, fun _ _ h => ⟨h, rfl⟩, fun _ _ => rfl, fun _ _ h => ⟨h, rfl⟩, fun _ _ _ => rfl, Nat.le_refl _, fun id b C sz _ hm' => (by
        rcases Nat.lt_or_ge id (s 0).nx with h | h
        · exact .inr ⟨id, C, sz, h, hm'⟩
        · have := hf id h (by assumption)
          rw [this] at hm'; cases hm'), rfl, rfl, rfl⟩
end Go.Ab
