/- THE ABSTRACT EVALUATOR: a region whose order is drawn: what holds on the way. -/
import Derived.Test.YtpangpggplacoaaGreatAbDraw
namespace Go.Ab
variable {P : Program} {B : Nat} {rc : RC} {ry : RY}

structure Stq (K : Nat) (m : Mp) (s : St) (w : World) (m' : Mp) (s' : St) (w' : World) : Prop where
  ext : Ext m m'
  low : ∀ id, id < s.nx → m id = .un → m' id = .un ∧ s'.at id = s.at id
  high : ∀ id, K ≤ id → m' id = m id
  dfr : ∀ id, id < s.nx → s.at id = some .dfr → s'.at id = some .dfr ∧ m' id = m id
  frame : ∀ b, b < w.heap.size → (∀ id C sz, id < s.nx → m id ≠ .live b C sz) → w'.heap[b]? = w.heap[b]?
  size : w.heap.size ≤ w'.heap.size
  fresh : ∀ id b C sz, id < K → m' id = .live b C sz → w.heap.size ≤ b ∨ ∃ id0 C0 sz0, id0 < s.nx ∧ m id0 = .live b C0 sz0
  os : w'.os = w.os
  tape : w'.tape = w.tape
  output : w'.output = w.output

/-- a block that is there already, or is not bound, comes into the store -/
theorem R.newIf {m : Mp} {s : St} {w : World} (r : R P B m s w) {x : ABlk} (h : m s.nx = .un ∨ ∃ b C sz ob, m s.nx = .live b C sz ∧ w.heap[b]? = some ob ∧ BR P m C sz x ob) : R P B m (s.new x) w := by
  refine ⟨fun id b C sz hi hm => ?_, fun id hi hm => ?_, fun id hi => ?_, r.base, r.inj⟩
  · rw [St.at_new]
    by_cases e : id = s.nx
    · rw [if_pos e]
      rw [e] at hm
      rcases h with h | ⟨b', C', sz', ob, h1, h2, h3⟩
      · rw [h] at hm; cases hm
      · rw [h1] at hm; cases hm; exact ⟨x, ob, rfl, h2, h3⟩
    · rw [if_neg e]; exact r.blk id b C sz (by simp only [St.nx_new] at hi; omega) hm
  · rw [St.at_new]
    by_cases e : id = s.nx
    · rw [e] at hm
      rcases h with h | ⟨b', C', sz', ob, h1, h2, h3⟩
      · rw [h] at hm; cases hm
      · rw [h1] at hm; cases hm
    · rw [if_neg e]; exact r.dead id (by simp only [St.nx_new] at hi; omega) hm
  · simp only [St.nx_new] at hi; rw [St.at_new, if_neg (by omega)]; exact r.top id (by omega)
/-- a block is made in the world; the store has it already, or not yet -/
theorem R.bindHeap {m : Mp} {s : St} {w w' : World} (r : R P B m s w) (hB : B ≤ w.heap.size) {id : Nat} (hu : m id = .un) {x : ABlk} {ob : Obj} {C sz : Nat} (hw : w'.heap = w.heap.push ob)
    (hb : BR P m C sz x ob) (ha : id < s.nx → s.at id = some x) : R P B (m.bind id (.live w.heap.size C sz)) s w' := by
  have he := Ext.bind hu (.live w.heap.size C sz)
  refine ⟨fun i b C' sz' hi hm => ?_, fun i hi hm => ?_, r.top, fun i b C' sz' hm => ?_, fun i i' b C1 sz1 C2 sz2 h1 h2 => ?_⟩
  · unfold Mp.bind at hm
    by_cases e : i = id
    · rw [if_pos e] at hm; cases hm; subst e
      exact ⟨x, ob, ha hi, by rw [hw]; simp, hb.mono he⟩
    · rw [if_neg e] at hm
      obtain ⟨x', o', h1, h2, h3⟩ := r.blk i b C' sz' hi hm
      have hlt := (r.base i b C' sz' hm).2
      exact ⟨x', o', h1, by rw [hw, Array.getElem?_push, if_neg (by omega)]; exact h2, h3.mono he⟩
  · unfold Mp.bind at hm
    by_cases e : i = id
    · rw [if_pos e] at hm; cases hm
    · rw [if_neg e] at hm; exact r.dead i hi hm
  · unfold Mp.bind at hm
    rw [hw]
    by_cases e : i = id
    · rw [if_pos e] at hm; cases hm; exact ⟨hB, by simp⟩
    · rw [if_neg e] at hm
      have := r.base i b C' sz' hm
      exact ⟨this.1, by simp; omega⟩
  · unfold Mp.bind at h1 h2
    by_cases e : i = id <;> by_cases e' : i' = id
    · rw [e, e']
    · rw [if_pos e] at h1; rw [if_neg e'] at h2; cases h1
      have := (r.base i' _ _ _ h2).2; omega
    · rw [if_neg e] at h1; rw [if_pos e'] at h2; cases h2
      have := (r.base i _ _ _ h1).2; omega
    · rw [if_neg e] at h1; rw [if_neg e'] at h2; exact r.inj i i' b C1 sz1 C2 sz2 h1 h2

section
variable {N : Nat} {ops : Array Oper} {sl : List SOp} {acts : List Nat} {t : Nat → T AV} {s : Nat → St} {m0 : Mp} {w0 : World} {a0 : Act}

structure Inv (P : Program) (B : Nat) (rc : RC) (ry : RY) (N : Nat) (ops : Array Oper) (sl : List SOp) (acts : List Nat) (t : Nat → T AV) (s : Nat → St) (m0 : Mp) (w0 : World) (a0 : Act)
    (D : Nat → Prop) (p : Nat) (m : Mp) (w : World) (τ : T AV) (a : Act) : Prop where
  pn : p ≤ ops.size
  pact : p = 0 ∨ ∃ e ∈ acts, p = e + 1
  before : ∀ e ∈ acts, e < p → D e
  after : ∀ e ∈ acts, p ≤ e → ¬ D e
  r : R P B m (s p) w
  tr : TR m N τ a.tmps
  tmp : ∀ k j, j ≤ ops.size → (∀ i o, ops[i]? = some o → o.dst = some k → (D i ↔ i < j)) → τ.get (path k) = (t j).get (path k)
  made : ∀ i b, Mk rc ry sl t s i b → D i → p ≤ i → ∃ bb C sz ob, m (s i).nx = .live bb C sz ∧ w.heap[bb]? = some ob ∧ BR P m C sz b ob
  unmade : ∀ i b, Mk rc ry sl t s i b → ¬ D i → m (s i).nx = .un ∧ (i < p → (s p).at (s i).nx = some b)
  fresh : ∀ e ∈ acts, p ≤ e → Fresh m (s e).nx (s (e + 1)).nx
  stq : Stq (s ops.size).nx m0 (s 0) w0 m (s p) w
  dfr : a.defers = a0.defers

def Add (D : Nat → Prop) (x : Nat) : Nat → Prop := fun i => D i ∨ i = x

variable {D : Nat → Prop} {p x : Nat} {m : Mp} {w : World} {τ : T AV} {a : Act}

theorem Inv.walk (c : Ctx P B rc ry N ops sl acts t s) (I : Inv P B rc ry N ops sl acts t s m0 w0 a0 D p m w τ a) : ∀ {j : Nat}, p ≤ j → j ≤ ops.size → (∀ e ∈ acts, p ≤ e → j ≤ e) → R P B m (s j) w := by
  intro j
  induction j with
  | zero => intro h _ _; have : p = 0 := by omega
            subst this; exact I.r
  | succ j ih =>
    intro h hj hn
    rcases Nat.lt_or_ge j p with h1 | h1
    · have : p = j + 1 := by omega
      subst this; exact I.r
    · have hr := ih h1 (by omega) (fun e he hi => by have := hn e he hi; omega)
      rcases c.quiet (i := j) (by omega) (fun he => by have := hn j he h1; omega) with h2 | ⟨b, h2⟩
      · rw [h2]; exact hr
      · rw [h2.new]
        refine hr.newIf ?_
        by_cases hd : D j
        · exact .inr (I.made j b h2 hd h1)
        · exact .inl (I.unmade j b h2 hd).1

/-- who writes what this one looks at has been, just where the text has it ahead -/
theorem Inv.reads (c : Ctx P B rc ry N ops sl acts t s) (I : Inv P B rc ry N ops sl acts t s m0 w0 a0 D p m w τ a) (hc : Closed ops D) {o : Oper} (ho : ops[x]? = some o) (hx : ¬ D x)
    (hr : ∀ e ∈ o.after, Region.binds .any e = true → D e.on) {k : Nat} (hk : k ∈ readsOf ops.toList o) : τ.get (path k) = (t x).get (path k) := by
  have hlt : x < ops.size := (Array.getElem?_eq_some_iff.1 ho).1
  refine I.tmp k x (by omega) fun i oi hoi hd => ⟨fun hi => ?_, fun hi => ?_⟩
  · rcases Nat.lt_trichotomy i x with h | h | h
    · exact h
    · subst h; exact absurd hi hx
    · have hb := c.d.order i x oi o k hoi ho hd (by omega) (.inr hk)
      rw [Nat.max_eq_left (by omega), Nat.min_eq_right (by omega)] at hb
      exact absurd (ahead c.d.edges hc i x hb hi) hx
  · have hb := c.d.order i x oi o k hoi ho hd (by omega) (.inr hk)
    rw [Nat.max_eq_right (by omega), Nat.min_eq_left (by omega)] at hb
    exact ahead_ready c.d.edges hc ho hr hb

/-- no act is open between the last act and one that may come -/
theorem Inv.gap (c : Ctx P B rc ry N ops sl acts t s) (I : Inv P B rc ry N ops sl acts t s m0 w0 a0 D p m w τ a) (hc : Closed ops D) {o : Oper} (ho : ops[x]? = some o) (hx : ¬ D x)
    (hr : ∀ e ∈ o.after, Region.binds .any e = true → D e.on) (hact : x ∈ acts) : p ≤ x ∧ ∀ e ∈ acts, p ≤ e → x ≤ e := by
  refine ⟨?_, fun e he hpe => ?_⟩
  · rcases Nat.lt_or_ge x p with h | h
    · exact absurd (I.before x hact h) hx
    · exact h
  · rcases Nat.lt_or_ge e x with h | h
    · exact absurd (ahead_ready c.d.edges hc ho hr (c.d.chain e x he hact h)) (I.after e he hpe)
    · exact h

theorem Inv.tmp_step (c : Ctx P B rc ry N ops sl acts t s) (I : Inv P B rc ry N ops sl acts t s m0 w0 a0 D p m w τ a) (hc : Closed ops D) {o : Oper} (ho : ops[x]? = some o) (hx : ¬ D x) {so : SOp} {v : AV}
    (hd : dstS N o.dst = some so.dst) (hv : t (x + 1) = putT so.dst v (t x)) :
    ∀ k j, j ≤ ops.size → (∀ i o, ops[i]? = some o → o.dst = some k → (Add D x i ↔ i < j)) → (putT so.dst v τ).get (path k) = (t j).get (path k) := by
  intro k j hj hk
  have hlt : x < ops.size := (Array.getElem?_eq_some_iff.1 ho).1
  by_cases hok : o.dst = some k
  · have hxj : x < j := (hk x o ho hok).1 (.inr rfl)
    have hdst : so.dst = some (path k) := by
      rw [hok] at hd
      replace hd : (bif Nat.blt k N then some (some (path k)) else none) = some so.dst := hd
      cases hb : Nat.blt k N with
      | false => rw [hb] at hd; cases hd
      | true => rw [hb] at hd; injection hd with hd; exact hd.symm
    rw [c.noWrite (i := x + 1) (j := j) (k := k) (by omega) hj ?_, hv, hdst]
    · show (τ.set (path k) v).get (path k) = ((t x).set (path k) v).get (path k)
      rw [T.get_set, T.get_set, if_pos rfl, if_pos rfl]
    · intro q oq hq hqj hoq hdq
      have := (hk q oq hoq hdq).2 hqj
      rcases this with h | h
      · have hb := c.d.order q x oq o k hoq ho hdq (by omega) (.inl hok)
        rw [Nat.max_eq_left (by omega), Nat.min_eq_right (by omega)] at hb
        exact hx (ahead c.d.edges hc q x hb h)
      · omega
  · have : (putT so.dst v τ).get (path k) = τ.get (path k) := by
      cases hdo : o.dst with
      | none => rw [hdo] at hd; injection hd with hd; rw [← hd]; rfl
      | some d =>
        rw [hdo] at hd hok
        replace hd : (bif Nat.blt d N then some (some (path d)) else none) = some so.dst := hd
        cases hb : Nat.blt d N with
        | false => rw [hb] at hd; cases hd
        | true =>
          rw [hb] at hd; injection hd with hd; rw [← hd]
          show (τ.set (path d) v).get (path k) = _
          rw [T.get_set, if_neg (fun e => hok (by rw [e]))]
    rw [this]
    refine I.tmp k j hj fun i oi hoi hdi => ?_
    have h1 := hk i oi hoi hdi
    have hne : i ≠ x := fun e => by subst e; rw [ho] at hoi; cases hoi; exact hok hdi
    exact ⟨fun h => h1.1 (.inl h), fun h => (h1.2 h).resolve_right hne⟩

theorem mk_mono (c : Ctx P B rc ry N ops sl acts t s) {i j : Nat} {b : ABlk} (h : Mk rc ry sl t s i b) (hij : i < j) (hj : j ≤ ops.size) : (s i).nx < (s j).nx := by
  have h1 := h.nx
  have h2 := c.nx (i := i + 1) (j := j) (by omega) hj
  omega

/-- an act -/
theorem Inv.act (c : Ctx P B rc ry N ops sl acts t s) (I : Inv P B rc ry N ops sl acts t s m0 w0 a0 D p m w τ a) (hc : Closed ops D) {o : Oper} (ho : ops[x]? = some o) (hx : ¬ D x)
    (hr : ∀ e ∈ o.after, Region.binds .any e = true → D e.on) (hact : x ∈ acts) {so : SOp} {v : AV} (hd : dstS N o.dst = some so.dst) (hv : t (x + 1) = putT so.dst v (t x))
    {m' : Mp} {w' : World} {x' : Value} (hvr : VR m' v x') (r' : R P B m' (s (x + 1)) w') (hst : Stp m (s x) w m' (s (x + 1)) w') :
    Inv P B rc ry N ops sl acts t s m0 w0 a0 (Add D x) (x + 1) m' w' (putT so.dst v τ) (a.put o.dst x') := by
  have hlt : x < ops.size := (Array.getElem?_eq_some_iff.1 ho).1
  obtain ⟨hpx, hgap⟩ := I.gap c hc ho hx hr hact
  have hat := c.at_quiet (i := p) (j := x) hpx (by omega) hgap
  have hnx0 : (s 0).nx ≤ (s x).nx := c.nx (Nat.zero_le _) (by omega)
  have hnx1 : (s x).nx ≤ (s (x + 1)).nx := c.nx1 hlt
  have hnp : (s 0).nx ≤ (s p).nx := c.nx (Nat.zero_le _) I.pn
  refine ⟨by omega, .inr ⟨x, hact, rfl⟩, fun e he hlt' => ?_, fun e he hle hD => ?_, r', (I.tr.mono hst.ext).putO hd hvr, I.tmp_step c hc ho hx hd hv, fun i b hm hD hle => ?_, fun i b hm hD => ?_, fun e he hle => ?_, ?_, (put_defers _ _ _).trans I.dfr⟩
  · rcases Nat.lt_or_ge e x with h | h
    · exact .inl (ahead_ready c.d.edges hc ho hr (c.d.chain e x he hact h))
    · exact .inr (by omega)
  · rcases hD with hD | hD
    · exact I.after e he (by omega) hD
    · omega
  · have hne : i ≠ x := by omega
    obtain ⟨bb, C, sz, ob, h1, h2, h3⟩ := I.made i b hm (hD.resolve_right hne) (by omega)
    have hge : (s (x + 1)).nx ≤ (s i).nx := c.nx (by omega) (by have := hm.lt c; omega)
    refine ⟨bb, C, sz, ob, by rw [hst.high _ hge]; exact h1, ?_, h3.mono hst.ext⟩
    rw [hst.frame bb (I.r.base _ _ _ _ h1).2 (fun id C' sz' hid hl => ?_)]
    · exact h2
    · have := I.r.inj _ _ _ _ _ _ _ hl h1
      omega
  · have hne : i ≠ x := fun e => by subst e; exact hD (.inr rfl)
    obtain ⟨h1, h2⟩ := I.unmade i b hm (fun h => hD (.inl h))
    have hil := hm.lt c
    rcases Nat.lt_or_ge i x with h | h
    · have hil2 := mk_mono c hm h (by omega)
      obtain ⟨g1, g2⟩ := hst.low _ hil2 h1
      refine ⟨g1, fun _ => ?_⟩
      rw [g2]
      rcases Nat.lt_or_ge i p with hp | hp
      · rw [hat _ (mk_mono c hm hp I.pn)]; exact h2 hp
      · rw [c.at_quiet (i := i + 1) (j := x) (by omega) (by omega) (fun e he hle => hgap e he (by omega)) _ (by rw [hm.nx]; omega), hm.new, St.at_new, if_pos rfl]
    · have hge : (s (x + 1)).nx ≤ (s i).nx := c.nx (by omega) (by omega)
      exact ⟨by rw [hst.high _ hge]; exact h1, fun hh => by omega⟩
  · intro id hid1 hid2
    have hge : (s (x + 1)).nx ≤ (s e).nx := c.nx hle (by have := c.d.lt e he; omega)
    rw [hst.high _ (by omega)]
    exact I.fresh e he (by omega) id hid1 hid2
  · have q := I.stq
    have hn : (s (x + 1)).nx ≤ (s ops.size).nx := c.nx (by omega) (Nat.le_refl _)
    refine ⟨q.ext.trans hst.ext, fun id hid hu => ?_, fun id hid => ?_, fun id hid hdf => ?_, fun b hb hnl => ?_, Nat.le_trans q.size hst.size, fun id b C sz hid hm => ?_, hst.os.trans q.os, hst.tape.trans q.tape, hst.output.trans q.output⟩
    · obtain ⟨g1, g2⟩ := q.low id hid hu
      obtain ⟨k1, k2⟩ := hst.low id (by omega) g1
      exact ⟨k1, by rw [k2, hat id (by omega), g2]⟩
    · rw [hst.high id (by omega), q.high id hid]
    · obtain ⟨g1, g2⟩ := q.dfr id hid hdf
      obtain ⟨k1, k2⟩ := hst.dfr id (by omega) (by rw [hat id (by omega)]; exact g1)
      exact ⟨k1, k2.trans g2⟩
    · rw [hst.frame b (Nat.lt_of_lt_of_le hb q.size) (fun id C sz hid hl => ?_), q.frame b hb hnl]
      rcases q.fresh id b C sz (by omega) hl with h | ⟨id0, C0, sz0, h1, h2⟩
      · omega
      · exact hnl id0 C0 sz0 h1 h2
    · rcases Nat.lt_or_ge id (s (x + 1)).nx with h | h
      · rcases hst.fresh id b C sz h hm with h1 | ⟨id1, C1, sz1, h1, h2⟩
        · exact .inl (Nat.le_trans q.size h1)
        · exact q.fresh id1 b C1 sz1 (by omega) h2
      · rw [hst.high id h] at hm
        exact q.fresh id b C sz hid hm

/-- one that turns nothing but its slot -/
theorem Inv.val (c : Ctx P B rc ry N ops sl acts t s) (I : Inv P B rc ry N ops sl acts t s m0 w0 a0 D p m w τ a) (hc : Closed ops D) {o : Oper} (ho : ops[x]? = some o) (hx : ¬ D x)
    (hact : x ∉ acts) (hmk : ∀ b, ¬ Mk rc ry sl t s x b) {so : SOp} {v : AV} (hd : dstS N o.dst = some so.dst) (hv : t (x + 1) = putT so.dst v (t x)) {x' : Value} (hvr : VR m v x') :
    Inv P B rc ry N ops sl acts t s m0 w0 a0 (Add D x) p m w (putT so.dst v τ) (a.put o.dst x') := by
  refine ⟨I.pn, I.pact, fun e he hlt' => .inl (I.before e he hlt'), fun e he hle hD => ?_, I.r, I.tr.putO hd hvr, I.tmp_step c hc ho hx hd hv, fun i b hm hD hle => ?_, fun i b hm hD => I.unmade i b hm (fun h => hD (.inl h)), I.fresh, I.stq, (put_defers _ _ _).trans I.dfr⟩
  · rcases hD with hD | hD
    · exact I.after e he hle hD
    · subst hD; exact hact he
  · rcases hD with hD | hD
    · exact I.made i b hm hD hle
    · subst hD; exact absurd hm (hmk b)

/-- one that makes a block -/
theorem Inv.make (c : Ctx P B rc ry N ops sl acts t s) (I : Inv P B rc ry N ops sl acts t s m0 w0 a0 D p m w τ a) (hB : B ≤ w0.heap.size) (hc : Closed ops D) {o : Oper} (ho : ops[x]? = some o) (hx : ¬ D x)
    {b : ABlk} (hmk : Mk rc ry sl t s x b) {so : SOp} {v : AV} (hd : dstS N o.dst = some so.dst) (hv : t (x + 1) = putT so.dst v (t x)) {w' : World} {ob : Obj} {C sz : Nat} {x' : Value}
    (hw : w'.heap = w.heap.push ob) (hos : w'.os = w.os) (htape : w'.tape = w.tape) (hout : w'.output = w.output) (hbr : BR P m C sz b ob)
    (hvr : VR (m.bind (s x).nx (.live w.heap.size C sz)) v x') :
    Inv P B rc ry N ops sl acts t s m0 w0 a0 (Add D x) p (m.bind (s x).nx (.live w.heap.size C sz)) w' (putT so.dst v τ) (a.put o.dst x') := by
  have hlt := hmk.lt c
  have q := I.stq
  obtain ⟨hu, hat⟩ := I.unmade x b hmk hx
  have hext := Ext.bind hu (.live w.heap.size C sz)
  have hne : ∀ i b', Mk rc ry sl t s i b' → i ≠ x → (s i).nx ≠ (s x).nx := by
    intro i b' hm hix
    have hil := hm.lt c
    rcases Nat.lt_or_ge i x with h | h
    · have := mk_mono c hm h (by omega); omega
    · have := mk_mono c hmk (j := i) (by omega) (by omega); omega
  have hbn : ∀ id, id ≠ (s x).nx → (m.bind (s x).nx (.live w.heap.size C sz)) id = m id := fun id h => by unfold Mp.bind; rw [if_neg h]
  have h0x : (s 0).nx ≤ (s x).nx := c.nx (Nat.zero_le _) (by omega)
  have hxn : (s x).nx < (s ops.size).nx := mk_mono c hmk hlt (Nat.le_refl _)
  refine ⟨I.pn, I.pact, fun e he hlt' => .inl (I.before e he hlt'), fun e he hle hD => ?_, ?_, (I.tr.mono hext).putO hd hvr, I.tmp_step c hc ho hx hd hv, fun i b' hm hD hle => ?_, fun i b' hm hD => ?_, fun e he' hle => ?_, ?_, (put_defers _ _ _).trans I.dfr⟩
  · rcases hD with hD | hD
    · exact I.after e he hle hD
    · subst hD; exact hmk.not_act c he
  · refine I.r.bindHeap (Nat.le_trans hB q.size) hu hw hbr fun h => hat ?_
    rcases Nat.lt_or_ge x p with h1 | h1
    · exact h1
    · have := c.nx h1 (by omega); omega
  · by_cases hix : i = x
    · subst hix
      have := hm.same hmk
      subst this
      exact ⟨w.heap.size, C, sz, ob, by unfold Mp.bind; rw [if_pos rfl], by rw [hw]; simp, hbr.mono hext⟩
    · obtain ⟨bb, C', sz', ob', h1, h2, h3⟩ := I.made i b' hm (hD.resolve_right hix) hle
      have := (I.r.base _ _ _ _ h1).2
      exact ⟨bb, C', sz', ob', by rw [hbn _ (hne i b' hm hix)]; exact h1, by rw [hw, Array.getElem?_push, if_neg (by omega)]; exact h2, h3.mono hext⟩
  · have hix : i ≠ x := fun e => by subst e; exact hD (.inr rfl)
    obtain ⟨h1, h2⟩ := I.unmade i b' hm (fun h => hD (.inl h))
    exact ⟨by rw [hbn _ (hne i b' hm hix)]; exact h1, h2⟩
  · intro id h1 h2
    have hex : e ≠ x := fun h => by subst h; exact hmk.not_act c he'
    have hel := c.d.lt e he'
    rw [hbn]
    · exact I.fresh e he' hle id h1 h2
    · rcases Nat.lt_or_ge x e with h | h
      · have := mk_mono c hmk h (by omega); omega
      · have := c.nx (i := e + 1) (j := x) (by omega) (by omega); omega
  · refine ⟨q.ext.trans hext, fun id hid hun => ?_, fun id hid => ?_, fun id hid hdf => ?_, fun bb hb hnl => ?_, by rw [hw]; simp; have := q.size; omega, fun id bb C' sz' hid hm => ?_, hos.trans q.os, htape.trans q.tape, hout.trans q.output⟩
    · rw [hbn _ (by omega)]; exact q.low id hid hun
    · rw [hbn _ (by omega)]; exact q.high id hid
    · rw [hbn _ (by omega)]; exact q.dfr id hid hdf
    · have := q.size
      rw [hw, Array.getElem?_push, if_neg (by omega)]; exact q.frame bb hb hnl
    · by_cases hix : id = (s x).nx
      · unfold Mp.bind at hm
        rw [if_pos hix] at hm; cases hm; exact .inl q.size
      · rw [hbn _ hix] at hm; exact q.fresh id bb C' sz' hid hm
end
end Go.Ab
