/- THE ABSTRACT EVALUATOR: it is sound: statements in their order, loops, whole calls. -/
import Derived.Test.YtpangpggplacoaaGreatAbSoundB
namespace Go.Ab
variable {P : Program} {B : Nat} {rc : RC} {ry : RY} {rec : RJ}

theorem thenS_some {k : FS → Option (Ex × FS)} {r : Option (Ex × FS)} {e : Ex} {x' : FS} (h : thenS k r = some (e, x')) : (∃ x1, r = some (.normal, x1) ∧ k x1 = some (e, x')) ∨ (r = some (e, x') ∧ e ≠ .normal) := by
  unfold thenS at h
  split at h
  · rename_i x1; exact .inl ⟨x1, rfl, h⟩
  · rename_i hne
    refine .inr ⟨h, fun he => ?_⟩
    subst he
    exact hne x' h
theorem exR_normal {e : Ex} {e' : Exit} (h : ExR e e') (he : e ≠ .normal) : e' ≠ .normal := by
  intro h'; subst h'
  cases e <;> first | exact he rfl | exact h
theorem then_other {K : Act → World → Prop} {Q : Exit → Act → World → Prop} {e : Exit} {a : Act} {w : World} (he : e ≠ .normal) (h : Q e a w) : Exit.then K Q e a w := by
  cases e <;> first | exact absurd rfl he | exact h

def CodeOk (P : Program) (B N : Nat) (ro : Option Nat) (c : Code) (x : FS) (e : Ex) (x' : FS) : Prop :=
  x.s.nx ≤ x'.s.nx ∧ ∀ (lo : Nat) (ro' : Option Nat) (m : Mp) (a : Act) (w : World), B ≤ w.heap.size → lo ≤ x.s.nx → RoR m ro ro' → R P B m x.s w → TR m N x.t a.tmps →
    DfR lo m x.s x.df a.defers → Fresh m x.s.nx x'.s.nx → c.wpIn (fen ro') 0 P (JPost P B N lo m x.s w e x') a w

/-- one after the other -/
theorem seq_ok (hj : JOk P B rec) {N : Nat} {ro : Option Nat} {p q : Code} {x : FS} {e : Ex} {x' : FS} (h : thenS (rec N ro q) (rec N ro p x) = some (e, x')) : CodeOk P B N ro (.seq p q) x e x' := by
  rcases thenS_some h with ⟨x1, h1, h2⟩ | ⟨h1, hne⟩
  · obtain ⟨n1, k1⟩ := hj _ _ _ _ _ _ h1
    obtain ⟨n2, k2⟩ := hj _ _ _ _ _ _ h2
    refine ⟨Nat.le_trans n1 n2, fun lo ro' m a w hB hlo hro r ht hd hf => wpIn_seq (wpIn_mono (k1 lo ro' m a w hB hlo hro r ht hd (hf.left n2)) fun e1 a1 w1 hp => ?_)⟩
    obtain ⟨m1, he, r1, ht1, hd1, st1⟩ := hp
    cases e1 <;> simp only [ExR] at he
    exact wpIn_mono (k2 lo ro' m1 a1 w1 (Nat.le_trans hB st1.size) (Nat.le_trans hlo n1) (hro.mono st1.ext) r1 ht1 hd1 (hf.right st1)) fun e2 a2 w2 hp => hp.back st1
  · obtain ⟨n1, k1⟩ := hj _ _ _ _ _ _ h1
    refine ⟨n1, fun lo ro' m a w hB hlo hro r ht hd hf => wpIn_seq (wpIn_mono (k1 lo ro' m a w hB hlo hro r ht hd hf) fun e1 a1 w1 hp => ?_)⟩
    have := hp
    obtain ⟨m1, he, _⟩ := this
    exact then_other (exR_normal he hne) hp

theorem exists_least {p : Nat → Prop} (h : ∃ j, p j) : ∃ j, p j ∧ ∀ i, p i → j ≤ i := by
  obtain ⟨j, hj⟩ := h
  induction j using Nat.strongRecOn with
  | _ j ih =>
    by_cases hs : ∃ i, i < j ∧ p i
    · obtain ⟨i, hi, hp⟩ := hs; exact ih i hi hp
    · refine ⟨j, hj, fun i hi => ?_⟩
      rcases Nat.lt_or_ge i j with hlt | hge
      · exact absurd ⟨i, hlt, hi⟩ hs
      · exact hge
open Classical in
noncomputable def least (p : Nat → Prop) : Nat := if h : ∃ j, p j then Classical.choose (exists_least h) else 0
theorem least_spec {p : Nat → Prop} (h : ∃ j, p j) : p (least p) ∧ ∀ i, p i → least p ≤ i := by
  unfold least
  rw [dif_pos h]
  exact Classical.choose_spec (exists_least h)

/-- a loop: as often as was run -/
theorem loop_ok (f : Nat → RJ) (h0 : ∀ N ro c x, f 0 N ro c x = none) (hs : ∀ n N ro b x, f (n + 1) N ro (.loop b) x = thenS (f n N ro (.loop b)) (f n N ro b x)) {N : Nat} {ro : Option Nat} {b : Code} {e : Ex} {x' : FS}
    (n : Nat) (ih : ∀ j, j < n → JOk P B (f j)) (x : FS) (h : f n N ro (.loop b) x = some (e, x')) : CodeOk P B N ro (.loop b) x e x' := by
  have hnx : x.s.nx ≤ x'.s.nx := by
    cases n with
    | zero => rw [h0] at h; cases h
    | succ n =>
      rw [hs] at h
      rcases thenS_some h with ⟨x1, h1, h2⟩ | ⟨h1, _⟩
      · exact Nat.le_trans (ih n (by omega) _ _ _ _ _ _ h1).1 (ih n (by omega) _ _ _ _ _ _ h2).1
      · exact (ih n (by omega) _ _ _ _ _ _ h1).1
  refine ⟨hnx, fun lo ro' m a w hB hlo hro r ht hd hf => ?_⟩
  let I : Nat → Act → World → Prop := fun j a1 w1 => j ≤ n ∧ ∃ x1 m1, f j N ro (.loop b) x1 = some (e, x') ∧ lo ≤ x1.s.nx ∧ RoR m1 ro ro' ∧ R P B m1 x1.s w1 ∧ TR m1 N x1.t a1.tmps ∧ DfR lo m1 x1.s x1.df a1.defers ∧
    Fresh m1 x1.s.nx x'.s.nx ∧ Stp m x.s w m1 x1.s w1
  refine wpIn_loop (fun a1 w1 => ∃ j, I j a1 w1) (fun a1 w1 => least fun j => I j a1 w1) ⟨n, Nat.le_refl _, x, m, h, hlo, hro, r, ht, hd, hf, Stp.refl _ _ _⟩ fun a1 w1 hI => ?_
  obtain ⟨hmin, hle⟩ := least_spec hI
  generalize hj : (least fun j => I j a1 w1) = j at hmin hle
  obtain ⟨hjn, x1, m1, hx1, hlo1, hro1, r1, ht1, hd1, hf1, st1⟩ := hmin
  cases j with
  | zero => rw [h0] at hx1; cases hx1
  | succ j =>
    rw [hs] at hx1
    have hB1 := Nat.le_trans hB st1.size
    rcases thenS_some hx1 with ⟨x2, h1, h2⟩ | ⟨h1, hne⟩
    · obtain ⟨n1, k1⟩ := ih j (by omega) _ _ _ _ _ _ h1
      obtain ⟨n2, _⟩ := ih j (by omega) _ _ _ _ _ _ h2
      refine wpIn_mono (k1 lo ro' m1 a1 w1 hB1 hlo1 hro1 r1 ht1 hd1 (hf1.left n2)) fun e1 a2 w2 hp => ?_
      obtain ⟨m2, he, r2, ht2, hd2, st2⟩ := hp
      cases e1 <;> simp only [ExR] at he
      have hI2 : I j a2 w2 := ⟨by omega, x2, m2, h2, Nat.le_trans hlo1 n1, hro1.mono st2.ext, r2, ht2, hd2, hf1.right st2, st1.trans st2⟩
      refine ⟨⟨j, hI2⟩, ?_⟩
      have := (least_spec (p := fun j => I j a2 w2) ⟨j, hI2⟩).2 j hI2
      show (least fun j => I j a2 w2) < _
      omega
    · obtain ⟨n1, k1⟩ := ih j (by omega) _ _ _ _ _ _ h1
      refine wpIn_mono (k1 lo ro' m1 a1 w1 hB1 hlo1 hro1 r1 ht1 hd1 hf1) fun e1 a2 w2 hp => ?_
      have := hp
      obtain ⟨m2, he, _⟩ := this
      exact then_other (exR_normal he hne) (hp.back st1)

theorem code_ok (hm : P.follows .mixedOrders = true) (hrc : RcOk P B rc) (hry : RyOk P B ry) (hj : JOk P B rec) {N : Nat} {ro : Option Nat} {c : Code} {x : FS} {e : Ex} {x' : FS}
    (hl : ∀ b, c = .loop b → CodeOk P B N ro c x e x') (h : code P rc ry rec N ro c x = some (e, x')) : CodeOk P B N ro c x e x' := by
  unfold code at h
  split at h
  · cases h; exact ⟨Nat.le_refl _, fun lo ro' m a w hB hlo hro r ht hd hf => wpIn_skip ⟨m, trivial, r, ht, hd, Stp.refl _ _ _⟩⟩
  · rename_i id ops draw
    unfold regE at h
    split at h
    · rename_i t' s' hr
      cases h
      obtain ⟨n1, k1⟩ := reg_ok hm hrc hry hr
      exact ⟨n1, fun lo ro' m a w hB hlo hro r ht hd hf => k1 hB r ht hf fun m' a' w' hdf ht' r' hst => ⟨m', trivial, r', ht', by rw [hdf]; exact hd.step hst, hst⟩⟩
    · cases h
  · exact seq_ok hj h
  · rename_i cnd p q
    unfold condS at h
    split at h
    · rename_i o ho
      have hor := opd_or ho
      split at h
      · rename_i hev
        obtain ⟨n1, k1⟩ := hj _ _ _ _ _ _ h
        refine ⟨n1, fun lo ro' m a w hB hlo hro r ht hd hf => ?_⟩
        have hv := hor m N x.t a ht
        rw [hev] at hv
        cases hc : a.eval cnd <;> rw [hc] at hv <;> cases hv
        exact wpIn_cond_true hc (k1 lo ro' m a w hB hlo hro r ht hd hf)
      · rename_i hev
        obtain ⟨n1, k1⟩ := hj _ _ _ _ _ _ h
        refine ⟨n1, fun lo ro' m a w hB hlo hro r ht hd hf => ?_⟩
        have hv := hor m N x.t a ht
        rw [hev] at hv
        cases hc : a.eval cnd <;> rw [hc] at hv <;> cases hv
        exact wpIn_cond_false hc (k1 lo ro' m a w hB hlo hro r ht hd hf)
      · cases h
    · cases h
  · rename_i id b
    unfold blockS at h
    split at h
    · rename_i i x1 hb
      obtain ⟨n1, k1⟩ := hj _ _ _ _ _ _ hb
      rw [beq_nat] at h
      by_cases hi : i = id
      · subst hi
        rw [beq_self_eq_true] at h; cases h
        refine ⟨n1, fun lo ro' m a w hB hlo hro r ht hd hf => wpIn_block (wpIn_mono (k1 lo ro' m a w hB hlo hro r ht hd hf) fun e1 a1 w1 hp => ?_)⟩
        obtain ⟨m1, he, hrest⟩ := hp
        cases e1 <;> simp only [ExR] at he
        subst he
        simp only [Exit.inBlock, if_true]
        exact ⟨m1, trivial, hrest⟩
      · rw [beq_eq_false_iff_ne.2 hi] at h; cases h
        refine ⟨n1, fun lo ro' m a w hB hlo hro r ht hd hf => wpIn_block (wpIn_mono (k1 lo ro' m a w hB hlo hro r ht hd hf) fun e1 a1 w1 hp => ?_)⟩
        obtain ⟨m1, he, hrest⟩ := hp
        cases e1 <;> simp only [ExR] at he
        subst he
        simp only [Exit.inBlock, if_neg hi]
        exact ⟨m1, rfl, hrest⟩
    · rename_i hne
      obtain ⟨n1, k1⟩ := hj _ _ _ _ _ _ h
      refine ⟨n1, fun lo ro' m a w hB hlo hro r ht hd hf => wpIn_block (wpIn_mono (k1 lo ro' m a w hB hlo hro r ht hd hf) fun e1 a1 w1 hp => ?_)⟩
      have := hp
      obtain ⟨m1, he, _⟩ := this
      cases e1 with
      | exit j =>
        cases e <;> simp only [ExR] at he
        exact (hne _ _ h).elim
      | _ => exact hp
  · exact hl _ rfl
  · rename_i i; cases h; exact ⟨Nat.le_refl _, fun lo ro' m a w hB hlo hro r ht hd hf => wpIn_exit ⟨m, rfl, r, ht, hd, Stp.refl _ _ _⟩⟩
  · cases h; exact ⟨Nat.le_refl _, fun lo ro' m a w hB hlo hro r ht hd hf => wpIn_ret ⟨m, trivial, r, ht, hd, Stp.refl _ _ _⟩⟩
  · rename_i f ps asg body
    exact rangeS_ok hrc hj h
  · cases h

theorem run_ok (hm : P.follows .mixedOrders = true) (hN : NameOk P) {ov : Ov} (hov : OvOk P B ov) : ∀ n, JOk P B (run P ov n) := by
  intro n
  induction n using Nat.strongRecOn with
  | _ n ih =>
    intro N ro c x e x' h
    cases n with
    | zero => cases h
    | succ n =>
      have hj := ih n (by omega)
      refine code_ok hm (callF_ok hN hov hj) (yieldF_ok hj) hj (fun b hb => ?_) h
      subst hb
      exact loop_ok (fun j => run P ov j) (fun _ _ _ _ => rfl) (fun _ _ _ _ _ => rfl) (n + 1) ih x h
theorem call_ok (hm : P.follows .mixedOrders = true) (hN : NameOk P) {ov : Ov} (hov : OvOk P B ov) (n : Nat) : RcOk P B (call P ov n) := callF_ok hN hov (run_ok hm hN hov n)

/-! ### a closed run -/
theorem R.start (w : World) : R P w.heap.size (fun _ => .un) ⟨.e, 0⟩ w :=
  ⟨fun id b C sz h => absurd h (Nat.not_lt_zero _), fun id h => absurd h (Nat.not_lt_zero _), fun id _ => T.get_e _, fun id b C sz h => (by cases h), fun id id' b C sz C' sz' h => (by cases h)⟩

/-- what a call from nothing answers, it answers in every world; no block of the world's is turned -/
theorem closed (hm : P.follows .mixedOrders = true) (hN : NameOk P) {ov : Ov} (hov : ∀ B, OvOk P B ov) {n : Nat} {f : FuncId} {args : List AV} {v : AV} {s' : St} (h : call P ov n f args ⟨.e, 0⟩ = some (v, s')) (w : World) {args' : Array Value}
    (hv : VRs (fun _ => .un) args args'.toList) :
    Calls P f args' w fun e w' => ∃ x m', e = .returned x ∧ VR m' v x ∧ R P w.heap.size m' s' w' ∧ w.heap.size ≤ w'.heap.size ∧ (∀ b, b < w.heap.size → w'.heap[b]? = w.heap[b]?) ∧ w'.os = w.os ∧ w'.tape = w.tape ∧ w'.output = w.output := by
  have := (call_ok hm hN (hov w.heap.size) n f args _ v s' h).2.2 (fun _ => .un) w args' (Nat.le_refl _) (R.start w) hv (fun _ _ _ => rfl)
  refine callsIn_wide.1 (CallsIn.mono this fun e w' hb => ?_)
  obtain ⟨x, m', he, hx, r, st⟩ := hb
  exact ⟨x, m', he, hx, r, st.size, fun b hb => st.frame b hb (fun id C sz h => absurd h (Nat.not_lt_zero _)), st.os, st.tape, st.output⟩
end Go.Ab
