/- THE ABSTRACT EVALUATOR: its store only grows. -/
import Derived.Test.YtpangpggplacoaaGreatAbStage
namespace Go.Ab
variable {P : Program}

def NxOk (f : T AV → St → Option (AV × St)) : Prop := ∀ t s v s', f t s = some (v, s') → s.nx ≤ s'.nx
def NxK : OpK → Prop
  | .ef f => NxOk f
  | _ => True

theorem nx_store (sz : Nat) (x y : Opd) : NxOk (k_store sz x y) := by
  intro t s v s' h
  unfold k_store storeA at h
  split at h
  · split at h
    · rename_i c e o _
      cases hb : Nat.beq (llen (y.ev t).cells) sz with
      | false => rw [hb] at h; cases h
      | true =>
        rw [hb] at h
        simp only [cond_true] at h
        split at h
        · cases h; simp
        · cases h
    · cases h
  · cases h
theorem nx_appIn {s s' : St} {id off len n : Nat} {cap : Option Nat} {ce : TypeId} {o : Bool} {c : Option (List AV)} {v : AV} (h : appIn s id off len n cap ce o c = some (v, s')) : s.nx ≤ s'.nx := by
  unfold appIn at h
  split at h
  · cases h; simp
  · cases h
theorem nx_appOut {e : TypeId} {s s' : St} {id off len n : Nat} {ce : TypeId} {new : List AV} {cap : Option Nat} {c : Option (List AV)} {v : AV} (h : appOut e s id off len n ce new cap c = some (v, s')) : s.nx ≤ s'.nx := by
  unfold appOut newSl at h
  split at h
  · split at h
    · cases h; simp
    · cases hb : (Nat.beq off 0 && Nat.beq ce e && lall oneA new) with
      | false => rw [hb] at h; cases h
      | true => rw [hb] at h; cases h; simp
  · cases h
theorem nx_app (e : TypeId) (sz : Nat) (x y : Opd) : NxOk (k_app e sz x y) := by
  intro t s v s' h
  unfold k_app appendA at h
  split at h
  · rename_i n _
    split at h
    · rename_i new _
      split at h
      · cases hb : Nat.beq n 0 with
        | true => rw [hb] at h; cases h; exact Nat.le_refl _
        | false =>
          rw [hb] at h
          simp only [cond_false] at h
          cases hc : Nat.ble n 16777216 with
          | true => rw [hc] at h; cases h; simp
          | false => rw [hc] at h; cases h
      · rename_i id off len cap _
        cases hc : Nat.ble (len + n) 16777216 with
        | false => rw [hc] at h; cases h
        | true =>
          rw [hc] at h
          simp only [cond_true] at h
          unfold appSl at h
          split at h
          · rename_i c ce o _
            cases hr : appRoom off len n sz e ce c cap with
            | true => rw [hr] at h; exact nx_appIn h
            | false => rw [hr] at h; exact nx_appOut h
          · cases h
      · cases h
    · cases h
  · cases h
theorem nx_copy (sz : Nat) (x y : Opd) : NxOk (k_copy sz x y) := by
  intro t s v s' h
  unfold k_copy copyA at h
  split at h
  · split at h
    · unfold copyTo at h
      split at h
      · cases h; exact Nat.le_refl _
      · cases h; exact Nat.le_refl _
      · split at h
        · split at h
          · cases h; simp
          · cases h
        · cases h
      · cases h
    · cases h
  · cases h
theorem nx_upd (q : KQ) (m k x : Opd) : NxOk (k_upd q m k x) := by
  intro t s v s' h
  unfold k_upd updA at h
  split at h
  · split at h
    · split at h
      · cases h; simp
      · cases h
    · cases h
  · cases h
theorem nx_del (q : KQ) (m k : Opd) : NxOk (k_del q m k) := by
  intro t s v s' h
  unfold k_del delA at h
  split at h
  · split at h
    · split at h
      · cases h; simp
      · cases h
    · cases h
  · cases h
theorem nx_clearM (x : Opd) : NxOk (k_clearM x) := by
  intro t s v s' h
  unfold k_clearM clearM at h
  split at h
  · cases h; exact Nat.le_refl _
  · split at h
    · cases h; simp
    · cases h
  · cases h
theorem nx_clearL (z : List AV) (x : Opd) : NxOk (k_clearL z x) := by
  intro t s v s' h
  unfold k_clearL clearL at h
  split at h
  · cases h; exact Nat.le_refl _
  · cases h; exact Nat.le_refl _
  · split at h
    · split at h
      · cases h; simp
      · cases h
    · cases h
  · cases h
theorem nx_us (e : TypeId) (p n : Opd) : NxOk (k_us e p n) := by
  intro t s v s' h
  unfold k_us usA at h
  split at h
  · rename_i k _ _
    cases hb : Nat.beq k 0 with
    | true => rw [hb] at h; cases h; exact Nat.le_refl _
    | false => rw [hb] at h; cases h
  · rename_i id off k _ _
    split at h
    · rename_i c ce op _
      cases hb : (Nat.beq off 0 && Nat.beq ce e && Nat.blt 0 k && Nat.ble k 9223372036854775807) with
      | false => rw [hb] at h; cases h
      | true =>
        rw [hb] at h
        simp only [cond_true] at h
        unfold usRow at h
        split at h
        · cases h; rw [St.nx_put]; exact Nat.le_refl _
        · cases h
    · cases h
  · cases h
theorem nx_range (x : Opd) : NxOk (k_range x) := by
  intro t s v s' h
  unfold k_range rangeA at h
  split at h
  · cases h; simp
  · split at h
    · cases h; simp
    · cases h
  · cases h
theorem nx_next (x : Opd) : NxOk (k_next x) := by
  intro t s v s' h
  unfold k_next nextA at h
  split at h
  · split at h
    · cases h; exact Nat.le_refl _
    · split at h
      · unfold nextM at h
        split at h
        · cases h; exact Nat.le_refl _
        · rename_i e _
          generalize lany (fun b => Nat.beq b e.born) _ = b1 at h
          generalize Nat.blt e.born _ = b2 at h
          generalize (Nat.blt e.born _ && _) = b3 at h
          cases b1 <;> cases b2 <;> cases b3 <;> first | (cases h; done) | (cases h; rw [St.nx_put]; exact Nat.le_refl _) | (cases h; exact Nat.le_refl _)
        · cases h
      · cases h
    · split at h
      · unfold nextN at h
        generalize (entsOk _ _ && entsEq _ _ && Nat.ble _ _) = b0 at h
        cases b0 with
        | false => cases h
        | true =>
        simp only [cond_true] at h
        generalize Nat.beq _ _ = b1 at h
        cases b1 with
        | true => cases h; exact Nat.le_refl _
        | false => cases h; simp only [St.nx_new, St.nx_put]; omega
      · cases h
    · cases h
  · cases h

theorem nx_unsafe {b : Builtin} {tys : List TypeId} {args : List Opd} {k : OpK} (h : sg_unsafe P b args tys = some k) : NxK k := by
  unfold sg_unsafe at h
  split at h
  · cases h; trivial
  · obtain ⟨d, hd, h⟩ := withT_some h
    unfold sg_us at h
    split at h
    · obtain ⟨_, h⟩ := bif_some h
      cases h
      exact nx_us _ _ _
    · cases h
  · cases h

theorem nx_builtin {b : Builtin} {tys : List TypeId} {args : List Opd} {k : OpK} (h : sg_builtin P b tys args = some k) : NxK k := by
  unfold sg_builtin at h
  split at h
  · obtain ⟨d, hd, h⟩ := withT_some h
    obtain ⟨du, hdu, h⟩ := withT_some h
    unfold sg_app at h
    split at h
    · split at h
      · cases h
      · obtain ⟨z, hz, h⟩ := withZ_some h
        obtain ⟨hs, h⟩ := withS_some h
        obtain ⟨hb, h⟩ := bif_some h
        cases h
        exact nx_app _ _ _ _
    · cases h
  · obtain ⟨d, hd, h⟩ := withT_some h
    unfold sg_copy at h
    split at h
    · obtain ⟨hs, h⟩ := withS_some h
      cases h
      exact nx_copy _ _ _
    · cases h
  · obtain ⟨d, hd, h⟩ := withT_some h
    unfold sg_len at h
    split at h <;> first | (cases h; trivial) | cases h
  · obtain ⟨d, hd, h⟩ := withT_some h
    split at h
    · cases h; trivial
    · cases h
  · cases h; trivial
  · cases h; trivial
  · obtain ⟨d, hd, h⟩ := withT_some h
    unfold sg_clear at h
    split at h
    · cases h; exact nx_clearM _
    · obtain ⟨z, hz, h⟩ := withZ_some h
      obtain ⟨hs, h⟩ := withS_some h
      obtain ⟨_, h⟩ := bif_some h
      cases h
      exact nx_clearL _ _
    · cases h
  · obtain ⟨d, hd, h⟩ := withT_some h
    unfold sg_del at h
    split at h
    · obtain ⟨q, hq, h⟩ := withL_some h
      cases h
      exact nx_del _ _ _
    · cases h
  · exact nx_unsafe h

theorem nxK {op : Op} {k : OpK} (h : stageK P op = some k) : NxK k := by
  unfold stageK at h
  split at h
  · obtain ⟨x, hx, h⟩ := o1_some h; cases h; trivial
  · obtain ⟨x, hx, h⟩ := o1_some h; cases h; trivial
  · obtain ⟨c, hc, h⟩ := o1_some h; obtain ⟨x, hx, h⟩ := o1_some h; obtain ⟨y, hy, h⟩ := o1_some h; cases h; trivial
  · obtain ⟨z, hz, h⟩ := withZ_some h; cases h; trivial
  · obtain ⟨x, hx, h⟩ := o1_some h; cases h; trivial
  · obtain ⟨ps, hp, h⟩ := withL_some h; obtain ⟨z, hz, h⟩ := withZ_some h; obtain ⟨d, hd, h⟩ := withT_some h
    unfold sg_build at h
    split at h
    · obtain ⟨hb, h⟩ := bif_some h; cases h; trivial
    · obtain ⟨hs, h⟩ := withS_some h; cases h; trivial
    · cases h
  · obtain ⟨ps, hp, h⟩ := withL_some h; obtain ⟨d, hd, h⟩ := withT_some h
    unfold sg_bs at h
    split at h
    · obtain ⟨z, hz, h⟩ := withZ_some h; obtain ⟨hs, h⟩ := withS_some h; obtain ⟨hb, h⟩ := bif_some h; cases h
      trivial
    · cases h
  · obtain ⟨x, hx, h⟩ := o1_some h; obtain ⟨d, hd, h⟩ := withT_some h; cases h; trivial
  · obtain ⟨x, hx, h⟩ := o1_some h; obtain ⟨y, hy, h⟩ := o1_some h; obtain ⟨d, hd, h⟩ := withT_some h; cases h; exact nx_store _ _ _
  · obtain ⟨x, hx, h⟩ := o1_some h; cases h; trivial
  · obtain ⟨x, hx, h⟩ := o1_some h; obtain ⟨y, hy, h⟩ := o1_some h; cases h; trivial
  · obtain ⟨x, hx, h⟩ := o1_some h; cases h; trivial
  · obtain ⟨x, hx, h⟩ := o1_some h; obtain ⟨ds, hds, h⟩ := withT_some h; obtain ⟨d, hd, h⟩ := withT_some h
    unfold sg_cv at h
    split at h
    · cases h; trivial
    · split at h
      · obtain ⟨de, hde, h⟩ := withT_some h
        split at h
        · cases h; trivial
        · cases h
      · cases h; trivial
      · cases h
    · split at h
      · obtain ⟨de, hde, h⟩ := withT_some h
        split at h
        · obtain ⟨hb, h⟩ := bif_some h; cases h
          trivial
        · cases h
      · cases h
    · cases h
  · obtain ⟨x, hx, h⟩ := o1_some h; obtain ⟨d, hd, h⟩ := withT_some h
    unfold sg_if at h
    split at h
    · cases h
    · cases h; trivial
  · obtain ⟨xs, hxs, h⟩ := withL_some h; obtain ⟨ys, hys, h⟩ := withL_some h
    split at h
    · cases h; trivial
    · cases h
  · split at h
    · cases h; trivial
    · cases h
  · obtain ⟨l, hl, h⟩ := o1_some h; obtain ⟨c, hc, h⟩ := o1_some h; obtain ⟨d, hd, h⟩ := withT_some h
    unfold sg_ms at h
    split at h
    · obtain ⟨z, hz, h⟩ := withZ_some h; obtain ⟨hs, h⟩ := withS_some h; obtain ⟨hb, h⟩ := bif_some h; cases h
      trivial
    · cases h
  · obtain ⟨x, hx, h⟩ := o1_some h; obtain ⟨lo, hlo, h, _⟩ := oM_some h; obtain ⟨hi, hhi, h, _⟩ := oM_some h; obtain ⟨mx, hmx, h, hmn⟩ := oM_some h; obtain ⟨d, hd, h⟩ := withT_some h
    unfold sg_slice at h
    split at h
    · split at h
      · cases h
        trivial
      · cases h
    · obtain ⟨hs, h⟩ := withS_some h; cases h; trivial
    · obtain ⟨hs, h⟩ := withS_some h; cases h; trivial
    · cases h
  · obtain ⟨x, hx, h⟩ := o1_some h; obtain ⟨d, hd, h⟩ := withT_some h
    unfold sg_fa at h
    split at h
    · obtain ⟨fl, hf, h⟩ := withL_some h; obtain ⟨hs, h⟩ := withS_some h; cases h; trivial
    · cases h
  · obtain ⟨x, hx, h⟩ := o1_some h; obtain ⟨d, hd, h⟩ := withT_some h
    unfold sg_field at h
    split at h
    · obtain ⟨fl, hf, h⟩ := withL_some h; obtain ⟨df, hdf, h⟩ := withT_some h; cases h; trivial
    · cases h
  · obtain ⟨x, hx, h⟩ := o1_some h; obtain ⟨i, hi, h⟩ := o1_some h; obtain ⟨d, hd, h⟩ := withT_some h
    unfold sg_ia at h
    split at h
    · obtain ⟨hs, h⟩ := withS_some h; cases h; trivial
    · obtain ⟨hs, h⟩ := withS_some h; cases h; trivial
    · cases h
  · obtain ⟨x, hx, h⟩ := o1_some h; obtain ⟨i, hi, h⟩ := o1_some h; obtain ⟨d, hd, h⟩ := withT_some h
    unfold sg_ind at h
    split at h
    · cases h; trivial
    · obtain ⟨de, hde, h⟩ := withT_some h; cases h; trivial
    · cases h
  · obtain ⟨x, hx, h⟩ := o1_some h; obtain ⟨k, hk, h⟩ := o1_some h; obtain ⟨d, hd, h⟩ := withT_some h
    unfold sg_look at h
    split at h
    · obtain ⟨q, hq, h⟩ := withL_some h; obtain ⟨z, hz, h⟩ := withZ_some h; cases h; trivial
    · cases h
  · obtain ⟨x, hx, h⟩ := o1_some h; obtain ⟨k, hk, h⟩ := o1_some h; obtain ⟨v, hv, h⟩ := o1_some h; obtain ⟨d, hd, h⟩ := withT_some h
    unfold sg_upd at h
    split at h
    · obtain ⟨q, hq, h⟩ := withL_some h; cases h; exact nx_upd _ _ _ _
    · cases h
  · obtain ⟨x, hx, h⟩ := o1_some h; obtain ⟨k, hk, h⟩ := o1_some h; obtain ⟨v, hv, h⟩ := o1_some h; obtain ⟨d, hd, h⟩ := withT_some h
    unfold sg_upd at h
    split at h
    · obtain ⟨q, hq, h⟩ := withL_some h; cases h; exact nx_upd _ _ _ _
    · cases h
  · obtain ⟨x, hx, h⟩ := o1_some h; obtain ⟨d, hd, h⟩ := withT_some h
    unfold sg_range at h
    split at h
    · cases h; exact nx_range _
    · cases h
  · obtain ⟨x, hx, h⟩ := o1_some h
    obtain ⟨hb, h⟩ := bif_none h
    subst hb
    cases h; exact nx_next _
  · obtain ⟨x, hx, h⟩ := o1_some h; cases h; trivial
  · obtain ⟨x, hx, h⟩ := o1_some h; cases h; trivial
  · unfold sg_call at h
    obtain ⟨args, hargs, h⟩ := withL_some h
    split at h
    · exact nx_builtin h
    · obtain ⟨f, hfo, h⟩ := o1_some h
      cases h
      trivial
    · cases h
  · cases h
end Go.Ab
