/- THE ABSTRACT EVALUATOR: what is made ready answers for its operation. -/
import Derived.Test.YtpangpggplacoaaGreatAbSimD
namespace Go.Ab
variable {P : Program}

def Good (P : Program) (o : Oper) : OpK → Prop
  | .pu f => PuOk P o f
  | .rd f => RdOk P o f
  | .al f => AlOk P o f
  | .ef f => EfOk P o f
  | .cl f args => ∃ (c : Call) (fo : Operand), o.op = .call c ∧ c.callee = .value fo ∧ OR f fo ∧ OLs args c.args.toList

theorem o1_some {x : Operand} {f : Opd → SK} {k : OpK} (h : o1 x f = some k) : ∃ x', OR x' x ∧ f x' = some k := by
  unfold o1 at h
  split at h
  · rename_i x' hx; exact ⟨x', opd_or hx, h⟩
  · cases h
theorem oM_some {x : Option Operand} {f : Option Opd → SK} {k : OpK} (h : oM x f = some k) : ∃ x', OO x' x ∧ f x' = some k ∧ (x = none ↔ x' = none) := by
  unfold oM at h
  split at h
  · exact ⟨none, trivial, h, by simp⟩
  · split at h
    · rename_i x' hx; exact ⟨some x', opd_or hx, h, by simp⟩
    · cases h
theorem withT_some {t : TypeId} {f : TypeDesc → SK} {k : OpK} (h : withT P t f = some k) : ∃ d, P.underlying t = some d ∧ f d = some k := by
  unfold withT at h
  split at h
  · rename_i d hd; exact ⟨d, hd, h⟩
  · cases h
theorem withZ_some {t : TypeId} {f : AV → SK} {k : OpK} (h : withZ P t f = some k) : ∃ z, zeroA P t = some z ∧ f z = some k := by
  unfold withZ at h
  split at h
  · rename_i d hd; exact ⟨d, hd, h⟩
  · cases h
theorem withS_some {t : TypeId} {f : Nat → SK} {k : OpK} (h : withS P t f = some k) : P.cellsOf t ≠ 0 ∧ f (P.cellsOf t) = some k := by
  unfold withS at h
  rw [beq_nat] at h
  by_cases h0 : P.cellsOf t = 0
  · rw [h0] at h; cases h
  · rw [show (P.cellsOf t == 0) = false from beq_eq_false_iff_ne.2 h0] at h; exact ⟨h0, h⟩
theorem withL_some {α : Type} {x : Option α} {f : α → SK} {k : OpK} (h : withL x f = some k) : ∃ y, x = some y ∧ f y = some k := by
  unfold withL at h
  split at h
  · rename_i y; exact ⟨y, rfl, h⟩
  · cases h
theorem bif_some {b : Bool} {x : SK} {k : OpK} (h : (bif b then x else none) = some k) : b = true ∧ x = some k := by
  cases b with
  | true => exact ⟨rfl, h⟩
  | false => cases h
theorem bif_none {b : Bool} {x : SK} {k : OpK} (h : (bif b then none else x) = some k) : b = false ∧ x = some k := by
  cases b with
  | true => cases h
  | false => exact ⟨rfl, h⟩

theorem good_unsafe {o : Oper} {c : Call} {b : Builtin} {args : List Opd} {tys : List TypeId} {k : OpK} (ho : o.op = .call c) (hc : c.callee = .builtin b) (ha : OLs args c.args.toList) (htys : c.argTypes.toList = tys) (h : sg_unsafe P b args tys = some k) : Good P o k := by
  unfold sg_unsafe at h
  split at h
  · cases h; exact pu_sd ho hc ha
  · obtain ⟨d, hd, h⟩ := withT_some h
    unfold sg_us at h
    split at h
    · obtain ⟨hb, h⟩ := bif_some h
      cases h
      rw [beq_nat, beq_iff_eq] at hb
      exact ef_us ho hc ha htys hd hb
    · cases h
  · cases h

theorem good_builtin {o : Oper} {c : Call} {b : Builtin} {args : List Opd} {k : OpK} (ho : o.op = .call c) (hc : c.callee = .builtin b) (ha : OLs args c.args.toList) (h : sg_builtin P b c.argTypes.toList args = some k) : Good P o k := by
  generalize htys : c.argTypes.toList = tys at h
  unfold sg_builtin at h
  split at h
  · obtain ⟨d, hd, h⟩ := withT_some h
    obtain ⟨du, hdu, h⟩ := withT_some h
    unfold sg_app at h
    split at h
    · split at h
      · cases h
      · rename_i hne
        obtain ⟨z, hz, h⟩ := withZ_some h
        obtain ⟨hs, h⟩ := withS_some h
        obtain ⟨hb, h⟩ := bif_some h
        cases h
        simp only [Bool.and_eq_true, ble_nat, beq_nat, decide_eq_true_eq, beq_iff_eq, llen_eq] at hb
        exact ef_app ho hc ha htys hd hdu (fun q hq => hne q hq) hz hs hb.1 hb.2
    · cases h
  · obtain ⟨d, hd, h⟩ := withT_some h
    unfold sg_copy at h
    split at h
    · obtain ⟨hs, h⟩ := withS_some h
      cases h
      exact ef_copy ho hc ha htys hd hs
    · cases h
  · obtain ⟨d, hd, h⟩ := withT_some h
    unfold sg_len at h
    split at h
    · cases h; exact pu_lenS ho hc ha htys hd
    · cases h; exact pu_lenL ho hc ha htys hd
    · cases h; exact rd_lenM ho hc ha htys hd
    · cases h; exact pu_len_arr ho hc ha htys hd
    · cases h
  · obtain ⟨d, hd, h⟩ := withT_some h
    split at h
    · cases h; exact pu_cap ho hc ha htys hd
    · cases h
  · cases h; exact pu_min false ho hc ha
  · cases h; exact pu_min true ho hc ha
  · obtain ⟨d, hd, h⟩ := withT_some h
    unfold sg_clear at h
    split at h
    · cases h; exact ef_clear_map ho hc ha htys hd
    · obtain ⟨z, hz, h⟩ := withZ_some h
      obtain ⟨hs, h⟩ := withS_some h
      obtain ⟨_, h⟩ := bif_some h
      cases h
      exact ef_clear_sl ho hc ha htys hd hz
    · cases h
  · obtain ⟨d, hd, h⟩ := withT_some h
    unfold sg_del at h
    split at h
    · obtain ⟨q, hq, h⟩ := withL_some h
      cases h
      exact ef_del ho hc ha htys hd hq
    · cases h
  · exact good_unsafe ho hc ha htys h

theorem good {o : Oper} {k : OpK} (h : stageK P o.op = some k) : Good P o k := by
  unfold stageK at h
  split at h <;> rename_i ho
  · obtain ⟨x, hx, h⟩ := o1_some h; cases h; exact pu_move ho hx
  · obtain ⟨x, hx, h⟩ := o1_some h; cases h; exact pu_assign ho hx
  · obtain ⟨c, hc, h⟩ := o1_some h; obtain ⟨x, hx, h⟩ := o1_some h; obtain ⟨y, hy, h⟩ := o1_some h; cases h; exact pu_pick ho hc hx hy
  · obtain ⟨z, hz, h⟩ := withZ_some h; cases h; exact al_alloc ho hz
  · obtain ⟨x, hx, h⟩ := o1_some h; cases h; exact al_box ho hx
  · obtain ⟨ps, hp, h⟩ := withL_some h; obtain ⟨z, hz, h⟩ := withZ_some h; obtain ⟨d, hd, h⟩ := withT_some h
    unfold sg_build at h
    split at h
    · obtain ⟨hb, h⟩ := bif_some h; cases h; exact pu_build_struct ho (oP_or hp) hz hd hb
    · obtain ⟨hs, h⟩ := withS_some h; cases h; exact pu_build_arr ho (oP_or hp) hz hd hs
    · cases h
  · obtain ⟨ps, hp, h⟩ := withL_some h; obtain ⟨d, hd, h⟩ := withT_some h
    unfold sg_bs at h
    split at h
    · obtain ⟨z, hz, h⟩ := withZ_some h; obtain ⟨hs, h⟩ := withS_some h; obtain ⟨hb, h⟩ := bif_some h; cases h
      simp only [Bool.and_eq_true, ble_nat, beq_nat, decide_eq_true_eq, beq_iff_eq, llen_eq] at hb
      exact al_bs ho (oP_or hp) hd hz hs hb.1 hb.2
    · cases h
  · obtain ⟨x, hx, h⟩ := o1_some h; obtain ⟨d, hd, h⟩ := withT_some h; cases h; exact rd_load ho hx hd
  · obtain ⟨x, hx, h⟩ := o1_some h; obtain ⟨y, hy, h⟩ := o1_some h; obtain ⟨d, hd, h⟩ := withT_some h; cases h; exact ef_store ho hx hy hd
  · obtain ⟨x, hx, h⟩ := o1_some h; cases h; exact pu_nil ho hx
  · obtain ⟨x, hx, h⟩ := o1_some h; obtain ⟨y, hy, h⟩ := o1_some h; cases h; exact pu_bin ho hx hy
  · obtain ⟨x, hx, h⟩ := o1_some h; cases h; exact pu_un ho hx
  · obtain ⟨x, hx, h⟩ := o1_some h; obtain ⟨ds, hds, h⟩ := withT_some h; obtain ⟨d, hd, h⟩ := withT_some h
    unfold sg_cv at h
    split at h
    · cases h; exact pu_cv ho hx hds hd
    · split at h
      · obtain ⟨de, hde, h⟩ := withT_some h
        split at h
        · cases h; exact rd_b2s ho hx hds hd hde
        · cases h
      · cases h; exact pu_str ho hx hds hd
      · cases h
    · split at h
      · obtain ⟨de, hde, h⟩ := withT_some h
        split at h
        · obtain ⟨hb, h⟩ := bif_some h; cases h
          rw [beq_nat, beq_iff_eq] at hb
          exact al_s2b ho hx hds hd hde hb
        · cases h
      · cases h
    · cases h
  · obtain ⟨x, hx, h⟩ := o1_some h; obtain ⟨d, hd, h⟩ := withT_some h
    unfold sg_if at h
    split at h
    · cases h
    · rename_i hne; cases h; exact pu_if ho hx hd (fun ms hms => hne ms hms)
  · obtain ⟨xs, hxs, h⟩ := withL_some h; obtain ⟨ys, hys, h⟩ := withL_some h
    split at h
    · cases h; exact pu_fn ho (oL_or hxs) (oL_or hys)
    · cases h
  · split at h
    · cases h; exact al_mm ho
    · cases h
  · obtain ⟨l, hl, h⟩ := o1_some h; obtain ⟨c, hc, h⟩ := o1_some h; obtain ⟨d, hd, h⟩ := withT_some h
    unfold sg_ms at h
    split at h
    · obtain ⟨z, hz, h⟩ := withZ_some h; obtain ⟨hs, h⟩ := withS_some h; obtain ⟨hb, h⟩ := bif_some h; cases h
      rw [beq_nat, beq_iff_eq, llen_eq] at hb
      exact al_ms ho hl hc hd hz hs hb
    · cases h
  · obtain ⟨x, hx, h⟩ := o1_some h; obtain ⟨lo, hlo, h, _⟩ := oM_some h; obtain ⟨hi, hhi, h, _⟩ := oM_some h; obtain ⟨mx, hmx, h, hmn⟩ := oM_some h; obtain ⟨d, hd, h⟩ := withT_some h
    unfold sg_slice at h
    split at h
    · split at h
      · cases h
        have := hmn.2 rfl
        rw [this] at ho
        exact pu_slice_str ho hx hlo hhi hd
      · cases h
    · obtain ⟨hs, h⟩ := withS_some h; cases h; exact rd_slice_sl ho hx hlo hhi hmx hd hs
    · obtain ⟨hs, h⟩ := withS_some h; cases h; exact pu_slice_arr ho hx hlo hhi hmx hd hs
    · cases h
  · obtain ⟨x, hx, h⟩ := o1_some h; obtain ⟨d, hd, h⟩ := withT_some h
    unfold sg_fa at h
    split at h
    · obtain ⟨fl, hf, h⟩ := withL_some h; obtain ⟨hs, h⟩ := withS_some h; cases h; exact pu_fa ho hx hd hf hs
    · cases h
  · obtain ⟨x, hx, h⟩ := o1_some h; obtain ⟨d, hd, h⟩ := withT_some h
    unfold sg_field at h
    split at h
    · obtain ⟨fl, hf, h⟩ := withL_some h; obtain ⟨df, hdf, h⟩ := withT_some h; cases h; exact pu_field ho hx hd hf hdf
    · cases h
  · obtain ⟨x, hx, h⟩ := o1_some h; obtain ⟨i, hi, h⟩ := o1_some h; obtain ⟨d, hd, h⟩ := withT_some h
    unfold sg_ia at h
    split at h
    · obtain ⟨hs, h⟩ := withS_some h; cases h; exact pu_ia_arr ho hx hi hd hs
    · obtain ⟨hs, h⟩ := withS_some h; cases h; exact pu_ia_sl ho hx hi hd hs
    · cases h
  · obtain ⟨x, hx, h⟩ := o1_some h; obtain ⟨i, hi, h⟩ := o1_some h; obtain ⟨d, hd, h⟩ := withT_some h
    unfold sg_ind at h
    split at h
    · cases h; exact pu_ind ho hx hi hd
    · obtain ⟨de, hde, h⟩ := withT_some h; cases h; exact pu_inda ho hx hi hd hde
    · cases h
  · obtain ⟨x, hx, h⟩ := o1_some h; obtain ⟨k, hk, h⟩ := o1_some h; obtain ⟨d, hd, h⟩ := withT_some h
    unfold sg_look at h
    split at h
    · obtain ⟨q, hq, h⟩ := withL_some h; obtain ⟨z, hz, h⟩ := withZ_some h; cases h; exact rd_look ho hx hk hd hq hz
    · cases h
  · obtain ⟨x, hx, h⟩ := o1_some h; obtain ⟨k, hk, h⟩ := o1_some h; obtain ⟨v, hv, h⟩ := o1_some h; obtain ⟨d, hd, h⟩ := withT_some h
    unfold sg_upd at h
    split at h
    · obtain ⟨q, hq, h⟩ := withL_some h; cases h; exact ef_upd (.inl ho) hx hk hv hd hq
    · cases h
  · obtain ⟨x, hx, h⟩ := o1_some h; obtain ⟨k, hk, h⟩ := o1_some h; obtain ⟨v, hv, h⟩ := o1_some h; obtain ⟨d, hd, h⟩ := withT_some h
    unfold sg_upd at h
    split at h
    · obtain ⟨q, hq, h⟩ := withL_some h; cases h; exact ef_upd (.inr ho) hx hk hv hd hq
    · cases h
  · obtain ⟨x, hx, h⟩ := o1_some h; obtain ⟨d, hd, h⟩ := withT_some h
    unfold sg_range at h
    split at h
    · cases h; exact ef_range ho hx hd
    · cases h
  · obtain ⟨x, hx, h⟩ := o1_some h
    obtain ⟨hb, h⟩ := bif_none h
    subst hb
    cases h; exact ef_next ho hx
  · obtain ⟨x, hx, h⟩ := o1_some h; cases h; exact rd_entry ho hx
  · obtain ⟨x, hx, h⟩ := o1_some h; cases h; exact pu_ext ho hx
  · unfold sg_call at h
    obtain ⟨args, hargs, h⟩ := withL_some h
    split at h
    · rename_i hb; exact good_builtin ho hb (oL_or hargs) h
    · rename_i hf
      obtain ⟨f, hfo, h⟩ := o1_some h
      cases h
      exact ⟨_, _, ho, hf, hfo, oL_or hargs⟩
    · cases h
  · cases h
end Go.Ab
