/- THE ABSTRACT EVALUATOR: an operation looks at its own operands alone. -/
import Derived.Test.YtpangpggplacoaaGreatAbReg
namespace Go.Ab
variable {P : Program}

def Agree (ks : List Nat) (t t' : T AV) : Prop := ∀ k ∈ ks, t.get (path k) = t'.get (path k)
def OLoc (ks : List Nat) (x : Opd) : Prop := ∀ t t', Agree ks t t' → x.ev t = x.ev t'
def KLoc (ks : List Nat) : OpK → Prop
  | .pu f => ∀ t t', Agree ks t t' → f t = f t'
  | .rd f => ∀ t t' s, Agree ks t t' → f t s = f t' s
  | .al f => ∀ t t', Agree ks t t' → f t = f t'
  | .ef f => ∀ t t' s, Agree ks t t' → f t s = f t' s
  | .cl f args => OLoc ks f ∧ ∀ t t', Agree ks t t' → evs t args = evs t' args

theorem opd_loc {ks : List Nat} {x : Operand} {o : Opd} (h : opd x = some o) (hm : ∀ d, x = .tmp d → d ∈ ks) : OLoc ks o := by
  intro t t' ha
  unfold opd at h
  split at h
  · cases h; unfold Opd.ev; simp only; rw [ha _ (hm _ rfl)]
  · split at h
    · cases h; rfl
    · cases h
  · cases h; rfl
  · cases h
theorem o1_loc {ks : List Nat} {x : Operand} {f : Opd → SK} {k : OpK} (hm : ∀ d, x = .tmp d → d ∈ ks) (h : o1 x f = some k) : ∃ x', OLoc ks x' ∧ f x' = some k := by
  unfold o1 at h
  split at h
  · rename_i x' hx; exact ⟨x', opd_loc hx hm, h⟩
  · cases h
theorem oM_loc {ks : List Nat} {x : Option Operand} {f : Option Opd → SK} {k : OpK} (hm : ∀ d, x = some (.tmp d) → d ∈ ks) (h : oM x f = some k) : ∃ x', (∀ t t', Agree ks t t' → evo t x' = evo t' x') ∧ f x' = some k := by
  unfold oM at h
  split at h
  · exact ⟨none, fun _ _ _ => rfl, h⟩
  · split at h
    · rename_i x' hx
      refine ⟨some x', fun t t' ha => ?_, h⟩
      unfold evo; simp only; rw [opd_loc hx (fun d e => hm d (by rw [e])) t t' ha]
    · cases h
theorem oL_locs {ks : List Nat} : ∀ {l : List Operand} {r : List Opd}, oL l = some r → (∀ d, Operand.tmp d ∈ l → d ∈ ks) → ∀ o ∈ r, OLoc ks o := by
  intro l
  induction l with
  | nil => intro r h _ o ho; cases h; cases ho
  | cons x l ih =>
    intro r h hm o ho
    unfold oL at h
    split at h
    · rename_i a b ha hb; cases h
      rcases List.mem_cons.1 ho with rfl | ho
      · exact opd_loc ha (fun d e => hm d (by simp [e]))
      · exact ih hb (fun d e => hm d (by simp [e])) o ho
    · cases h
theorem evs_loc {ks : List Nat} : ∀ {r : List Opd}, (∀ o ∈ r, OLoc ks o) → ∀ t t', Agree ks t t' → evs t r = evs t' r := by
  intro r
  induction r with
  | nil => intro _ t t' _; rfl
  | cons o r ih =>
    intro h t t' ha
    show o.ev t :: evs t r = o.ev t' :: evs t' r
    rw [h o (by simp) t t' ha, ih (fun o ho => h o (by simp [ho])) t t' ha]
theorem oL_loc {ks : List Nat} {l : List Operand} {r : List Opd} (h : oL l = some r) (hm : ∀ d, Operand.tmp d ∈ l → d ∈ ks) : ∀ t t', Agree ks t t' → evs t r = evs t' r := evs_loc (oL_locs h hm)
theorem oP_loc {ks : List Nat} : ∀ {l : List (Nat × Operand)} {r : List (Nat × Opd)}, oP l = some r → (∀ i d, (i, Operand.tmp d) ∈ l → d ∈ ks) → ∀ t t', Agree ks t t' → evps t r = evps t' r := by
  intro l
  induction l with
  | nil => intro r h _ t t' _; cases h; rfl
  | cons x l ih =>
    intro r h hm t t' ha
    obtain ⟨i, x⟩ := x
    unfold oP at h
    split at h
    · rename_i a b hoa hb; cases h
      show (i, a.ev t) :: evps t b = (i, a.ev t') :: evps t' b
      rw [opd_loc hoa (fun d e => hm i d (by simp [e])) t t' ha, ih hb (fun i d e => hm i d (by simp [e])) t t' ha]
    · cases h

theorem loc_unsafe {ks : List Nat} {b : Builtin} {tys : List TypeId} {args : List Opd} {k : OpK} (hl : ∀ o ∈ args, OLoc ks o) (h : sg_unsafe P b args tys = some k) : KLoc ks k := by
  unfold sg_unsafe at h
  split at h
  · rename_i _ x
    cases h; exact fun t t' ha => by simp only [k_sd, hl x (by simp) t t' ha]
  · rename_i p n _ _
    obtain ⟨d, hd, h⟩ := withT_some h
    unfold sg_us at h
    split at h
    · obtain ⟨_, h⟩ := bif_some h
      cases h
      exact fun t t' s ha => by simp only [k_us, hl p (by simp) t t' ha, hl n (by simp) t t' ha]
    · cases h
  · cases h
theorem loc_builtin {ks : List Nat} {b : Builtin} {tys : List TypeId} {args : List Opd} {k : OpK} (hl : ∀ o ∈ args, OLoc ks o) (h : sg_builtin P b tys args = some k) : KLoc ks k := by
  unfold sg_builtin at h
  split at h
  · rename_i x y t u
    obtain ⟨d, hd, h⟩ := withT_some h
    obtain ⟨du, hdu, h⟩ := withT_some h
    unfold sg_app at h
    split at h
    · split at h
      · cases h
      ·
        obtain ⟨z, hz, h⟩ := withZ_some h
        obtain ⟨hs, h⟩ := withS_some h
        obtain ⟨hb, h⟩ := bif_some h
        cases h
        exact fun t t' s ha => by simp only [k_app, hl x (by simp) t t' ha, hl y (by simp) t t' ha]
    · cases h
  · rename_i x y t r
    obtain ⟨d, hd, h⟩ := withT_some h
    unfold sg_copy at h
    split at h
    · obtain ⟨hs, h⟩ := withS_some h
      cases h
      exact fun t t' s ha => by simp only [k_copy, hl x (by simp) t t' ha, hl y (by simp) t t' ha]
    · cases h
  · rename_i x t r
    obtain ⟨d, hd, h⟩ := withT_some h
    unfold sg_len at h
    split at h
    · cases h; exact fun t t' ha => by simp only [k_lenS, hl x (by simp) t t' ha]
    · cases h; exact fun t t' ha => by simp only [k_lenL, hl x (by simp) t t' ha]
    · cases h; exact fun t t' s ha => by simp only [k_lenM, hl x (by simp) t t' ha]
    · cases h; exact fun t t' ha => rfl
    · cases h
  · rename_i x t _
    obtain ⟨d, hd, h⟩ := withT_some h
    split at h
    · cases h; exact fun t t' ha => by simp only [k_cap, hl x (by simp) t t' ha]
    · cases h
  · rename_i q x r
    cases h; exact fun t t' ha => by simp only [k_min, hl x (by simp) t t' ha, evs_loc (fun o ho => hl o (List.mem_cons_of_mem _ ho)) t t' ha]
  · rename_i q x r
    cases h; exact fun t t' ha => by simp only [k_min, hl x (by simp) t t' ha, evs_loc (fun o ho => hl o (List.mem_cons_of_mem _ ho)) t t' ha]
  · rename_i x t r
    obtain ⟨d, hd, h⟩ := withT_some h
    unfold sg_clear at h
    split at h
    · cases h; exact fun t t' s ha => by simp only [k_clearM, hl x (by simp) t t' ha]
    · obtain ⟨z, hz, h⟩ := withZ_some h
      obtain ⟨hs, h⟩ := withS_some h
      obtain ⟨_, h⟩ := bif_some h
      cases h
      exact fun t t' s ha => by simp only [k_clearL, hl x (by simp) t t' ha]
    · cases h
  · rename_i m k t r
    obtain ⟨d, hd, h⟩ := withT_some h
    unfold sg_del at h
    split at h
    · obtain ⟨q, hq, h⟩ := withL_some h
      cases h
      exact fun t t' s ha => by simp only [k_del, hl m (by simp) t t' ha, hl k (by simp) t t' ha]
    · cases h
  · exact loc_unsafe hl h

theorem loc {ks : List Nat} {op : Op} {k : OpK} (h : stageK P op = some k) (hm : ∀ d, Operand.tmp d ∈ op.operands → d ∈ ks) : KLoc ks k := by
  unfold stageK at h
  split at h
  · obtain ⟨x, hx, h⟩ := o1_loc (ks := ks) (fun d e => hm d (by simp [Op.operands, e])) h; cases h; exact fun t t' ha => by simp only [k_move, hx t t' ha]
  · obtain ⟨x, hx, h⟩ := o1_loc (ks := ks) (fun d e => hm d (by simp [Op.operands, e])) h; cases h; exact fun t t' ha => by simp only [k_move, hx t t' ha]
  · obtain ⟨c, hc, h⟩ := o1_loc (ks := ks) (fun d e => hm d (by simp [Op.operands, e])) h; obtain ⟨x, hx, h⟩ := o1_loc (ks := ks) (fun d e => hm d (by simp [Op.operands, e])) h; obtain ⟨y, hy, h⟩ := o1_loc (ks := ks) (fun d e => hm d (by simp [Op.operands, e])) h; cases h; exact fun t t' ha => by simp only [k_pick, hc t t' ha, hx t t' ha, hy t t' ha]
  · obtain ⟨z, hz, h⟩ := withZ_some h; cases h; exact fun t t' ha => rfl
  · obtain ⟨x, hx, h⟩ := o1_loc (ks := ks) (fun d e => hm d (by simp [Op.operands, e])) h; cases h; exact fun t t' ha => by simp only [k_box, hx t t' ha]
  · obtain ⟨ps, hp, h⟩ := withL_some h; obtain ⟨z, hz, h⟩ := withZ_some h; obtain ⟨d, hd, h⟩ := withT_some h
    unfold sg_build at h
    split at h
    · obtain ⟨hb, h⟩ := bif_some h; cases h; exact fun t t' ha => by simp only [k_build, oP_loc hp (fun i d e => hm d (by simp [Op.operands]; exact ⟨_, by simpa using e⟩)) t t' ha]
    · obtain ⟨hs, h⟩ := withS_some h; cases h; exact fun t t' ha => by simp only [k_build, oP_loc hp (fun i d e => hm d (by simp [Op.operands]; exact ⟨_, by simpa using e⟩)) t t' ha]
    · cases h
  · obtain ⟨ps, hp, h⟩ := withL_some h; obtain ⟨d, hd, h⟩ := withT_some h
    unfold sg_bs at h
    split at h
    · obtain ⟨z, hz, h⟩ := withZ_some h; obtain ⟨hs, h⟩ := withS_some h; obtain ⟨hb, h⟩ := bif_some h; cases h
      exact fun t t' ha => by simp only [k_bs, oP_loc hp (fun i d e => hm d (by simp [Op.operands]; exact ⟨_, by simpa using e⟩)) t t' ha]
    · cases h
  · obtain ⟨x, hx, h⟩ := o1_loc (ks := ks) (fun d e => hm d (by simp [Op.operands, e])) h; obtain ⟨d, hd, h⟩ := withT_some h; cases h; exact fun t t' s ha => by simp only [k_load, hx t t' ha]
  · obtain ⟨x, hx, h⟩ := o1_loc (ks := ks) (fun d e => hm d (by simp [Op.operands, e])) h; obtain ⟨y, hy, h⟩ := o1_loc (ks := ks) (fun d e => hm d (by simp [Op.operands, e])) h; obtain ⟨d, hd, h⟩ := withT_some h; cases h; exact fun t t' s ha => by simp only [k_store, hx t t' ha, hy t t' ha]
  · obtain ⟨x, hx, h⟩ := o1_loc (ks := ks) (fun d e => hm d (by simp [Op.operands, e])) h; cases h; exact fun t t' ha => by simp only [k_nil, hx t t' ha]
  · obtain ⟨x, hx, h⟩ := o1_loc (ks := ks) (fun d e => hm d (by simp [Op.operands, e])) h; obtain ⟨y, hy, h⟩ := o1_loc (ks := ks) (fun d e => hm d (by simp [Op.operands, e])) h; cases h; exact fun t t' ha => by simp only [k_bin, hx t t' ha, hy t t' ha]
  · obtain ⟨x, hx, h⟩ := o1_loc (ks := ks) (fun d e => hm d (by simp [Op.operands, e])) h; cases h; exact fun t t' ha => by simp only [k_un, hx t t' ha]
  · obtain ⟨x, hx, h⟩ := o1_loc (ks := ks) (fun d e => hm d (by simp [Op.operands, e])) h; obtain ⟨ds, hds, h⟩ := withT_some h; obtain ⟨d, hd, h⟩ := withT_some h
    unfold sg_cv at h
    split at h
    · cases h; exact fun t t' ha => by simp only [k_cv, hx t t' ha]
    · split at h
      · obtain ⟨de, hde, h⟩ := withT_some h
        split at h
        · cases h; exact fun t t' s ha => by simp only [k_b2s, hx t t' ha]
        · cases h
      · cases h; exact fun t t' ha => by simp only [k_str, hx t t' ha]
      · cases h
    · split at h
      · obtain ⟨de, hde, h⟩ := withT_some h
        split at h
        · obtain ⟨hb, h⟩ := bif_some h; cases h
          exact fun t t' ha => by simp only [k_s2b, hx t t' ha]
        · cases h
      · cases h
    · cases h
  · obtain ⟨x, hx, h⟩ := o1_loc (ks := ks) (fun d e => hm d (by simp [Op.operands, e])) h; obtain ⟨d, hd, h⟩ := withT_some h
    unfold sg_if at h
    split at h
    · cases h
    · cases h; exact fun t t' ha => by simp only [k_if, hx t t' ha]
  · obtain ⟨xs, hxs, h⟩ := withL_some h; obtain ⟨ys, hys, h⟩ := withL_some h
    split at h
    · cases h; exact fun t t' ha => by simp only [k_fn, oL_loc hxs (fun d e => hm d (by simp only [Op.operands, Array.mem_append]; exact .inl (by simpa using e))) t t' ha, oL_loc hys (fun d e => hm d (by simp only [Op.operands, Array.mem_append]; exact .inr (by simpa using e))) t t' ha]
    · cases h
  · split at h
    · cases h; exact fun t t' ha => rfl
    · cases h
  · obtain ⟨l, hl, h⟩ := o1_loc (ks := ks) (fun d e => hm d (by simp [Op.operands, e])) h; obtain ⟨c, hc, h⟩ := o1_loc (ks := ks) (fun d e => hm d (by simp [Op.operands, e])) h; obtain ⟨d, hd, h⟩ := withT_some h
    unfold sg_ms at h
    split at h
    · obtain ⟨z, hz, h⟩ := withZ_some h; obtain ⟨hs, h⟩ := withS_some h; obtain ⟨hb, h⟩ := bif_some h; cases h
      exact fun t t' ha => by simp only [k_ms, hl t t' ha, hc t t' ha]
    · cases h
  · obtain ⟨x, hx, h⟩ := o1_loc (ks := ks) (fun d e => hm d (by simp [Op.operands, e])) h; obtain ⟨lo, hlo, h⟩ := oM_loc (ks := ks) (fun d e => hm d (by simp [Op.operands, e])) h; obtain ⟨hi, hhi, h⟩ := oM_loc (ks := ks) (fun d e => hm d (by simp [Op.operands, e])) h; obtain ⟨mx, hmx, h⟩ := oM_loc (ks := ks) (fun d e => hm d (by simp [Op.operands, e])) h; obtain ⟨d, hd, h⟩ := withT_some h
    unfold sg_slice at h
    split at h
    · split at h
      · cases h
        exact fun t t' ha => by simp only [k_slStr, hx t t' ha, hlo t t' ha, hhi t t' ha]
      · cases h
    · obtain ⟨hs, h⟩ := withS_some h; cases h; exact fun t t' s ha => by simp only [k_slSl, hx t t' ha, hlo t t' ha, hhi t t' ha, hmx t t' ha]
    · obtain ⟨hs, h⟩ := withS_some h; cases h; exact fun t t' ha => by simp only [k_slArr, hx t t' ha, hlo t t' ha, hhi t t' ha, hmx t t' ha]
    · cases h
  · obtain ⟨x, hx, h⟩ := o1_loc (ks := ks) (fun d e => hm d (by simp [Op.operands, e])) h; obtain ⟨d, hd, h⟩ := withT_some h
    unfold sg_fa at h
    split at h
    · obtain ⟨fl, hf, h⟩ := withL_some h; obtain ⟨hs, h⟩ := withS_some h; cases h; exact fun t t' ha => by simp only [k_fa, hx t t' ha]
    · cases h
  · obtain ⟨x, hx, h⟩ := o1_loc (ks := ks) (fun d e => hm d (by simp [Op.operands, e])) h; obtain ⟨d, hd, h⟩ := withT_some h
    unfold sg_field at h
    split at h
    · obtain ⟨fl, hf, h⟩ := withL_some h; obtain ⟨df, hdf, h⟩ := withT_some h; cases h; exact fun t t' ha => by simp only [k_field, hx t t' ha]
    · cases h
  · obtain ⟨x, hx, h⟩ := o1_loc (ks := ks) (fun d e => hm d (by simp [Op.operands, e])) h; obtain ⟨i, hi, h⟩ := o1_loc (ks := ks) (fun d e => hm d (by simp [Op.operands, e])) h; obtain ⟨d, hd, h⟩ := withT_some h
    unfold sg_ia at h
    split at h
    · obtain ⟨hs, h⟩ := withS_some h; cases h; exact fun t t' ha => by simp only [k_ia, hx t t' ha, hi t t' ha]
    · obtain ⟨hs, h⟩ := withS_some h; cases h; exact fun t t' ha => by simp only [k_ia, hx t t' ha, hi t t' ha]
    · cases h
  · obtain ⟨x, hx, h⟩ := o1_loc (ks := ks) (fun d e => hm d (by simp [Op.operands, e])) h; obtain ⟨i, hi, h⟩ := o1_loc (ks := ks) (fun d e => hm d (by simp [Op.operands, e])) h; obtain ⟨d, hd, h⟩ := withT_some h
    unfold sg_ind at h
    split at h
    · cases h; exact fun t t' ha => by simp only [k_ind, hx t t' ha, hi t t' ha]
    · obtain ⟨de, hde, h⟩ := withT_some h; cases h; exact fun t t' ha => by simp only [k_inda, hx t t' ha, hi t t' ha]
    · cases h
  · obtain ⟨x, hx, h⟩ := o1_loc (ks := ks) (fun d e => hm d (by simp [Op.operands, e])) h; obtain ⟨k, hk, h⟩ := o1_loc (ks := ks) (fun d e => hm d (by simp [Op.operands, e])) h; obtain ⟨d, hd, h⟩ := withT_some h
    unfold sg_look at h
    split at h
    · obtain ⟨q, hq, h⟩ := withL_some h; obtain ⟨z, hz, h⟩ := withZ_some h; cases h; exact fun t t' s ha => by simp only [k_look, hx t t' ha, hk t t' ha]
    · cases h
  · obtain ⟨x, hx, h⟩ := o1_loc (ks := ks) (fun d e => hm d (by simp [Op.operands, e])) h; obtain ⟨k, hk, h⟩ := o1_loc (ks := ks) (fun d e => hm d (by simp [Op.operands, e])) h; obtain ⟨v, hv, h⟩ := o1_loc (ks := ks) (fun d e => hm d (by simp [Op.operands, e])) h; obtain ⟨d, hd, h⟩ := withT_some h
    unfold sg_upd at h
    split at h
    · obtain ⟨q, hq, h⟩ := withL_some h; cases h; exact fun t t' s ha => by simp only [k_upd, hx t t' ha, hk t t' ha, hv t t' ha]
    · cases h
  · obtain ⟨x, hx, h⟩ := o1_loc (ks := ks) (fun d e => hm d (by simp [Op.operands, e])) h; obtain ⟨k, hk, h⟩ := o1_loc (ks := ks) (fun d e => hm d (by simp [Op.operands, e])) h; obtain ⟨v, hv, h⟩ := o1_loc (ks := ks) (fun d e => hm d (by simp [Op.operands, e])) h; obtain ⟨d, hd, h⟩ := withT_some h
    unfold sg_upd at h
    split at h
    · obtain ⟨q, hq, h⟩ := withL_some h; cases h; exact fun t t' s ha => by simp only [k_upd, hx t t' ha, hk t t' ha, hv t t' ha]
    · cases h
  · obtain ⟨x, hx, h⟩ := o1_loc (ks := ks) (fun d e => hm d (by simp [Op.operands, e])) h; obtain ⟨d, hd, h⟩ := withT_some h
    unfold sg_range at h
    split at h
    · cases h; exact fun t t' s ha => by simp only [k_range, hx t t' ha]
    · cases h
  · obtain ⟨x, hx, h⟩ := o1_loc (ks := ks) (fun d e => hm d (by simp [Op.operands, e])) h
    obtain ⟨hb, h⟩ := bif_none h
    subst hb
    cases h; exact fun t t' s ha => by simp only [k_next, hx t t' ha]
  · obtain ⟨x, hx, h⟩ := o1_loc (ks := ks) (fun d e => hm d (by simp [Op.operands, e])) h; cases h; exact fun t t' s ha => by simp only [k_entry, hx t t' ha]
  · obtain ⟨x, hx, h⟩ := o1_loc (ks := ks) (fun d e => hm d (by simp [Op.operands, e])) h; cases h; exact fun t t' ha => by simp only [k_ext, hx t t' ha]
  · unfold sg_call at h
    obtain ⟨args, hargs, h⟩ := withL_some h
    split at h
    · exact loc_builtin (fun o ho => oL_locs hargs (fun d e => hm d (by simp only [Op.operands, Call.operands, Array.mem_append]; exact .inr (by simpa using e))) o ho) h
    · rename_i hf
      obtain ⟨f, hfo, h⟩ := o1_loc (ks := ks) (fun d e => hm d (by simp [Op.operands, Call.operands, hf, e])) h
      cases h
      exact ⟨hfo, fun t t' ha => oL_loc hargs (fun d e => hm d (by simp only [Op.operands, Call.operands, Array.mem_append]; exact .inr (by simpa using e))) t t' ha⟩
    · cases h
  · cases h
end Go.Ab
