/- THE ABSTRACT EVALUATOR: clear, ranges over maps; and every operation that is made ready. -/
import Derived.Test.YtpangpggplacoaaGreatAbSimA
import Derived.Maps.RangeRun
namespace Go.Ab
variable {P : Program}

theorem ef_clear_sl {o : Oper} {c : Call} {ty e : TypeId} {rs : List TypeId} {x : Opd} {z : AV} (ho : o.op = .call c) (hc : c.callee = .builtin .clear) (ha : OLs [x] c.args.toList) (hty : c.argTypes.toList = ty :: rs)
    (hu : P.underlying ty = some (.slice e)) (hz : zeroA P e = some z) : EfOk P o (k_clearL z.cells x) := by
  intro B m N t s a w u s' hB r ht hfr h
  obtain ⟨x', hargs, hx⟩ := one_arg ha ht
  have hty0 := tys_get hty
  have hget0 : (#[x'] : Array Value)[0]? = some x' := rfl
  unfold k_clearL clearL at h
  split at h
  · rename_i ex
    rw [ex] at hx; cases hx; cases h
    refine ⟨.value (.tuple #[]), w, m, ?_, .inl ⟨_, rfl, VR.undef m⟩, r, Stp.refl m s w⟩
    rw [run_call_builtin ho hc, hargs]
    simp only [builtin, Builtin.clear_, hty0, hget0, Sem.run_bind, run_under hu, Result.andThen_ok]
    rfl
  · rename_i ex
    rw [ex] at hx; cases hx; cases h
    refine ⟨.value (.tuple #[]), w, m, ?_, .inl ⟨_, rfl, VR.undef m⟩, r, Stp.refl m s w⟩
    rw [run_call_builtin ho hc, hargs]
    simp only [builtin, Builtin.clear_, hty0, hget0, Sem.run_bind, run_under hu, Result.andThen_ok]
    rfl
  · rename_i id off n cap ex
    rw [ex] at hx
    cases hx with
    | sl _ _ _ _ ad k q1 q2 q3 q4 =>
    split at h
    · rename_i cs ce op hst
      split at h
      · rename_i c2 hc2
        cases h
        obtain ⟨hlt, b, C, sz, arr, lo, hi, hcl⟩ := r.cells q1.ne hst
        obtain rfl := q1.eq hcl.live
        obtain ⟨z', hz1, hz2⟩ := run_zeroAll hz
        have hzc := (VR.of (m := m) hz2).cells
        have hv : VRs m (rep n z.cells) (Builtin.zeroCells z'.cells n).toList := by
          have := rep_vrs hzc n
          rw [hzc.size] at this
          exact this
        obtain ⟨w', g1, g2, g3⟩ := r.write hlt hst hcl hc2 hv
        refine ⟨.value (.tuple #[]), w', m, ?_, .inl ⟨_, rfl, VR.undef m⟩, g2, g3⟩
        rw [run_call_builtin ho hc, hargs]
        cases n with
        | zero =>
          have : (Builtin.zeroCells z'.cells 0).toList = [] := by simp [Builtin.zeroCells]
          rw [this] at g1
          cases g1
          simp only [builtin, Builtin.clear_, hty0, hget0, Sem.run_bind, run_under hu, Result.andThen_ok]
          rfl
        | succ n =>
          simp only [builtin, Builtin.clear_, hty0, hget0, Sem.run_bind, run_under hu, Result.andThen_ok, hz1, g1]
          rfl
      · cases h
    · cases h
  · cases h
theorem ef_range {o : Oper} {ty kt e : TypeId} {x : Operand} {x' : Opd} (ho : o.op = .range ty x) (hx : OR x' x) (hu : P.underlying ty = some (.map kt e)) : EfOk P o (k_range x') := by
  intro B m N t s a w u s' hB r ht hfr h
  have hx := hx m N t a ht
  unfold k_range rangeA at h
  split at h
  · rename_i ex
    rw [ex] at hx; cases h
    generalize hv : a.eval x = y at hx
    cases hx
    have hf0 : m s.nx = .un := hfr s.nx (Nat.le_refl _) (by show s.nx < s.nx + 1; omega)
    refine ⟨.value (.pointer (some ⟨w.heap.size, 0, none⟩)), w.alloc (.mapIter none 0 #[] 0), _, ?_, .inl ⟨_, rfl, ?_⟩, r.new hB hf0 rfl (.nilIter 0 #[] 0 : BR P m 0 0 _ _), Stp.new hf0 rfl rfl rfl rfl⟩
    · simp only [execOp, ho, hv, Instr.range, Sem.run_bind, run_under hu, Result.andThen_ok, Sem.run_pure, run_newObj]; rfl
    · refine .ptr _ _ _ ?_
      unfold AR Mp.bind; simp
  · rename_i id ex
    rw [ex] at hx
    generalize hv : a.eval x = y at hx
    cases hx with
    | mp _ b hb =>
    split at h
    · rename_i es clock hs
      cases h
      obtain ⟨hlt, C, sz, es', hl, hh, he⟩ := r.map hb hs
      have hf0 : m s.nx = .un := hfr s.nx (Nat.le_refl _) (by show s.nx < s.nx + 1; omega)
      have hbr : BR P m 0 0 (rangeB id clock es) (.mapIter (some b) clock #[] clock) := by
        unfold rangeB
        split
        · exact .iter id b clock [] #[] clock hb rfl
        · exact .iter id b clock [] #[] clock hb rfl
        · exact .iterN id b clock _ [] [] #[] clock hb List.nodup_nil rfl .nil
      refine ⟨.value (.pointer (some ⟨w.heap.size, 0, none⟩)), w.alloc (.mapIter (some b) clock #[] clock), _, ?_, .inl ⟨_, rfl, ?_⟩, r.new hB hf0 rfl hbr, Stp.new hf0 rfl rfl rfl rfl⟩
      · simp only [execOp, ho, hv, Instr.range, Sem.run_bind, run_under hu, Result.andThen_ok, run_getObj hh (by intro c e f h; cases h), Sem.run_pure, run_newObj]; rfl
      · refine .ptr _ _ _ ?_
        unfold AR Mp.bind; simp
    · cases h
  · cases h
theorem seen_any (seen' : Array Nat) (seen : List Nat) (h : seen'.toList = seen.reverse) (q : Nat) : seen'.contains q = seen.any (fun b => Nat.beq b q) := by
  rw [← Array.contains_toList, h, List.contains_reverse]
  clear h
  induction seen with
  | nil => rfl
  | cons p l ih =>
    rw [List.contains_cons, List.any_cons, ih, beq_nat, Bool.beq_comm]
theorem Hd.length {m : Mp} {es : List AE} {vs js : List Nat} (h : Hd m es vs js) : js.length = vs.length := by
  induction h with
  | nil => rfl
  | cons _ _ _ _ _ _ _ _ _ _ _ _ _ ih => simp [ih]
theorem Hd.lt {m : Mp} {es : List AE} {vs js : List Nat} (h : Hd m es vs js) : ∀ j ∈ js, j < es.length := by
  induction h with
  | nil => intro j hj; cases hj
  | cons i vs j js e x y he _ _ _ _ _ ih =>
    intro q hq
    rcases List.mem_cons.1 hq with rfl | hq
    · exact (List.getElem?_eq_some_iff.1 he).1
    · exact ih q hq
theorem entsOk_inj {since : Nat} : ∀ {es : List AE}, entsOk since es = true → ∀ (i j : Nat) (e f : AE), es[i]? = some e → es[j]? = some f → e.born = f.born → i = j := by
  intro es
  induction es with
  | nil => intro _ i j e f h; cases h
  | cons a l ih =>
    intro hok i j e f hi hj hb
    obtain ⟨_, _, _, h4, h5⟩ := entsOk_cons hok
    cases i with
    | zero =>
      cases hi
      cases j with
      | zero => rfl
      | succ j => exact absurd hb (h4 f (List.mem_of_getElem? (by simpa using hj)))
    | succ i =>
      cases j with
      | zero => cases hj; exact absurd hb.symm (h4 e (List.mem_of_getElem? (by simpa using hi)))
      | succ j => rw [ih h5 i j e f (by simpa using hi) (by simpa using hj) hb]
theorem ERs.nth {m : Mp} {es : List AE} {es' : List MapEntry} (h : ERs m es es') : es.length = es'.length ∧ ∀ (j : Nat) (e' : MapEntry), es'[j]? = some e' → ∃ e, es[j]? = some e ∧ ER m e e' := by
  induction h with
  | nil => exact ⟨rfl, fun j e' h => (by cases h)⟩
  | cons a a' l l' ha hl ih =>
    refine ⟨by simp [ih.1], fun j e' h => ?_⟩
    cases j with
    | zero => cases h; exact ⟨a, rfl, ha⟩
    | succ j => exact ih.2 j e' (by simpa using h)
theorem entsOk_born {since : Nat} : ∀ {es : List AE}, entsOk since es = true → ∀ (j : Nat) (e : AE), es[j]? = some e → e.born < since ∧ plainA e.k = true ∧ plainA e.v = true := by
  intro es
  induction es with
  | nil => intro _ j e h; cases h
  | cons a l ih =>
    intro hok j e hj
    obtain ⟨h1, h2, h3, _, h5⟩ := entsOk_cons hok
    cases j with
    | zero => cases hj; exact ⟨h3, h1, h2⟩
    | succ j => exact ih h5 j e (by simpa using hj)
/-- a list without repeats, of numbers below n, has at most n; if just n, all of them -/
theorem nodup_all : ∀ (n : Nat) (js : List Nat), js.Nodup → (∀ j ∈ js, j < n) → js.length ≤ n ∧ (js.length = n → ∀ i, i < n → i ∈ js) := by
  intro n
  induction n with
  | zero => intro js _ hl; cases js with
    | nil => exact ⟨Nat.le_refl _, fun _ i hi => absurd hi (Nat.not_lt_zero _)⟩
    | cons a l => exact absurd (hl a (by simp)) (Nat.not_lt_zero _)
  | succ n ih =>
    intro js hn hl
    have hn' : (js.erase n).Nodup := hn.erase n
    have hl' : ∀ j ∈ js.erase n, j < n := fun j hj => by
      have h1 := hl j (List.mem_of_mem_erase hj)
      have h2 : j ≠ n := fun e => by subst e; exact (hn.not_mem_erase) hj
      omega
    obtain ⟨g1, g2⟩ := ih _ hn' hl'
    by_cases hm : n ∈ js
    · rw [List.length_erase_of_mem hm] at g1 g2
      have : 0 < js.length := List.length_pos_of_mem hm
      refine ⟨by omega, fun h i hi => ?_⟩
      by_cases e : i = n
      · rw [e]; exact hm
      · exact List.mem_of_mem_erase (g2 (by omega) i (by omega))
    · rw [List.erase_of_not_mem hm] at g1 g2
      exact ⟨by omega, fun h => by omega⟩
/-- what is left, and what has been handed out -/
theorem left_of {m : Mp} {since : Nat} {es : List AE} {es' : Array MapEntry} {vs js : List Nat} {seen' : Array Nat} (he : ERs m es es'.toList) (hok : entsOk since es = true) (hd : Hd m es vs js)
    (hse : seen'.toList = js.reverse.map (bornAt es)) : ∀ (j : Nat) (e' : MapEntry), es'.toList[j]? = some e' → (seen'.contains e'.born = true ↔ j ∈ js) := by
  intro j e' hj
  obtain ⟨e, h1, h2⟩ := he.nth.2 j e' hj
  rw [← Array.contains_toList, hse, List.contains_iff_mem, List.mem_map]
  constructor
  · rintro ⟨i, hi, hb⟩
    have hi' : i ∈ js := by simpa using hi
    have hlt := hd.lt i hi'
    obtain ⟨f, hf⟩ : ∃ f, es[i]? = some f := ⟨es[i], List.getElem?_eq_getElem hlt⟩
    have : i = j := entsOk_inj hok i j f e hf h1 (by simp only [bornAt, hf] at hb; rw [hb, h2.born])
    exact this ▸ hi'
  · intro hj'
    exact ⟨j, by simpa using hj', by simp only [bornAt, h1]; exact h2.born⟩
/-- another text of one state -/
theorem R.alike {B : Nat} {m : Mp} {s s' : St} {w : World} (r : R P B m s w) (hn : s'.nx = s.nx) (ha : ∀ i, s'.at i = s.at i) : R P B m s' w :=
  ⟨fun id b C sz hi hm => by rw [ha]; exact r.blk id b C sz (by omega) hm, fun id hi hm => by rw [ha]; exact r.dead id (by omega) hm, fun id hi => by rw [ha]; exact r.top id (by omega), r.base, r.inj⟩
theorem Stp.alike {m m' : Mp} {s s1 s' : St} {w w' : World} (h : Stp m s w m' s1 w') (hn : s'.nx = s1.nx) (ha : ∀ i, s'.at i = s1.at i) : Stp m s w m' s' w' :=
  ⟨h.ext, fun id hi hu => by rw [ha]; exact h.low id hi hu, fun id hi => h.high id (by omega), fun id hi hd => by rw [ha]; exact h.dfr id hi hd, by rw [hn]; exact h.nx, h.frame, h.size, fun id b C sz hi hm => h.fresh id b C sz (by omega) hm, h.os, h.tape, h.output⟩
theorem ef_next {o : Oper} {x : Operand} {x' : Opd} (ho : o.op = .next x false) (hx : OR x' x) : EfOk P o (k_next x') := by
  intro B m N t s a w u s' hB r ht hfr h
  have hx := hx m N t a ht
  unfold k_next nextA at h
  split at h
  · rename_i id ex
    rw [ex] at hx
    generalize hv : a.eval x = y at hx
    cases hx with
    | ptr _ _ ad hr =>
    split at h
    · rename_i hs
      cases h
      obtain ⟨b, C, sz, ob, hlt, hl, hh, hbr⟩ := r.live hr.ne hs (by intro h; cases h)
      obtain rfl := hr.eq hl
      cases hbr
      refine ⟨.value (.tuple #[.bool false]), w, m, ?_, .inl ⟨_, rfl, .tup _ _ (.cons _ _ _ _ (.bool _) .nil)⟩, r, Stp.refl m s w⟩
      simp only [execOp, ho, hv, Instr.next, Sem.run_bind, run_getObj hh (by intro c e f h; cases h), Result.andThen_ok]; rfl
    · rename_i mid since seen stepped hs
      split at h
      · rename_i es clock hms
        obtain ⟨b, C, sz, ob, hlt, hl, hh, hbr⟩ := r.live hr.ne hs (by intro h; cases h)
        obtain rfl := hr.eq hl
        cases hbr with
        | iter _ mb _ _ seen' _ hmr hse =>
        obtain ⟨hlt2, C2, sz2, es', hl2, hh2, he⟩ := r.map hmr hms
        have hgo := run_getObj (P := P) hh (by intro c e f h; cases h)
        have hgm := run_getObj (P := P) hh2 (by intro c e f h; cases h)
        have hempty : seen'.isEmpty = seen.isEmpty := by
          have : seen'.toList.isEmpty = seen'.isEmpty := by simp
          rw [← this, hse]; simp
        have hseen := fun q => seen_any seen' seen hse q
        unfold nextM at h
        split at h
        · cases h
          have he0 : es' = #[] := by
            generalize hq : es'.toList = l at he
            cases he
            exact Array.toList_inj.1 hq
          subst he0
          refine ⟨.value (.tuple #[.bool false]), w, m, ?_, .inl ⟨_, rfl, .tup _ _ (.cons _ _ _ _ (.bool _) .nil)⟩, r, Stp.refl m s w⟩
          simp [execOp, ho, hv, Instr.next, hgo, hgm, Question.forced]
        · rename_i e
          obtain ⟨e0, he0, hee⟩ : ∃ e0, es' = #[e0] ∧ ER m e e0 := by
            generalize hq : es'.toList = l at he
            cases he with
            | cons _ e0 _ _ h1 h2 => cases h2; exact ⟨e0, Array.toList_inj.1 hq, h1⟩
          subst he0
          rw [lany_eq] at h
          have hs1 := hseen e0.born
          rw [← hee.born] at hs1
          cases hc : (seen.any fun b => Nat.beq b e.born) with
          | true =>
            rw [hc] at h
            simp only [cond_true, blt_nat] at h
            by_cases hlt3 : e.born < stepped
            · rw [decide_eq_true hlt3] at h; cases h
              refine ⟨.value (.tuple #[.bool false]), w, m, ?_, .inl ⟨_, rfl, .tup _ _ (.cons _ _ _ _ (.bool _) .nil)⟩, r, Stp.refl m s w⟩
              rw [hc] at hs1
              have hb0 : ¬ stepped ≤ e0.born := by rw [← hee.born]; omega
              have hmem : e0.born ∈ seen' := by rw [← hee.born]; simpa using hs1
              simp [execOp, ho, hv, Instr.next, hgo, hgm, Question.forced, hb0, hmem]
            · rw [decide_eq_false hlt3] at h; cases h
          | false =>
            rw [hc] at h
            simp only [cond_false, blt_nat] at h
            by_cases hq : e.born < since ∧ seen.isEmpty = true
            · obtain ⟨hq1, hq2⟩ := hq
              rw [decide_eq_true hq1, hq2] at h; cases h
              obtain ⟨p1, p2⟩ := r.putObj hlt hl hs (by intro h; cases h) hh (x := .iter mid since (e.born :: seen) clock) (o := .mapIter (some mb) since (seen'.push e0.born) clock)
                (.iter _ _ _ _ _ _ hmr (by rw [Array.toList_push, hse, List.reverse_cons, hee.born]))
              refine ⟨.value (.tuple #[.bool true, e0.key, e0.val]), _, m, ?_, .inl ⟨_, rfl, .tup _ _ (.cons _ _ _ _ (.bool _) (.cons _ _ _ _ hee.k (.cons _ _ _ _ hee.v .nil)))⟩, p1, p2⟩
              have hb1 : e0.born < since := by rw [← hee.born]; exact hq1
              have hb2 : ¬ since ≤ e0.born := by omega
              have hse0 : seen' = #[] := by
                have : seen = [] := by simpa using hq2
                rw [this] at hse
                exact Array.toList_inj.1 hse
              have hset := run_setObj (P := P) (o' := .mapIter (some mb) since (seen'.push e0.born) clock) hh (by intro c e f h; cases h)
              subst hse0
              simp [execOp, ho, hv, Instr.next, hgo, hgm, Question.forced, hb1, hb2] at hset ⊢
              rw [hset]
              rfl
            · exfalso
              have : (decide (e.born < since) && seen.isEmpty) = false := by
                rw [Bool.eq_false_iff]; intro hh2
                simp only [Bool.and_eq_true, decide_eq_true_eq] at hh2
                exact hq hh2
              rw [this] at h; cases h
        · cases h
      · cases h
    · rename_i mid since es0 vs stepped hs
      split at h
      · rename_i es clock hms
        obtain ⟨b, C, sz, ob, hlt, hl, hh, hbr⟩ := r.live hr.ne hs (by intro h; cases h)
        obtain rfl := hr.eq hl
        cases hbr with
        | iterN _ mb _ _ _ js seen' _ hmr hj hse hd =>
        obtain ⟨hlt2, C2, sz2, es', hl2, hh2, he⟩ := r.map hmr hms
        unfold nextN at h
        cases hcond : (entsOk since es && entsEq es es0 && Nat.ble since stepped) with
        | false => rw [hcond] at h; cases h
        | true =>
          rw [hcond] at h
          simp only [cond_true, llen_eq] at h
          simp only [Bool.and_eq_true, ble_nat, decide_eq_true_eq] at hcond
          obtain ⟨⟨hok, heq⟩, hsc⟩ := hcond
          obtain rfl := entsEq_eq heq
          have hleft := left_of he hok hd hse
          obtain ⟨hlen, hnth⟩ := he.nth
          have hold : ∀ x ∈ es'.toList, x.born < since := fun x hx => by
            obtain ⟨j, hj⟩ := List.mem_iff_getElem?.1 hx
            obtain ⟨e, h1, h2⟩ := hnth j x hj
            rw [← h2.born]; exact (entsOk_born hok j e h1).1
          have hlm : ∀ x, x ∈ (leftOf es' seen').toList ↔ ∃ j, es'.toList[j]? = some x ∧ j ∉ js := fun x => by
            unfold leftOf
            rw [Array.toList_filter, List.mem_filter]
            constructor
            · rintro ⟨h1, h2⟩
              obtain ⟨j, hj⟩ := List.mem_iff_getElem?.1 h1
              exact ⟨j, hj, fun hjj => by rw [(hleft j x hj).2 hjj] at h2; cases h2⟩
            · rintro ⟨j, h1, h2⟩
              refine ⟨List.mem_iff_getElem?.2 ⟨j, h1⟩, ?_⟩
              cases hc : seen'.contains x.born with
              | true => exact absurd ((hleft j x h1).1 hc) h2
              | false => rfl
          obtain ⟨hna, hnb⟩ := nodup_all es.length js hj hd.lt
          have hrun := run_next_at (P := P) w o.type b mb since stepped seen' es' clock hh hh2 hold hsc
          rw [beq_nat] at h
          by_cases hfin : vs.length = es.length
          · rw [hfin, beq_self_eq_true] at h; cases h
            rcases hrun with ⟨_, hrun⟩ | ⟨x, hx, _⟩
            · refine ⟨.value (.tuple #[.bool false]), w, m, ?_, .inl ⟨_, rfl, .tup _ _ (.cons _ _ _ _ (.bool _) .nil)⟩, r, Stp.refl m s w⟩
              simp only [execOp, ho, hv, Sem.run_bind, hrun, Result.andThen_ok]; rfl
            · obtain ⟨j, h1, h2⟩ := (hlm x).1 hx
              have hjl : j < es.length := by rw [hlen]; exact (List.getElem?_eq_some_iff.1 h1).1
              exact absurd (hnb (by rw [hd.length, hfin]) j hjl) h2
          · rw [beq_eq_false_iff_ne.2 hfin] at h
            simp only [cond_false, Option.some.injEq, Prod.mk.injEq] at h
            obtain ⟨rfl, rfl⟩ := h
            rcases hrun with ⟨h0, _⟩ | ⟨x, hx, w1, hw1, hrun⟩
            · exfalso
              have hex : ∃ j, j < es.length ∧ j ∉ js := by
                refine Classical.byContradiction fun hn => ?_
                have hall : ∀ j, j < es.length → j ∈ js := fun j hjl => Classical.byContradiction fun hc => hn ⟨j, hjl, hc⟩
                have : es.length ≤ js.length := by
                  have := (List.nodup_range (n := es.length)).length_le_of_subset (l₂ := js) (fun j hjr => hall j (List.mem_range.1 hjr))
                  simpa using this
                have := hd.length
                omega
              obtain ⟨j, hjl, hjn⟩ := hex
              have hjl' : j < es'.toList.length := by rw [← hlen]; exact hjl
              have := (hlm es'.toList[j]).2 ⟨j, List.getElem?_eq_getElem hjl', hjn⟩
              have h0' : (leftOf es' seen').toList = [] := by
                have : leftOf es' seen' = #[] := Array.eq_empty_of_size_eq_zero h0
                rw [this]
              rw [h0'] at this; cases this
            · obtain ⟨j, h1, h2⟩ := (hlm x).1 hx
              obtain ⟨e, g1, g2⟩ := hnth j x h1
              obtain ⟨_, pk, pv⟩ := entsOk_born hok j e g1
              have hw1h : w1.heap = w.heap := by rcases hw1 with rfl | rfl <;> rfl
              have hw1o : w1.os = w.os ∧ w1.tape = w.tape ∧ w1.output = w.output := by rcases hw1 with rfl | rfl <;> exact ⟨rfl, rfl, rfl⟩
              have hf0 : m s.nx = .un := hfr s.nx (Nat.le_refl _) (by simp; omega)
              have hf1 : m (s.nx + 1) = .un := hfr (s.nx + 1) (by omega) (by simp; try omega)
              have r1 : R P B m s w1 := r.same hw1h
              have st1 : Stp m s w m s w1 := Stp.same hw1h hw1o.1 hw1o.2.1 hw1o.2.2
              have r2 := r1.name hf0 x.key
              have st2 := Stp.name (w := w1) hf0 x.key
              have hf1' : (m.bind s.nx (.val x.key)) (s.new .dfr).nx = .un := by unfold Mp.bind; rw [if_neg (by simp)]; exact hf1
              have r3 := r2.name hf1' x.val
              have st3 := Stp.name (w := w1) hf1' x.val
              have hm0 : ((m.bind s.nx (.val x.key)).bind (s.new .dfr).nx (.val x.val)) s.nx = .val x.key := by
                unfold Mp.bind; rw [if_neg (by simp), if_pos rfl]
              have hm1 : ((m.bind s.nx (.val x.key)).bind (s.new .dfr).nx (.val x.val)) (s.nx + 1) = .val x.val := by
                unfold Mp.bind; rw [if_pos (by simp)]
              have hlt3 : id < ((s.new .dfr).new .dfr).nx := by simp; omega
              have hext := st2.ext.trans st3.ext
              have hl3 : ((m.bind s.nx (.val x.key)).bind (s.new .dfr).nx (.val x.val)) id = .live b C sz := by
                unfold Mp.bind; rw [if_neg (by simp; omega), if_neg (by omega)]; exact hl
              have hs3 : ((s.new .dfr).new .dfr).at id = some (.iterN mid since es vs stepped) := by
                rw [St.at_new, if_neg (by simp; omega), St.at_new, if_neg (by omega)]; exact hs
              obtain ⟨p1, p2⟩ := r3.putObj hlt3 hl3 hs3 (by intro h; cases h) (by rw [hw1h]; exact hh) (x := .iterN mid since es (s.nx :: vs) clock) (o := .mapIter (some mb) since (seen'.push x.born) clock)
                (.iterN mid mb since es (s.nx :: vs) (j :: js) _ clock (hmr.mono hext) (List.nodup_cons.2 ⟨h2, hj⟩)
                  (by rw [Array.toList_push, hse, List.reverse_cons, List.map_append]; simp [bornAt, g1, g2.born])
                  (.cons _ _ _ _ e _ _ g1 (g2.k.mono hext) (g2.v.mono hext) hm0 hm1 (hd.mono hext)))
              have hstate : (((s.put id (.iterN mid since es (s.nx :: vs) clock)).new .dfr).new .dfr).nx = ((((s.new .dfr).new .dfr)).put id (.iterN mid since es (s.nx :: vs) clock)).nx := rfl
              have hat : ∀ i, (((s.put id (.iterN mid since es (s.nx :: vs) clock)).new .dfr).new .dfr).at i = ((((s.new .dfr).new .dfr)).put id (.iterN mid since es (s.nx :: vs) clock)).at i := fun i => by
                simp only [St.at_new, St.at_put, St.nx_new, St.nx_put]
                by_cases e1 : i = s.nx + 1
                · rw [if_pos e1, if_neg (by omega), if_pos e1]
                · rw [if_neg e1]
                  by_cases e2 : i = s.nx
                  · rw [if_pos e2, if_neg (by omega), if_neg e1, if_pos e2]
                  · rw [if_neg e2, if_neg e1, if_neg e2]
              refine ⟨.value (.tuple #[.bool true, x.key, x.val]), _, _, ?_, .inl ⟨_, rfl, .tup _ _ (.cons _ _ _ _ (.bool _) (.cons _ _ _ _ (.var _ _ _ hm0 (plain_x pk g2.k) (hext.ne hr.ne)) (.cons _ _ _ _ (.var _ _ _ hm1 (plain_x pv g2.v) (hext.ne hr.ne)) .nil)))⟩, p1.alike hstate hat, ((st1.trans (st2.trans (st3.trans p2))).alike hstate hat)⟩
              simp only [execOp, ho, hv, Sem.run_bind, hrun, Result.andThen_ok]; rfl
      · cases h
    · cases h
  · cases h
end Go.Ab
