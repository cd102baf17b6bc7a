/- THE ABSTRACT EVALUATOR: copy, clear, maps that are written, ranges over maps, on both sides. -/
import Derived.Test.YtpangpggplacoaaGreatAbSim9
namespace Go.Ab
variable {P : Program}

theorem ef_copy {o : Oper} {c : Call} {ty e : TypeId} {rs : List TypeId} {x y : Opd} (ho : o.op = .call c) (hc : c.callee = .builtin .copy) (ha : OLs [x, y] c.args.toList) (hty : c.argTypes.toList = ty :: rs)
    (hu : P.underlying ty = some (.slice e)) (hs : P.cellsOf e ≠ 0) : EfOk P o (k_copy (P.cellsOf e) x y) := by
  intro B m N t s a w v s' hB r ht hfr h
  obtain ⟨x', y', hargs, hx, hy⟩ := two_args ha ht
  have hty0 := tys_get hty
  unfold k_copy copyA at h
  split at h
  · rename_i n hn
    unfold copyN at hn
    split at hn
    · rename_i nd ny hnd hny
      rw [ble_nat] at hn
      have hn' : n = Nat.min ny nd := by
        by_cases hle : ny ≤ nd
        · rw [decide_eq_true hle] at hn; cases hn; simp only [cond_true]; exact (Nat.min_eq_left hle).symm
        · rw [decide_eq_false hle] at hn; cases hn; simp only [cond_false]; exact (Nat.min_eq_right (by omega)).symm
      have hle : n ≤ ny := by rw [hn']; exact Nat.min_le_left _ _
      split at h
      · rename_i new hnew
        obtain ⟨new', v1, v2, v3⟩ := elems_run r hy hny hle hnew
        have hlen := alen_run (P := P) hy hny w
        have hget0 : (#[x', y'] : Array Value)[0]? = some x' := rfl
        have hget1 : (#[x', y'] : Array Value)[1]? = some y' := rfl
        have hrun : ∀ (base : Option Addr) (k : Nat) (w' : World), x' = .slice base nd k → ((match base with | some a => storeCells a new'.toList | none => pure ()) : Sem Unit).run P w = .ok () w' →
            (execOp a.eval o).run P w = .ok (.value (.int .i64 n)) w' := by
          intro base k w' hx' hst
          subst hx'
          rw [run_call_builtin ho hc, hargs]
          simp only [builtin, Builtin.copy_, hty0, hget0, hget1, Sem.run_bind, run_under hu, Result.andThen_ok, hlen, run_size (info_of_cells hs)]
          have hn2 : Nat.min ny nd = n := hn'.symm
          rw [hn2, v2 w rfl]
          cases base with
          | none => cases hst; rfl
          | some ad => simp only at hst; simp only [Sem.run_bind, hst, Result.andThen_ok]; rfl
        unfold copyTo at h
        split at h
        · rename_i ex
          rw [ex] at hx hnd; cases hx; cases h
          cases hnd
          have hn0 : n = 0 := by rw [hn']; exact Nat.min_zero _
          subst hn0
          exact ⟨_, w, m, hrun none 0 w rfl rfl, .inl ⟨_, rfl, .int _ _⟩, r, Stp.refl m s w⟩
        · rename_i ex
          rw [ex] at hx hnd
          cases h
          cases hnd
          have hn0 : n = 0 := by rw [hn']; exact Nat.min_zero _
          subst hn0
          have : new' = #[] := by
            have := v1.size
            rw [v3, Nat.zero_mul] at this
            exact Array.eq_empty_of_size_eq_zero this.symm
          subst this
          cases hx with
          | sle ad k => exact ⟨_, w, m, hrun (some ad) k w rfl rfl, .inl ⟨_, rfl, .int _ _⟩, r, Stp.refl m s w⟩
        · rename_i id off len cap ex
          rw [ex] at hx hnd
          cases hnd
          cases hx with
          | sl _ _ _ _ ad k q1 q2 q3 q4 =>
          split at h
          · rename_i cs ce op hst
            split at h
            · rename_i c2 hc2
              cases h
              obtain ⟨hlt, b, C, sz, arr, lo, hi, hcl⟩ := r.cells q1.ne hst
              obtain rfl := q1.eq hcl.live
              obtain ⟨w', g1, g2, g3⟩ := r.write hlt hst hcl hc2 v1
              exact ⟨_, w', m, hrun (some ⟨b, off, none⟩) k w' rfl g1, .inl ⟨_, rfl, .int _ _⟩, g2, g3⟩
            · cases h
          · cases h
        · cases h
      · cases h
    · cases hn
  · cases h

/-! ### maps -/
theorem ERs.length {m : Mp} {l : List AE} {l' : List MapEntry} (h : ERs m l l') : l.length = l'.length := by
  induction h with
  | nil => rfl
  | cons _ _ _ _ _ _ ih => simp [ih]
theorem ERs.app {m : Mp} {l l2 : List AE} {x x2 : List MapEntry} (h : ERs m l x) (h2 : ERs m l2 x2) : ERs m (l ++ l2) (x ++ x2) := by
  induction h with
  | nil => exact h2
  | cons _ _ _ _ he _ ih => exact .cons _ _ _ _ he ih
theorem keyT_desc {kt : TypeId} {q : KQ} (hq : keyT P kt = some q) : ∃ d, P.underlying kt = some d := by
  unfold keyT at hq
  cases hd : P.underlying kt with
  | none => rw [hd] at hq; cases hq
  | some d => exact ⟨d, rfl⟩
theorem sameBits_key {q : KQ} {x y : AV} {m : Mp} {x' y' : Value} (h : keyEq q x y = some true) (hx : VR m x x') (hy : VR m y y') : ∀ n, Instr.sameBits n y' x' = true := by
  intro n
  unfold keyEq at h
  split at h
  · rename_i k i k' j
    cases hx; cases hy
    cases hk : kbeq k k' with
    | false => rw [hk] at h; cases h
    | true =>
      rw [hk] at h; obtain rfl := kbeq_true hk
      simp only [cond_true, Option.some.injEq, ibeq_eq, decide_eq_true_eq] at h
      subst h
      cases n <;> simp [Instr.sameBits]
  · cases hx; cases hy
    simp only [Option.some.injEq, beq_iff_eq] at h
    subst h
    cases n <;> simp [Instr.sameBits]
  · cases hx; cases hy
    rename_i s1 e1 s2 e2
    subst e1; subst e2
    simp only [Option.some.injEq] at h
    rw [lbeq_eq, bytes_beq] at h
    have h2 : (s2 == s1) = true := by
      rw [bytearray_beq]
      have := eq_of_beq h
      rw [this]; simp
    cases n <;> simp only [Instr.sameBits, h2]
  · cases h
/-- an entry found, written over; or a new one behind -/
theorem updL_run {q : KQ} {k v : AV} {k' v' : Value} {m : Mp} (hk : VR m k k') (hv : VR m v v') {kt : TypeId} {d : TypeDesc} (hd : P.underlying kt = some d) (hq : keyT P kt = some q) (clock : Nat) : ∀ {es : List AE} {es' : List MapEntry} {r : List AE} {c : Nat} (i : Nat),
    ERs m es es' → updL q k v clock es = some (r, c) →
    (∃ (j : Nat) (u : Value) (e0 : MapEntry), Instr.findNow d k' es' i = some (some (i + j, u)) ∧ es'[j]? = some e0 ∧ Instr.sameBits 10000 e0.key k' = true ∧ c = clock ∧ ERs m r (es'.set j { e0 with key := k', val := v' })) ∨
    (Instr.findNow d k' es' i = some none ∧ c = clock + 1 ∧ ERs m r (es' ++ [{ key := k', val := v', born := clock }])) := by
  intro es
  induction es with
  | nil =>
    intro es' r c i he h
    cases he; cases h
    exact .inr ⟨rfl, rfl, .cons _ _ _ _ ⟨hk, hv, rfl⟩ .nil⟩
  | cons e es ih =>
    intro es' r c i he h
    cases he with
    | cons _ e' _ es' he hl =>
      change upd1 k v clock e es (updL q k v clock es) (keyEq q k e.k) = some (r, c) at h
      cases hb : keyEq q k e.k with
      | none => rw [hb] at h; cases h
      | some b =>
        rw [hb] at h
        have hs := keyEq_now hb hk he.k hd hq
        cases b with
        | true =>
          cases h
          refine .inl ⟨0, e'.val, e', by simp [Instr.findNow, hs], rfl, sameBits_key hb hk he.k _, rfl, ?_⟩
          exact .cons _ _ _ _ ⟨hk, hv, he.born⟩ hl
        | false =>
          change updR e (updL q k v clock es) = some (r, c) at h
          cases hu : updL q k v clock es with
          | none => rw [hu] at h; cases h
          | some p =>
            obtain ⟨r2, c2⟩ := p
            rw [hu] at h; cases h
            rcases ih (i + 1) hl hu with ⟨j, u, e0, h1, h2, h3, h4, h5⟩ | ⟨h1, h2, h3⟩
            · refine .inl ⟨j + 1, u, e0, ?_, by simpa using h2, h3, h4, ?_⟩
              · simp only [Instr.findNow, hs]
                rw [h1]; congr 3; omega
              · exact .cons _ _ _ _ he h5
            · exact .inr ⟨by simp [Instr.findNow, hs, h1], h2, .cons _ _ _ _ he h3⟩
theorem delL_run {q : KQ} {k : AV} {k' : Value} {m : Mp} (hk : VR m k k') {kt : TypeId} {d : TypeDesc} (hd : P.underlying kt = some d) (hq : keyT P kt = some q) : ∀ {es : List AE} {es' : List MapEntry} {r : List AE} (i : Nat),
    ERs m es es' → delL q k es = some r →
    (∃ (j : Nat) (u : Value), Instr.findNow d k' es' i = some (some (i + j, u)) ∧ ERs m r (es'.eraseIdx j) ∧ j < es'.length) ∨ (Instr.findNow d k' es' i = some none ∧ ERs m r es') := by
  intro es
  induction es with
  | nil => intro es' r i he h; cases he; cases h; exact .inr ⟨rfl, .nil⟩
  | cons e es ih =>
    intro es' r i he h
    cases he with
    | cons _ e' _ es' he hl =>
      change del1 e es (delL q k es) (keyEq q k e.k) = some r at h
      cases hb : keyEq q k e.k with
      | none => rw [hb] at h; cases h
      | some b =>
        rw [hb] at h
        have hs := keyEq_now hb hk he.k hd hq
        cases b with
        | true => cases h; exact .inl ⟨0, e'.val, by simp [Instr.findNow, hs], hl, by simp⟩
        | false =>
          obtain ⟨r2, hr2, rfl⟩ := consO_some (show consO e (delL q k es) = some r from h)
          rcases ih (i + 1) hl hr2 with ⟨j, u, h1, h2, h3⟩ | ⟨h1, h2⟩
          · refine .inl ⟨j + 1, u, ?_, .cons _ _ _ _ he h2, by simpa using h3⟩
            simp only [Instr.findNow, hs]
            rw [h1]; congr 3; omega
          · exact .inr ⟨by simp [Instr.findNow, hs, h1], .cons _ _ _ _ he h2⟩
/-- a map, where a value leads -/
theorem R.map {B : Nat} {m : Mp} {s : St} {w : World} (r : R P B m s w) {id b : Nat} (hr : MR m id b) {es : List AE} {clock : Nat} (hs : s.at id = some (.map es clock)) :
    id < s.nx ∧ ∃ C sz es', m id = .live b C sz ∧ w.heap[b]? = some (.map es' clock) ∧ ERs m es es'.toList := by
  obtain ⟨b', C, sz, ob, hlt, hl, hh, hbr⟩ := r.live hr.ne hs (by intro h; cases h)
  unfold MR at hr; rw [hl] at hr; simp only at hr; subst hr
  cases hbr with
  | map _ es' _ he => exact ⟨hlt, C, sz, es', hl, hh, he⟩
theorem run_setObj {w : World} {b : Nat} {o o' : Obj} (h : w.heap[b]? = some o) (hc : ∀ c e f, o ≠ .cells c e f) : (setObj b o').run P w = .ok () { w with heap := w.heap.setIfInBounds b o' } := by
  unfold setObj
  rw [Sem.run, h]
  cases o <;> first | rfl | exact absurd rfl (hc _ _ _)
theorem run_getObj {w : World} {b : Nat} {o : Obj} (h : w.heap[b]? = some o) (hc : ∀ c e f, o ≠ .cells c e f) : (getObj b).run P w = .ok o w := by
  unfold getObj
  rw [Sem.run, h]
  cases o <;> first | rfl | exact absurd rfl (hc _ _ _)
/-- a block as a whole, put -/
theorem R.putObj {B : Nat} {m : Mp} {s : St} {w : World} (r : R P B m s w) {id b C sz : Nat} (hlt : id < s.nx) (hl : m id = .live b C sz) {x0 : ABlk} (hs : s.at id = some x0) (hx0 : x0 ≠ .dfr) {o0 o : Obj} (hh : w.heap[b]? = some o0) {x : ABlk} (hx : BR P m C sz x o) :
    R P B m (s.put id x) { w with heap := w.heap.setIfInBounds b o } ∧ Stp m s w m (s.put id x) { w with heap := w.heap.setIfInBounds b o } := by
  have hb : b < w.heap.size := (r.base id b C sz hl).2
  have h1 : ({ w with heap := w.heap.setIfInBounds b o } : World).heap[b]? = some o := by simp [Array.getElem?_setIfInBounds_self_of_lt hb]
  have h2 : ∀ c, c ≠ b → ({ w with heap := w.heap.setIfInBounds b o } : World).heap[c]? = w.heap[c]? := fun c hc => by simp [Array.getElem?_setIfInBounds_ne (Ne.symm hc)]
  have h3 : ({ w with heap := w.heap.setIfInBounds b o } : World).heap.size = w.heap.size := by simp
  exact ⟨r.put hlt hl h1 h3 h2 hx, Stp.put hlt hl (by rw [hs]; intro h; cases h; exact hx0 rfl) h3 h2 rfl rfl rfl⟩
theorem run_mapUpdate {B : Nat} {m : Mp} {s s' : St} {w : World} (r : R P B m s w) {x k v : AV} {x' k' v' : Value} (hx : VR m x x') (hk : VR m k k') (hv : VR m v v') {ty kt e : TypeId} {q : KQ} (hu : P.underlying ty = some (.map kt e)) (hq : keyT P kt = some q) {u : AV}
    (h : updA q s x k v = some (u, s')) : ∃ w', (Instr.mapUpdate ty x' k' v').run P w = .ok () w' ∧ u = undefA ∧ R P B m s' w' ∧ Stp m s w m s' w' := by
  unfold updA at h
  split at h
  · rename_i id
    cases hx with
    | mp _ b hb =>
    split at h
    · rename_i es clock hs
      split at h
      · rename_i es2 c2 hu2
        cases h
        obtain ⟨hlt, C, sz, es', hl, hh, he⟩ := r.map hb hs
        obtain ⟨d, hd⟩ := keyT_desc hq
        have hfk : ∀ y, Instr.findNow d k' es'.toList 0 = some y → (Instr.findKey kt k' es'.toList).run P w = .ok y w := fun y hy => by
          simp [Instr.findKey, run_under hd, hy]
        rcases updL_run hk hv hd hq clock 0 he hu2 with ⟨j, u, e0, h1, h2, h3, h4, h5⟩ | ⟨h1, h2, h3⟩
        · subst h4
          have hj : es'[j]? = some e0 := by rw [← Array.getElem?_toList]; exact h2
          obtain ⟨p1, p2⟩ := r.putObj hlt hl hs (by intro h; cases h) hh (x := .map es2 c2) (o := .map (es'.modify j fun e => { e with key := k', val := v' }) c2) (.map _ _ _ (by
            have : (es'.modify j fun e => { e with key := k', val := v' }).toList = es'.toList.set j { e0 with key := k', val := v' } := by
              apply List.ext_getElem?
              intro i
              rw [Array.getElem?_toList, Array.getElem?_modify, List.getElem?_set]
              by_cases hij : j = i
              · subst hij
                rw [if_pos rfl, if_pos rfl, hj]
                have : j < es'.toList.length := (List.getElem?_eq_some_iff.1 h2).1
                simp [this]
                simpa using this
              · rw [if_neg hij, if_neg hij, Array.getElem?_toList]
            rw [this]; exact h5))
          refine ⟨_, ?_, rfl, p1, p2⟩
          have hks : (Instr.keyThatStays e0.key k').run P w = .ok k' w := by simp [Instr.keyThatStays, h3]
          simp only [Instr.mapUpdate, Sem.run_bind, run_under hu, Result.andThen_ok, run_getObj hh (by intro c e f h; cases h), checkKey_ok hq, hfk _ h1, Nat.zero_add, hj, Option.map_some, Option.getD_some, hks,
            run_setObj hh (by intro c e f h; cases h)]
        · subst h2
          obtain ⟨p1, p2⟩ := r.putObj hlt hl hs (by intro h; cases h) hh (x := .map es2 (clock + 1)) (o := .map (es'.push { key := k', val := v', born := clock }) (clock + 1)) (.map _ _ _ (by rw [Array.toList_push]; exact h3))
          refine ⟨_, ?_, rfl, p1, p2⟩
          simp only [Instr.mapUpdate, Sem.run_bind, run_under hu, Result.andThen_ok, run_getObj hh (by intro c e f h; cases h), checkKey_ok hq, hfk _ h1,
            run_setObj hh (by intro c e f h; cases h)]
      · cases h
    · cases h
  · cases h
theorem ef_upd {o : Oper} {ty kt e : TypeId} {x k v : Operand} {x' k' v' : Opd} {q : KQ} (ho : o.op = .mapUpdate ty x k v ∨ o.op = .insert ty x k v) (hx : OR x' x) (hk : OR k' k) (hv : OR v' v) (hu : P.underlying ty = some (.map kt e)) (hq : keyT P kt = some q) :
    EfOk P o (k_upd q x' k' v') := by
  intro B m N t s a w u s' hB r ht hfr h
  obtain ⟨w', h1, h2, h3, h4⟩ := run_mapUpdate r (hx m N t a ht) (hk m N t a ht) (hv m N t a ht) hu hq h
  refine ⟨.skip, w', m, ?_, .inr ⟨rfl, h2⟩, h3, h4⟩
  rcases ho with ho | ho <;> simp [execOp, ho, h1]
theorem ef_del {o : Oper} {c : Call} {ty kt e : TypeId} {rs : List TypeId} {x k : Opd} {q : KQ} (ho : o.op = .call c) (hc : c.callee = .builtin .delete) (ha : OLs [x, k] c.args.toList) (hty : c.argTypes.toList = ty :: rs)
    (hu : P.underlying ty = some (.map kt e)) (hq : keyT P kt = some q) : EfOk P o (k_del q x k) := by
  intro B m N t s a w u s' hB r ht hfr h
  obtain ⟨x', k', hargs, hx, hk⟩ := two_args ha ht
  have hty0 := tys_get hty
  have hget0 : (#[x', k'] : Array Value)[0]? = some x' := rfl
  have hget1 : (#[x', k'] : Array Value)[1]? = some k' := rfl
  unfold k_del delA at h
  split at h
  · rename_i id ex
    rw [ex] at hx
    cases hx with
    | mp _ b hb =>
    split at h
    · rename_i es clock hs
      split at h
      · rename_i es2 hu2
        cases h
        obtain ⟨hlt, C, sz, es', hl, hh, he⟩ := r.map hb hs
        obtain ⟨d, hd⟩ := keyT_desc hq
        have hfk : ∀ y, Instr.findNow d k' es'.toList 0 = some y → (Instr.findKey kt k' es'.toList).run P w = .ok y w := fun y hy => by
          simp [Instr.findKey, run_under hd, hy]
        rcases delL_run hk hd hq 0 he hu2 with ⟨j, u, h1, h2, h3⟩ | ⟨h1, h2⟩
        · obtain ⟨p1, p2⟩ := r.putObj hlt hl hs (by intro h; cases h) hh (x := .map es2 clock) (o := .map (es'.eraseIdxIfInBounds j) clock) (.map _ _ _ (by
            have : (es'.eraseIdxIfInBounds j).toList = es'.toList.eraseIdx j := by
              rw [Array.eraseIdxIfInBounds_eq]
              have hj : j < es'.size := by rw [← Array.length_toList]; exact h3
              simp [hj]
            rw [this]; exact h2))
          refine ⟨.value (.tuple #[]), _, m, ?_, .inl ⟨_, rfl, VR.undef m⟩, p1, p2⟩
          rw [run_call_builtin ho hc, hargs]
          simp only [builtin, Builtin.delete_, hty0, hget0, hget1, Sem.run_bind, run_under hu, Result.andThen_ok, run_getObj hh (by intro c e f h; cases h), checkKey_ok hq, hfk _ h1, Nat.zero_add, run_setObj hh (by intro c e f h; cases h)]
          rfl
        · obtain ⟨p1, p2⟩ := r.putObj hlt hl hs (by intro h; cases h) hh (x := .map es2 clock) (o := .map es' clock) (.map _ _ _ h2)
          refine ⟨.value (.tuple #[]), _, m, ?_, .inl ⟨_, rfl, VR.undef m⟩, p1, p2⟩
          rw [run_call_builtin ho hc, hargs]
          simp only [builtin, Builtin.delete_, hty0, hget0, hget1, Sem.run_bind, run_under hu, Result.andThen_ok, run_getObj hh (by intro c e f h; cases h), checkKey_ok hq, hfk _ h1, run_setObj hh (by intro c e f h; cases h)]
          rfl
      · cases h
    · cases h
  · cases h
theorem ef_clear_map {o : Oper} {c : Call} {ty kt e : TypeId} {rs : List TypeId} {x : Opd} (ho : o.op = .call c) (hc : c.callee = .builtin .clear) (ha : OLs [x] c.args.toList) (hty : c.argTypes.toList = ty :: rs)
    (hu : P.underlying ty = some (.map kt e)) : EfOk P o (k_clearM x) := by
  intro B m N t s a w u s' hB r ht hfr h
  obtain ⟨x', hargs, hx⟩ := one_arg ha ht
  have hty0 := tys_get hty
  have hget0 : (#[x'] : Array Value)[0]? = some x' := rfl
  unfold k_clearM clearM at h
  split at h
  · rename_i ex
    rw [ex] at hx; cases hx; cases h
    refine ⟨.value (.tuple #[]), w, m, ?_, .inl ⟨_, rfl, VR.undef m⟩, r, Stp.refl m s w⟩
    rw [run_call_builtin ho hc, hargs]
    simp only [builtin, Builtin.clear_, hty0, hget0, Sem.run_bind, run_under hu, Result.andThen_ok]
    rfl
  · rename_i id ex
    rw [ex] at hx
    cases hx with
    | mp _ b hb =>
    split at h
    · rename_i es clock hs
      cases h
      obtain ⟨hlt, C, sz, es', hl, hh, he⟩ := r.map hb hs
      obtain ⟨p1, p2⟩ := r.putObj hlt hl hs (by intro h; cases h) hh (x := .map [] clock) (o := .map #[] clock) (.map _ _ _ .nil)
      refine ⟨.value (.tuple #[]), _, m, ?_, .inl ⟨_, rfl, VR.undef m⟩, p1, p2⟩
      rw [run_call_builtin ho hc, hargs]
      simp only [builtin, Builtin.clear_, hty0, hget0, Sem.run_bind, run_under hu, Result.andThen_ok, run_getObj hh (by intro c e f h; cases h), run_setObj hh (by intro c e f h; cases h)]
      rfl
    · cases h
  · cases h
end Go.Ab
