/- THE ABSTRACT EVALUATOR: what reads bytes and maps, on both sides. -/
import Derived.Test.YtpangpggplacoaaGreatAbSim4
import Derived.Laws.BytesString
namespace Go.Ab
variable {P : Program}

theorem bytesA_some : ∀ {l : List AV} {r : List Nat} {m : Mp} {vs : List Value}, bytesA l = some r → VRs m l vs → ∃ ns : List Int, vs = ns.map (Value.int .u8) ∧ ns.map Int.toNat = r ∧ ∀ n ∈ r, n < 256 := by
  intro l
  induction l with
  | nil => intro r m vs h hv; cases hv; cases h; exact ⟨[], rfl, rfl, by simp⟩
  | cons a l ih =>
    intro r m vs h hv
    change consB (bytesA l) (byteA a) = some r at h
    cases hb : byteA a with
    | none => rw [hb] at h; cases h
    | some n =>
      rw [hb] at h
      obtain ⟨r', hr, rfl⟩ := consO_some (show consO n (bytesA l) = some r from h)
      unfold byteA at hb
      split at hb
      · rename_i k
        rw [blt_nat] at hb
        by_cases hk : k < 256
        · rw [decide_eq_true hk] at hb
          obtain rfl : k = n := Option.some.inj hb
          cases hv with
          | cons _ _ _ vs' hx hl =>
            cases hx
            obtain ⟨ns, h1, h2, h3⟩ := ih hr hl
            exact ⟨Int.ofNat k :: ns, by rw [h1]; rfl, by rw [List.map_cons, h2]; rfl, by simp; exact ⟨hk, h3⟩⟩
        · rw [decide_eq_false hk] at hb; cases hb
      · cases hb
theorem foldl_push (ns : List Int) : ∀ s : ByteArray, (ns.foldl (fun r n => r.push (UInt8.ofNat n.toNat)) s).data.toList = s.data.toList ++ ns.map fun n => UInt8.ofNat n.toNat := by
  induction ns with
  | nil => intro s; simp
  | cons n ns ih => intro s; rw [List.foldl_cons, ih]; simp [ByteArray.push]
theorem bytes_back {ns : List Int} {r : List Nat} (h : ns.map Int.toNat = r) (hr : ∀ n ∈ r, n < 256) :
    (ns.foldl (fun r n => r.push (UInt8.ofNat n.toNat)) ByteArray.empty).data.toList.map UInt8.toNat = r := by
  rw [foldl_push]
  have : (ByteArray.empty.data.toList : List UInt8) = [] := rfl
  rw [this, List.nil_append, List.map_map]
  subst h
  apply List.map_congr_left
  intro n hn
  have := hr n.toNat (List.mem_map_of_mem hn)
  simp; omega
theorem rd_b2s {o : Oper} {src dst e : TypeId} {x : Operand} {x' : Opd} (ho : o.op = .convert src dst x) (hx : OR x' x) (hs : P.underlying src = some (.slice e)) (hd : P.underlying dst = some .string) (he : P.underlying e = some (.int .u8)) : RdOk P o (k_b2s x') := by
  intro B m N t s a w v r ht h
  have hx := hx m N t a ht
  have conv : ∀ y : Value, (∀ k n, y ≠ .int k n) → (∀ bs, y ≠ .string bs) → (convert src dst y).run P w = (Conv.bytesToString y).run P w := by
    intro y h1 h2
    unfold convert
    simp only [Sem.run_bind, run_under hs, run_under hd, Result.andThen_ok]
    simp only [run_under he, Result.andThen_ok]
  unfold k_b2s b2sA at h
  split at h
  · rename_i ex
    rw [ex] at hx; cases h
    cases hv : a.eval x <;> rw [hv] at hx <;> cases hx
    exact ⟨.string .empty, .str _ _ rfl, by
      simp only [execOp, ho, hv, Sem.run_bind, conv (.slice none 0 0) (by intro k n h; cases h) (by intro b h; cases h)]; rfl⟩
  · rename_i ex
    rw [ex] at hx; cases h
    generalize hv : a.eval x = y at hx
    cases hx with
    | sle ad c =>
    have hb := run_bytesToString (P := P) w ad 0 c [] rfl
    exact ⟨.string .empty, .str _ _ rfl, by
      simp only [execOp, ho, hv, Sem.run_bind, conv (.slice (some ad) 0 c) (by intro k n h; cases h) (by intro b h; cases h)]; rw [hb]; rfl⟩
  · rename_i id off len cap ex
    rw [ex] at hx
    generalize hv : a.eval x = y at hx
    cases hx with
    | sl _ _ _ _ ad c h1 h2 h3 h4 =>
    split at h
    · rename_i cs ce op hst
      split at h
      · rename_i l hl
        split at h
        · rename_i bs hbs
          cases h
          obtain ⟨_, b, C, sz, arr, lo, hi, hc⟩ := r.cells h1.ne hst
          obtain rfl := h1.eq hc.live
          obtain ⟨vs, g1, g2, g3⟩ := hc.span (P := P) hl
          obtain ⟨ns, k1, k2, k3⟩ := bytesA_some hbs g2
          subst k1
          have hb := run_bytesToString (P := P) w ⟨b, off, none⟩ len c ns (g3 w rfl)
          exact ⟨_, .str _ _ (bytes_back k2 k3), by
            simp only [execOp, ho, hv, Sem.run_bind, conv (.slice (some ⟨b, off, none⟩) len c) (by intro k n h; cases h) (by intro b h; cases h)]; rw [hb]; rfl⟩
        · cases h
      · cases h
    · cases h
  · cases h

/-! ### maps -/
theorem bytearray_beq (x y : ByteArray) : (x == y) = (x.toList == y.toList) := by
  have e : (x == y) = (x.data == y.data) := rfl
  rw [e, ByteArray.toList_eq, ByteArray.toList_eq]
  by_cases h : x.data = y.data
  · rw [h]; simp
  · have : x.data.toList ≠ y.data.toList := fun he => h (Array.toList_inj.1 he)
    rw [beq_eq_false_iff_ne.2 h, beq_eq_false_iff_ne.2 this]
theorem keyEq_now {q : KQ} {x y : AV} {b : Bool} {m : Mp} {x' y' : Value} (h : keyEq q x y = some b) (hx : VR m x x') (hy : VR m y y') {kt : TypeId} {d : TypeDesc} (hd : P.underlying kt = some d) (hq : keyT P kt = some q) :
    Instr.sameNow d x' y' = some b := by
  unfold keyT at hq
  rw [hd] at hq
  unfold keyEq at h
  split at h
  · rename_i k i k' j
    cases hx; cases hy
    cases hk : kbeq k k' with
    | false => rw [hk] at h; cases h
    | true =>
      rw [hk] at h; obtain rfl := kbeq_true hk
      simp only [cond_true, Option.some.injEq, ibeq_eq] at h
      subst h
      cases d <;> simp at hq
      simp [Instr.sameNow]; rfl
  · cases hx; cases hy; cases h
    cases d <;> simp at hq
    rfl
  · cases hx; cases hy
    rename_i s1 e1 s2 e2
    cases h
    cases d <;> simp at hq
    subst e1; subst e2
    rw [lbeq_eq, bytes_beq]
    simp only [Instr.sameNow, Option.some.injEq]
    exact bytearray_beq s1 s2
  · cases h
theorem checkKey_ok {q : KQ} {kt : TypeId} (hq : keyT P kt = some q) (b : Bool) (n : Nat) (v : Value) (w : World) : (Instr.checkKey b (n + 1) kt v).run P w = .ok () w := by
  unfold keyT at hq
  unfold Instr.checkKey
  cases hd : P.underlying kt with
  | none => rw [hd] at hq; cases hq
  | some d =>
    rw [hd] at hq
    simp only [Sem.run_bind, run_under hd, Result.andThen_ok]
    cases d <;> simp at hq <;> rfl
/-- where a key is found -/
theorem findA_now {q : KQ} {k : AV} {k' : Value} {m : Mp} (hk : VR m k k') {kt : TypeId} {d : TypeDesc} (hd : P.underlying kt = some d) (hq : keyT P kt = some q) : ∀ {es : List AE} {es' : List MapEntry} {x : Option AV} (i : Nat),
    ERs m es es' → findA q k es = some x → ∃ y, Instr.findNow d k' es' i = some y ∧ (match x with | none => y = none | some v => ∃ j v', y = some (j, v') ∧ VR m v v') := by
  intro es
  induction es with
  | nil => intro es' x i he h; cases he; cases h; exact ⟨none, rfl, rfl⟩
  | cons e es ih =>
    intro es' x i he h
    cases he with
    | cons _ e' _ es' he hl =>
      change find1 e (findA q k es) (keyEq q k e.k) = some x at h
      cases hb : keyEq q k e.k with
      | none => rw [hb] at h; cases h
      | some b =>
        rw [hb] at h
        have hs := keyEq_now hb hk he.k hd hq
        cases b with
        | true =>
          cases h
          exact ⟨some (i, e'.val), by simp [Instr.findNow, hs], i, e'.val, rfl, he.v⟩
        | false =>
          obtain ⟨y, h1, h2⟩ := ih (i + 1) hl h
          exact ⟨y, by simp [Instr.findNow, hs, h1], h2⟩
theorem R.mapES {B : Nat} {m : Mp} {s : St} {w : World} (r : R P B m s w) {x : AV} {x' : Value} (hx : VR m x x') {es : List AE} (h : mapES s x = some es) :
    (x = .nilm ∧ x' = .map none ∧ es = []) ∨ ∃ id b es' clock, x = .mp id ∧ x' = .map (some b) ∧ w.heap[b]? = some (.map es' clock) ∧ ERs m es es'.toList := by
  unfold Ab.mapES at h
  split at h
  · cases hx; cases h; exact .inl ⟨rfl, rfl, rfl⟩
  · rename_i id
    cases hx
    rename_i b hb
    split at h
    · rename_i es0 clock hs
      cases h
      obtain ⟨b', C, sz, ob, _, hl, hh, hbr⟩ := r.live hb.ne hs (by intro h; cases h)
      unfold MR at hb; rw [hl] at hb; simp only at hb; subst hb
      cases hbr with
      | map _ es' _ he => exact .inr ⟨id, b, es', clock, rfl, rfl, hh, he⟩
    · cases h
  · cases h
theorem rd_look {o : Oper} {ty kt e : TypeId} {x k : Operand} {x' k' : Opd} {ok : Bool} {q : KQ} {z : AV} (ho : o.op = .lookup ty x k ok) (hx : OR x' x) (hk : OR k' k) (hu : P.underlying ty = some (.map kt e)) (hq : keyT P kt = some q) (hz : zeroA P e = some z) :
    RdOk P o (k_look q z ok x' k') := by
  intro B m N t s a w v r ht h
  have hx := hx m N t a ht
  have hk := hk m N t a ht
  unfold k_look at h
  split at h
  · rename_i es hes
    obtain ⟨z', hz1, hz2⟩ := run_zeroAll hz
    obtain ⟨d, hd⟩ : ∃ d, P.underlying kt = some d := by
      unfold keyT at hq
      cases hd : P.underlying kt with
      | none => rw [hd] at hq; cases hq
      | some d => exact ⟨d, rfl⟩
    have key : ∀ es' : Array MapEntry, ERs m es es'.toList → ∃ v', VR m v v' ∧
        ((do let (v, ok') ← match ← Instr.findKey kt (a.eval k) es'.toList with
                | some (_, v) => pure (v, true)
                | none => pure (← zeroValue e, false)
             pure (if ok then Value.tuple #[v, .bool ok'] else v) : Sem Value)).run P w = .ok v' w := by
      intro es' he
      unfold lookA at h
      split at h
      · rename_i u hf
        obtain ⟨y, h1, j, u', h2, h3⟩ := findA_now hk hd hq 0 he hf
        subst h2
        cases h
        cases ok with
        | true => exact ⟨.tuple #[u', .bool true], .tup _ _ (.cons _ _ _ _ h3 (.cons _ _ _ _ (.bool true) .nil)), by simp [Instr.findKey, run_under hd, h1]⟩
        | false => exact ⟨u', h3, by simp [Instr.findKey, run_under hd, h1]⟩
      · rename_i hf
        obtain ⟨y, h1, h2⟩ := findA_now hk hd hq 0 he hf
        simp only at h2; subst h2
        cases h
        cases ok with
        | true => exact ⟨.tuple #[z', .bool false], .tup _ _ (.cons _ _ _ _ (VR.of hz2) (.cons _ _ _ _ (.bool false) .nil)), by simp [Instr.findKey, run_under hd, h1, hz1]⟩
        | false => exact ⟨z', VR.of hz2, by simp [Instr.findKey, run_under hd, h1, hz1]⟩
      · cases h
    rcases r.mapES hx hes with ⟨_, h2, h3⟩ | ⟨id, b, es', clock, _, h2, h3, h4⟩
    · subst h3
      obtain ⟨v', g1, g2⟩ := key #[] .nil
      refine ⟨v', g1, ?_⟩
      simp only [execOp, ho, h2, Sem.run_bind, Instr.lookup, run_under hu, Result.andThen_ok, Sem.run_pure, checkKey_ok hq] at g2 ⊢
      exact congrArg (fun (r : Result Value) => r.andThen fun a w' => Result.ok (Next.value a) w') g2
    · obtain ⟨v', g1, g2⟩ := key es' h4
      refine ⟨v', g1, ?_⟩
      simp only [execOp, ho, h2, Sem.run_bind, Instr.lookup, run_under hu, Result.andThen_ok, getObj, Sem.run, h3, Sem.run_pure, checkKey_ok hq] at g2 ⊢
      exact congrArg (fun (r : Result Value) => r.andThen fun a w' => Result.ok (Next.value a) w') g2
  · cases h
theorem pu_lenS {o : Oper} {c : Call} {ty : TypeId} {r : List TypeId} {x : Opd} (ho : o.op = .call c) (hc : c.callee = .builtin .len) (ha : OLs [x] c.args.toList) (hty : c.argTypes.toList = ty :: r)
    (hu : P.underlying ty = some .string) : PuOk P o (k_lenS x) := by
  intro m N t a v ht h
  have hv := ha.ev ht
  cases hl : c.args.toList.map a.eval with
  | nil => rw [hl] at hv; cases hv
  | cons x' l =>
    rw [hl] at hv
    cases hv with
    | cons _ _ _ _ hx hr =>
      cases hr
      unfold k_lenS lenS at h
      split at h
      · rename_i b ex
        rw [ex] at hx; cases h
        cases hx
        rename_i bs hb
        subst hb
        refine ⟨_, .int _ _, fun w => ?_⟩
        rw [run_call_builtin ho hc, args_of hl, llen_eq, bytes_len]
        simp [builtin, Builtin.len_, tys_get hty, run_under hu, goInt]
      · cases h
theorem pu_lenL {o : Oper} {c : Call} {ty e : TypeId} {r : List TypeId} {x : Opd} (ho : o.op = .call c) (hc : c.callee = .builtin .len) (ha : OLs [x] c.args.toList) (hty : c.argTypes.toList = ty :: r)
    (hu : P.underlying ty = some (.slice e)) : PuOk P o (k_lenL x) := by
  intro m N t a v ht h
  have hv := ha.ev ht
  cases hl : c.args.toList.map a.eval with
  | nil => rw [hl] at hv; cases hv
  | cons x' l =>
    rw [hl] at hv
    cases hv with
    | cons _ _ _ _ hx hr =>
      cases hr
      unfold k_lenL lenL at h
      split at h
      all_goals first
        | (cases h; done)
        | (rename_i ex
           rw [ex] at hx; cases h
           cases hx
           refine ⟨_, .int _ _, fun w => ?_⟩
           rw [run_call_builtin ho hc, args_of hl]
           simp [builtin, Builtin.len_, tys_get hty, run_under hu, goInt])
theorem rd_lenM {o : Oper} {c : Call} {ty kt e : TypeId} {r : List TypeId} {x : Opd} (ho : o.op = .call c) (hc : c.callee = .builtin .len) (ha : OLs [x] c.args.toList) (hty : c.argTypes.toList = ty :: r)
    (hu : P.underlying ty = some (.map kt e)) : RdOk P o (k_lenM x) := by
  intro B m N t s a w v r ht h
  have hv := ha.ev ht
  cases hl : c.args.toList.map a.eval with
  | nil => rw [hl] at hv; cases hv
  | cons x' l =>
    rw [hl] at hv
    cases hv with
    | cons _ _ _ _ hx hr =>
      cases hr
      unfold k_lenM lenM at h
      split at h
      · rename_i es hes
        cases h
        refine ⟨_, .int _ _, ?_⟩
        rw [run_call_builtin ho hc, args_of hl, llen_eq]
        rcases r.mapES hx hes with ⟨_, h2, h3⟩ | ⟨id, b, es', clock, _, h2, h3, h4⟩
        · subst h3; subst h2
          simp [builtin, Builtin.len_, tys_get hty, run_under hu, goInt]
        · subst h2
          have hlen : es.length = es'.size := by
            have : ∀ {l : List AE} {l' : List MapEntry}, ERs m l l' → l.length = l'.length := by
              intro l l' hh
              induction hh with
              | nil => rfl
              | cons _ _ _ _ _ _ ih => simp [ih]
            rw [this h4]; exact Array.length_toList
          simp [builtin, Builtin.len_, tys_get hty, run_under hu, goInt, getObj, Sem.run, h3, hlen]
      · cases h
end Go.Ab
