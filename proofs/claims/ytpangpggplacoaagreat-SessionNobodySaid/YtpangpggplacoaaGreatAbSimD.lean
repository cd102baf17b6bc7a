/- THE ABSTRACT EVALUATOR: the two builtins of strings.Builder.String, on both sides. -/
import Derived.Test.YtpangpggplacoaaGreatAbSimB
import Derived.Lib.UnsafeStr
namespace Go.Ab
variable {P : Program}

theorem pu_sd {o : Oper} {c : Call} {x : Opd} (ho : o.op = .call c) (hc : c.callee = .builtin .unsafeSliceData) (ha : OLs [x] c.args.toList) : PuOk P o (k_sd x) := by
  intro m N t a v ht h
  obtain ⟨x', hargs, hx⟩ := one_arg ha ht
  unfold k_sd sdA at h
  split at h
  · rename_i ex
    rw [ex] at hx; cases hx; cases h
    exact ⟨_, .nilp, fun w => by rw [run_call_builtin ho hc, hargs]; rfl⟩
  · rename_i id off n cap ex
    rw [ex] at hx
    cases hx with
    | sl _ _ _ _ ad k q1 q2 q3 q4 =>
    rw [beq_nat] at h
    by_cases hn : n = 0
    · subst hn; cases h
    · rw [beq_eq_false_iff_ne.2 hn] at h
      cases h
      refine ⟨_, .ptr id off ad q1, fun w => ?_⟩
      rw [run_call_builtin ho hc, hargs]
      have hr := Lib.run_unsafeSliceData_row (P := P) w c.argTypes o.type ad n k (by omega)
      simp only [builtin, Sem.run_bind, hr, Result.andThen_ok]
      rfl
  · cases h

theorem bytesA_nth : ∀ {l : List AV} {r : List Nat}, bytesA l = some r → r.length = l.length ∧ ∀ (i n : Nat), r[i]? = some n → n < 256 ∧ l[i]? = some (AV.int .u8 (.ofNat n)) := by
  intro l
  induction l with
  | nil => intro r h; cases h; exact ⟨rfl, fun i n h => (by cases h)⟩
  | cons a l ih =>
    intro r h
    change consB (bytesA l) (byteA a) = some r at h
    cases hb : byteA a with
    | none => rw [hb] at h; cases h
    | some n =>
      rw [hb] at h
      obtain ⟨r', hr, rfl⟩ := consO_some (show consO n (bytesA l) = some r from h)
      obtain ⟨h1, h2⟩ := ih hr
      unfold byteA at hb
      split at hb
      · rename_i k
        rw [blt_nat] at hb
        by_cases hk : k < 256
        · rw [decide_eq_true hk] at hb
          obtain rfl : k = n := Option.some.inj hb
          refine ⟨by simp [h1], fun i n hi => ?_⟩
          cases i with
          | zero => cases hi; exact ⟨hk, rfl⟩
          | succ i => exact h2 i n hi
        · rw [decide_eq_false hk] at hb; cases hb
      · cases hb

/-- a block is given up that the world still turns -/
theorem R.killW {B : Nat} {m : Mp} {s : St} {w w' : World} (r : R P B m s w) {id b C sz : Nat} (hlt : id < s.nx) (hm : m id = .live b C sz) (hs : w'.heap.size = w.heap.size) (hn : ∀ c, c ≠ b → w'.heap[c]? = w.heap[c]?) :
    R P B (m.bind id .dead) (s.put id .dfr) w' := by
  have hk := (r.kill (id := id) (fun x => by rw [hm]; intro h; cases h)).resolve_right (by omega)
  refine ⟨fun i b' C' sz' hi hl => ?_, hk.dead, hk.top, fun i b' C' sz' hl => by rw [hs]; exact hk.base i b' C' sz' hl, hk.inj⟩
  obtain ⟨x, o, h1, h2, h3⟩ := hk.blk i b' C' sz' hi hl
  have : b' ≠ b := fun e => by
    subst e
    unfold Mp.bind at hl
    by_cases e : i = id
    · rw [if_pos e] at hl; cases hl
    · rw [if_neg e] at hl; exact e (r.inj _ _ _ _ _ _ _ hl hm)
  exact ⟨x, o, h1, by rw [hn b' this]; exact h2, h3⟩

theorem ef_us {o : Oper} {c : Call} {ty u e : TypeId} {p n : Opd} (ho : o.op = .call c) (hc : c.callee = .builtin .unsafeString) (ha : OLs [p, n] c.args.toList) (hty : c.argTypes.toList = [ty, u])
    (hu : P.underlying ty = some (.pointer e)) (he : P.cellsOf e = 1) : EfOk P o (k_us e p n) := by
  intro B m N t s a w v s' hB r ht hfr h
  obtain ⟨x', y', hargs, hx, hy⟩ := two_args ha ht
  have hta : c.argTypes = #[ty, u] := by rw [← Array.toArray_toList (xs := c.argTypes), hty]
  unfold k_us usA at h
  split at h
  · rename_i k ex ey
    rw [ex] at hx; rw [ey] at hy
    cases hx; cases hy
    rw [beq_nat] at h
    by_cases hk : k = 0
    · subst hk
      cases h
      refine ⟨.value (.string .empty), w, m, ?_, .inl ⟨_, rfl, .str _ _ rfl⟩, r, Stp.refl _ _ _⟩
      rw [run_call_builtin ho hc, hargs]
      have hr := Lib.run_unsafeString_none (P := P) w ty u o.type none
      simp only [builtin, hta, Sem.run_bind]
      exact congrArg (fun q => Result.andThen q _) hr
    · rw [beq_eq_false_iff_ne.2 hk] at h; cases h
  · rename_i id off k ex ey
    rw [ex] at hx; rw [ey] at hy
    split at h
    · rename_i cs ce op hst
      cases hcond : (Nat.beq off 0 && Nat.beq ce e && Nat.blt 0 k && Nat.ble k 9223372036854775807) with
      | false => rw [hcond] at h; cases h
      | true =>
        rw [hcond] at h
        simp only [cond_true] at h
        simp only [Bool.and_eq_true, beq_nat, beq_iff_eq, blt_nat, ble_nat, decide_eq_true_eq] at hcond
        obtain ⟨⟨⟨rfl, rfl⟩, hk0⟩, hk63⟩ := hcond
        cases hx with
        | ptr _ _ ad har =>
        cases hy with
        | int _ _ =>
        cases hsg : seg 0 k cs with
        | none => rw [hsg] at h; cases h
        | some l =>
          rw [hsg] at h
          cases hbs : bytesA l with
          | none => simp only [usB, hbs] at h; cases h
          | some bs =>
            simp only [usB, hbs] at h
            cases h
            obtain ⟨hlt, b, C, sz, arr, lo, hi, hcl⟩ := r.cells har.ne hst
            obtain rfl := har.eq hcl.live
            obtain ⟨e1, e2, e3⟩ := seg_some hsg
            obtain ⟨b1, b2⟩ := bytesA_nth hbs
            have hkc : k ≤ cs.length := by rcases e3 with e3 | e3 <;> omega
            have hlen : (bs.map UInt8.ofNat).length = k := by rw [List.length_map, b1, e2]
            have hcell : ∀ j x, (bs.map UInt8.ofNat)[j]? = some x → w.cell? ((⟨b, 0, none⟩ : Addr).add j) = some (.int .u8 x.toNat) := by
              intro j x hj
              rw [List.getElem?_map] at hj
              cases hb : bs[j]? with
              | none => rw [hb] at hj; cases hj
              | some q =>
                rw [hb] at hj; cases hj
                obtain ⟨c1, c2⟩ := b2 j q hb
                rw [e1, List.drop_zero, List.getElem?_take] at c2
                split at c2
                · obtain ⟨v', d1, d2⟩ := hcl.nth c2
                  rw [add_at, Nat.zero_add, hcl.cell, d1]
                  cases d2
                  simp; omega
                · cases c2
            have hsh : w.shape? b = some (ce, arr.size) := by unfold World.shape?; rw [hcl.heap]
            have hr := Lib.run_unsafeString_row (P := P) w ty u o.type ce hu he b arr.size hsh (bs.map UInt8.ofNat) (by intro h0; rw [h0] at hlen; simp at hlen; omega) (by rw [hlen, hcl.hC]; have := hcl.le; omega) (by rw [hlen]; exact hk63) hcell
            rw [hlen] at hr
            have hfs : (w.freeze ⟨b, 0, none⟩ k).heap.size = w.heap.size := by unfold World.freeze; split <;> simp
            have hfo : ∀ c, c ≠ b → (w.freeze ⟨b, 0, none⟩ k).heap[c]? = w.heap[c]? := by
              intro c hcb
              unfold World.freeze
              split
              · rfl
              · simp only [Array.getElem?_modify]; rw [if_neg (Ne.symm hcb)]
            have hks := Stp.kill (w := w) har.ne har.nv hlt hst
            refine ⟨.value (.string ⟨(bs.map UInt8.ofNat).toArray⟩), w.freeze ⟨b, 0, none⟩ k, m.bind id .dead, ?_, .inl ⟨_, rfl, .str _ _ ?_⟩, r.killW hlt hcl.live hfs hfo, ⟨hks.ext, hks.low, hks.high, hks.dfr, hks.nx, fun q hq hnl => ?_, by rw [hfs]; exact Nat.le_refl _, hks.fresh, ?_, ?_, ?_⟩⟩
            · rw [run_call_builtin ho hc, hargs]
              simp only [builtin, hta, Sem.run_bind]
              exact congrArg (fun q => Result.andThen q _) hr
            · simp only [List.map_map]
              have : bs.map (UInt8.toNat ∘ UInt8.ofNat) = bs.map (fun q => q) := by
                apply List.map_congr_left
                intro q hq
                obtain ⟨i, hi⟩ := List.mem_iff_getElem?.1 hq
                have := (b2 i q hi).1
                simp; omega
              rw [this]; simp
            · exact hfo q (fun e => by subst e; exact hnl id C sz hlt hcl.live)
            all_goals (unfold World.freeze; split <;> rfl)
    · cases h
  · cases h
end Go.Ab
