/- THE ABSTRACT EVALUATOR: append, copy, maps that are written, on both sides. -/
import Derived.Test.YtpangpggplacoaaGreatAbSim8
namespace Go.Ab
variable {P : Program}

theorem two_args {c : Call} {a : Act} {x y : Opd} (ha : OLs [x, y] c.args.toList) {m : Mp} {N : Nat} {t : T AV} (ht : TR m N t a.tmps) :
    ∃ x' y', c.args.map a.eval = #[x', y'] ∧ VR m (x.ev t) x' ∧ VR m (y.ev t) y' := by
  have hv := ha.ev ht
  cases hl : c.args.toList.map a.eval with
  | nil => rw [hl] at hv; cases hv
  | cons x' l =>
    rw [hl] at hv
    cases hv with
    | cons _ _ _ _ hx hr =>
      cases hr with
      | cons _ y' _ l' hy hr =>
        cases hr
        exact ⟨x', y', args_of hl, hx, hy⟩
theorem one_arg {c : Call} {a : Act} {x : Opd} (ha : OLs [x] c.args.toList) {m : Mp} {N : Nat} {t : T AV} (ht : TR m N t a.tmps) :
    ∃ x', c.args.map a.eval = #[x'] ∧ VR m (x.ev t) x' := by
  have hv := ha.ev ht
  cases hl : c.args.toList.map a.eval with
  | nil => rw [hl] at hv; cases hv
  | cons x' l =>
    rw [hl] at hv
    cases hv with
    | cons _ _ _ _ hx hr =>
      cases hr
      exact ⟨x', args_of hl, hx⟩
theorem mul_sub_right (a b c : Nat) : (a - b) * c = a * c - b * c := Nat.sub_mul a b c

/-- the new row of an append -/
theorem br_grown {m : Mp} {old new : List AV} {old' new' : Array Value} {z : Array Value} {e : TypeId} {n nc : Nat} (ho : VRs m old old'.toList) (hn : VRs m new new'.toList) (hl : (old ++ new).length = n * P.cellsOf e) (hz : z.size = P.cellsOf e) (hnc : n ≤ nc) :
    BR P m (nc * P.cellsOf e) (P.cellsOf e) (.cells (old ++ new) e true) (.cells (old' ++ new' ++ Builtin.zeroCells z (nc - n)) e) := by
  have h1 := ho.size
  have h2 := hn.size
  rw [List.length_append] at hl
  have hmul : n * P.cellsOf e ≤ nc * P.cellsOf e := Nat.mul_le_mul_right _ hnc
  refine .cells _ e true _ 0 0 ?_ rfl ?_ (fun h => by cases h) ?_ (fun i _ hh => Nat.not_lt_zero _ hh.2) (.inr (Nat.le_refl _))
  · rw [Array.size_append, Array.size_append, zeroCells_size, hz, mul_sub_right]; omega
  · rw [List.length_append]; omega
  · rw [List.length_append, Array.toList_append, Array.toList_append, List.take_left']
    · exact ho.app hn
    · rw [List.length_append, ← ho.length, ← hn.length]

theorem ef_app {o : Oper} {c : Call} {ty u e : TypeId} {du : TypeDesc} {x y : Opd} {z : AV} (ho : o.op = .call c) (hc : c.callee = .builtin .append) (ha : OLs [x, y] c.args.toList) (hty : c.argTypes.toList = [ty, u])
    (hu : P.underlying ty = some (.slice e)) (huy : P.underlying u = some du) (hnz : ∀ k, du ≠ .int k) (hz : zeroA P e = some z) (hs : P.cellsOf e ≠ 0) (hb : P.bytesOf e ≤ 4096) (hzl : z.cells.length = P.cellsOf e) : EfOk P o (k_app e (P.cellsOf e) x y) := by
  intro B m N t s a w v s' hB r ht hfr h
  obtain ⟨x', y', hargs, hx, hy⟩ := two_args ha ht
  have hty0 := tys_get hty
  have hty1 := tys_get1 hty
  have hrun : ∀ w : World, (execOp a.eval o).run P w = (do let q ← Builtin.append_ c.argTypes o.type #[x', y']; pure (Next.value q) : Sem Next).run P w := by
    intro w
    rw [run_call_builtin ho hc, hargs]
    rfl
  obtain ⟨z', hz1, hz2⟩ := run_zeroAll hz
  have hzs : z'.cells.size = P.cellsOf e := by rw [← hzl]; exact (VR.of (m := m) hz2).cells.size.symm
  unfold k_app appendA at h
  split at h
  · rename_i n hn
    have hlen := fun w => alen_run (P := P) hy hn w
    split at h
    · rename_i new hnew
      obtain ⟨new', v1, v2, v3⟩ := elems_run r hy hn (Nat.le_refl n) hnew
      split at h
      · -- nil
        rename_i ex
        rw [ex] at hx
        cases hx
        rw [beq_nat] at h
        by_cases hn0 : n = 0
        · subst hn0
          simp only [beq_self_eq_true, cond_true, Option.some.injEq, Prod.mk.injEq] at h
          obtain ⟨rfl, rfl⟩ := h
          have hr := run_append_nil (P := P) (rt := o.type) hty0 hty1 hu huy hnz hs (hlen w) (v2 w rfl)
          exact ⟨.value (.slice none 0 0), w, m, by rw [hrun]; simp [hr], .inl ⟨_, rfl, .nils⟩, r, Stp.refl m s w⟩
        · rw [show (n == 0) = false from beq_eq_false_iff_ne.2 hn0] at h
          simp only [cond_false, ble_nat] at h
          by_cases hbig : n ≤ 16777216
          · rw [decide_eq_true hbig] at h
            cases h
            obtain ⟨nc, w', g1, g2, g3, g4, g5, g6⟩ := run_append_grow (P := P) (rt := o.type) (base := none) (len := 0) (cap := 0) (old := #[]) hty0 hty1 hu huy hnz hs hb (hlen w) (by omega) (by omega) hz1 (fun _ _ => rfl) v2
            have hbr := br_grown (P := P) (m := m) (old := []) (old' := #[]) (n := 0 + n) .nil v1 (by simpa using v3) hzs g1
            have hf0 : m s.nx = .un := hfr s.nx (Nat.le_refl _) (by show s.nx < s.nx + 1; omega)
            have hb2 : BR P m (nc * P.cellsOf e) (P.cellsOf e) (.cells new e true) (.cells (#[] ++ new' ++ Builtin.zeroCells z'.cells (nc - (0 + n))) e) := hbr
            refine ⟨.value (.slice (some ⟨w.heap.size, 0, none⟩) (0 + n) nc), w', _, by rw [hrun]; simp only [Sem.run_bind, g2, Result.andThen_ok]; rfl, .inl ⟨_, rfl, ?_⟩, r.new hB hf0 g3 hb2, Stp.new hf0 g3 g4 g5 g6⟩
            rw [Nat.zero_add] at g1 ⊢
            refine .sl _ _ _ _ _ _ ?_ g1 (fun k hk => by cases hk) (fun _ => ?_)
            · unfold AR Mp.bind; simp
            · unfold CR Mp.bind; simp
          · rw [decide_eq_false hbig] at h; cases h
      · rename_i id off len cap ex
        rw [ex] at hx
        cases hx with
        | sl _ _ _ _ ad cp q1 q2 q3 q4 =>
        rw [ble_nat] at h
        by_cases hbig : len + n ≤ 16777216
        case neg => rw [decide_eq_false hbig] at h; cases h
        rw [decide_eq_true hbig] at h
        simp only [cond_true] at h
        unfold appSl at h
        split at h
        · rename_i cs ce op hst
          obtain ⟨hlt, b, C, sz, arr, lo, hi, hcl⟩ := r.cells q1.ne hst
          obtain rfl := q1.eq hcl.live
          cases hroom : appRoom off len n (P.cellsOf e) e ce cs cap with
          | true =>
            rw [hroom] at h
            simp only [cond_true] at h
            have hfit : len + n ≤ cp := by
              unfold appRoom at hroom
              cases cap with
              | some k =>
                simp only [ble_nat, decide_eq_true_eq] at hroom
                rw [q3 k rfl]; exact hroom
              | none =>
                simp only [Bool.and_eq_true, beq_nat, beq_iff_eq, ble_nat, decide_eq_true_eq, llen_eq] at hroom
                obtain ⟨rfl, hr2⟩ := hroom
                have hcu := q4 rfl
                unfold CR at hcu
                rw [hcl.live] at hcu
                simp only at hcu
                have h1 := hcl.le
                have h2 := hcl.hsz
                rw [h2] at hcu
                have h3 : (len + n) * P.cellsOf ce ≤ cp * P.cellsOf ce := by omega
                exact Nat.le_of_mul_le_mul_right h3 (Nat.pos_of_ne_zero hs)
            unfold appIn at h
            split at h
            · rename_i c2 hc2
              cases h
              obtain ⟨w', g1, g2, g3⟩ := r.write hlt hst hcl hc2 v1
              have hr := run_append_fit (P := P) (rt := o.type) (a := ⟨b, off, none⟩) hty0 hty1 hu huy hnz hs (hlen w) hfit (v2 w rfl) (by rw [add_at]; exact g1)
              exact ⟨.value (.slice (some ⟨b, off, none⟩) (len + n) cp), w', m, by rw [hrun]; simp only [Sem.run_bind, hr, Result.andThen_ok]; rfl,
                .inl ⟨_, rfl, .sl _ _ _ _ _ _ q1 hfit q3 q4⟩, g2, g3⟩
            · cases h
          | false =>
            rw [hroom] at h
            simp only [cond_false] at h
            rw [segX_eq] at h
            unfold appOut at h
            simp only [lappX_eq] at h
            split at h
            · rename_i old hold
              obtain ⟨old', w1, w2, w3⟩ := hcl.span (P := P) hold
              have hol : old.length = len * P.cellsOf e := by rw [w2.length, w1]
              have hold' : ∀ w2 : World, w2.heap = w.heap → (Builtin.firstCells (P.cellsOf e) len (.slice (some ⟨b, off, none⟩) len cp)).run P w2 = .ok old'.toArray w2 := fun w2 hw2 => w3 w2 hw2
              have hsum : (old ++ new).length = (len + n) * P.cellsOf e := by rw [List.length_append, hol, v3, Nat.add_mul]
              split at h
              · -- a known capacity, too small
                rename_i k
                cases h
                obtain rfl := q3 k rfl
                have hlt2 : cp < len + n := by
                  unfold appRoom at hroom
                  simp only [ble_nat, decide_eq_false_iff_not] at hroom
                  omega
                obtain ⟨nc, w', g1, g2, g3, g4, g5, g6⟩ := run_append_grow (P := P) (rt := o.type) (base := some ⟨b, off, none⟩) hty0 hty1 hu huy hnz hs hb (hlen w) hlt2 hbig hz1 hold' v2
                have hbr := br_grown (P := P) (old' := old'.toArray) (n := len + n) (by simpa using w2) v1 hsum hzs g1
                have hf0 : m s.nx = .un := hfr s.nx (Nat.le_refl _) (by show s.nx < s.nx + 1; omega)
                rw [← lapp_eq] at hbr
                refine ⟨.value (.slice (some ⟨w.heap.size, 0, none⟩) (len + n) nc), w', _, by rw [hrun]; simp only [Sem.run_bind, g2, Result.andThen_ok]; rfl, .inl ⟨_, rfl, ?_⟩, r.new hB hf0 g3 hbr, Stp.new hf0 g3 g4 g5 g6⟩
                refine .sl _ _ _ _ _ _ ?_ g1 (fun k hk => by cases hk) (fun _ => ?_)
                · unfold AR Mp.bind; simp
                · unfold CR Mp.bind; simp
              · rw [beq_nat, beq_nat, lall_eq] at h
                by_cases hcond : off = 0 ∧ ce = e ∧ new.all oneA = true
                case neg =>
                  exfalso
                  have : ((off == 0) && (ce == e) && new.all oneA) = false := by
                    rw [Bool.eq_false_iff]; intro hh
                    simp only [Bool.and_eq_true, beq_iff_eq] at hh
                    exact hcond ⟨hh.1.1, hh.1.2, hh.2⟩
                  rw [this] at h; cases h
                obtain ⟨rfl, rfl, hone⟩ := hcond
                rw [hone] at h
                simp only [beq_self_eq_true, Bool.and_true, cond_true] at h
                cases h
                have hf0 : m s.nx = .un := hfr s.nx (Nat.le_refl _) (by show s.nx < s.nx + 1; omega)
                have hcu := q4 rfl
                unfold CR at hcu
                rw [hcl.live] at hcu
                simp only [Nat.zero_add] at hcu
                have hsz2 := hcl.hsz
                by_cases hfit : len + n ≤ cp
                · -- it grows in its place
                  have hC := hcl.hC
                  have hmul : (len + n) * P.cellsOf ce ≤ cp * P.cellsOf ce := Nat.mul_le_mul_right _ hfit
                  have hCC : cp * P.cellsOf ce = C := by rw [← hsz2]; exact hcu
                  have hnl : new'.toList.length = n * P.cellsOf ce := by rw [← v1.length, v3]
                  rw [Nat.add_mul] at hmul
                  obtain ⟨w', cur', g1, g2, g3, g4, g5, g6, g7, g8, g9⟩ := run_storeCells (P := P) b (0 + len * P.cellsOf ce) ce lo hi new'.toList 0 arr w hcl.heap (by omega) (v1.one hone) (fun k _ k2 => hcl.free k (by omega))
                  have hr := run_append_fit (P := P) (rt := o.type) (a := ⟨b, 0, none⟩) hty0 hty1 hu huy hnz hs (hlen w) hfit (v2 w rfl) (by rw [add_at]; exact g1)
                  have hbr : BR P m C sz (.cells (lapp old new) ce true) (.cells cur' ce (lo, hi)) := by
                    rw [lapp_eq]
                    refine .cells _ ce true _ lo hi (by rw [g3, hC]) hsz2 (by rw [hsum, Nat.add_mul]; omega) (fun h => by cases h) ?_ hcl.free hcl.mark
                    have hcl2 : cur'.toList.length = cur'.size := Array.length_toList
                    refine VRs.ofNth (by rw [List.length_take]; rw [hsum, Nat.add_mul]; omega) fun i v hiv => ?_
                    have hi1 : i < (old ++ new).length := (List.getElem?_eq_some_iff.1 hiv).1
                    rw [List.getElem?_take, if_pos hi1, Array.getElem?_toList, g4 i]
                    by_cases ho2 : i < old.length
                    · rw [List.getElem?_append_left ho2] at hiv
                      rw [if_neg (by omega)]
                      obtain ⟨e1, e2, e3⟩ := seg_some hold
                      rw [e1, List.drop_zero, List.getElem?_take] at hiv
                      split at hiv
                      · exact hcl.nth hiv
                      · cases hiv
                    · rw [List.getElem?_append_right (by omega)] at hiv
                      rw [List.length_append] at hi1
                      rw [if_pos (by omega)]
                      have : i - (0 + len * P.cellsOf ce + 0) = i - old.length := by omega
                      rw [this]
                      exact v1.nth hiv
                  obtain ⟨r1, r2⟩ := r.move hlt hcl.live hst hf0 g2 g6 g5 g7 g8 g9 hbr
                  refine ⟨.value (.slice (some ⟨b, 0, none⟩) (len + n) cp), w', _, by rw [hrun]; simp only [Sem.run_bind, hr, Result.andThen_ok]; rfl, .inl ⟨_, rfl, ?_⟩, r1, r2⟩
                  refine .sl _ _ _ _ _ _ ?_ hfit (fun k hk => by cases hk) (fun _ => ?_)
                  · unfold AR Mp.bind; simp
                  · unfold CR Mp.bind; simp; exact hcu
                · -- it moves
                  obtain ⟨nc, w', g1, g2, g3, g4, g5, g6⟩ := run_append_grow (P := P) (rt := o.type) (base := some ⟨b, 0, none⟩) hty0 hty1 hu huy hnz hs hb (hlen w) (by omega) hbig hz1 hold' v2
                  have hk := (r.kill (id := id) q1.nv).resolve_right (by omega)
                  have hks := Stp.kill (w := w) q1.ne q1.nv hlt hst
                  have hbr := br_grown (P := P) (old' := old'.toArray) (n := len + n) (by simpa using w2) v1 hsum hzs g1
                  rw [← lapp_eq] at hbr
                  have hf1 : (m.bind id .dead) (s.put id .dfr).nx = .un := by
                    show (m.bind id .dead) s.nx = .un
                    unfold Mp.bind; rw [if_neg (by omega)]; exact hf0
                  refine ⟨.value (.slice (some ⟨w.heap.size, 0, none⟩) (len + n) nc), w', _, by rw [hrun]; simp only [Sem.run_bind, g2, Result.andThen_ok]; rfl, .inl ⟨_, rfl, ?_⟩,
                    hk.new hB hf1 g3 (hbr.mono (Ext.kill q1.ne q1.nv)), hks.trans (Stp.new hf1 g3 g4 g5 g6)⟩
                  refine .sl _ _ _ _ _ _ ?_ g1 (fun k hk => by cases hk) (fun _ => ?_)
                  · unfold AR Mp.bind; simp
                  · unfold CR Mp.bind; simp
            · cases h
        · cases h
      · cases h
    · cases h
  · cases h
end Go.Ab
