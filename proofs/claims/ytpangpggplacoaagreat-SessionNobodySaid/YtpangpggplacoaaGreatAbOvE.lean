/- THE ABSTRACT EVALUATOR: slices.Insert's and strings.Join's stand-ins are sound. -/
import Derived.Test.YtpangpggplacoaaGreatAbOvD
namespace Go.Ab
variable {P : Program} {B : Nat}

theorem ovIns_ok {f : FuncId} {K : Nat} {T : TypeId} {rc : RC} (hE : Enters P f) (hI : InsOk P f K T) (hK : P.cellsOf T = K) (hT : P.underlying T ≠ some (.int .u8)) (hrc : RcOk P B rc) : CallOk P B f (ovIns f K T rc) := by
  intro args s v s' h
  unfold ovIns at h
  split at h
  · rename_i id n vid vcap
    unfold insB at h
    split at h
    · rename_i cs e o hst
      split at h
      · rename_i vs e' hst2
        cases hcond : (Nat.beq e T && Nat.beq e' T && !Nat.beq id vid && Nat.blt 0 n && Nat.blt n 65536 && Nat.beq (llen vs) K) with
        | false => rw [hcond] at h; cases h
        | true =>
          rw [hcond] at h
          simp only [cond_true] at h
          simp only [Bool.and_eq_true, beq_nat, beq_iff_eq, blt_nat, decide_eq_true_eq, llen_eq, Bool.not_eq_true', beq_eq_false_iff_ne] at hcond
          obtain ⟨⟨⟨⟨⟨he, he'⟩, hne⟩, hn0⟩, hn1⟩, hvl⟩ := hcond
          rw [he] at hst; rw [he'] at hst2
          clear he he'
          unfold insC at h
          split at h
          · rename_i old htk
            obtain ⟨hle, rfl⟩ := takeE_some htk
            rw [lall_eq, lall_eq] at h
            cases hone : ((cs.take (n * K)).all oneA && vs.all oneA) with
            | false => rw [hone] at h; cases h
            | true =>
              rw [hone] at h
              cases h
              rw [Bool.and_eq_true] at hone
              obtain ⟨ho1, ho2⟩ := hone
              refine ⟨hE, by simp, fun m w args' hB r hv hf => ?_⟩
              obtain ⟨arr0⟩ := args'
              cases hv with
              | cons _ x1 _ l' hx1 hl =>
              cases hl with
              | cons _ x2 _ l' hx2 hl =>
              cases hl with
              | cons _ x3 _ l' hx3 hl =>
              cases hl
              cases hx1 with
              | sl _ _ _ _ ad c har hlc hcap hcu =>
              cases hx2 with
              | int _ _ =>
              cases hx3 with
              | sl _ _ _ _ ad2 c2 har2 hlc2 hcap2 hcu2 =>
              obtain ⟨hlt, b, C, sz, arr, lo, hi, hcl⟩ := r.cells har.ne hst
              obtain ⟨hlt2, vb, C2, sz2, varr, lo2, hi2, hcl2⟩ := r.cells har2.ne hst2
              obtain rfl := har.eq hcl.live
              obtain rfl := har2.eq hcl2.live
              have hvb : vb ≠ b := fun e => by
                subst e
                exact hne (r.inj _ _ _ _ _ _ _ hcl.live hcl2.live)
              have hcu' := hcu rfl
              unfold CR at hcu'
              rw [hcl.live] at hcu'
              simp only [Nat.zero_add] at hcu'
              have hC := hcl.hC
              have hsz : sz = K := by rw [hcl.hsz, hK]
              rw [hsz] at hcu'
              have hvs : varr.size = K := by rw [hcl2.hC, ← hcl2.all rfl, hvl]
              have hm1 : hi ≤ lo := hcl.mark.resolve_left hT
              have hm2 : hi2 ≤ lo2 := hcl2.mark.resolve_left hT
              have hnK : n * K ≤ arr.size := by rw [hC]; exact Nat.le_trans hle hcl.le
              have hold : VRs m (cs.take (n * K)) (arr.toList.take (n * K)) := by
                have := hcl.vr.take (n * K)
                rwa [List.take_take, Nat.min_eq_left hle] at this
              have hnew : VRs m vs varr.toList := by
                have := hcl2.vr
                rwa [hvl, ← hvs, ← Array.length_toList, List.take_length] at this
              have hcall := hI b n c vb c2 lo hi lo2 hi2 arr varr w hcl.heap hcl2.heap hvb hn0 hn1 hlc (by rw [hcu', hC]) hvs hm1 hm2 (hold.one ho1) (hnew.one ho2)
              refine callsIn_wide.2 (hcall.mono fun en w' hr => ?_)
              obtain ⟨q1, q2, q3, hr⟩ := hr
              have hf0 : m s.nx = .un := hf s.nx (Nat.le_refl _) (by simp)
              have hlen : (lapp vs (cs.take (n * K))).length = (n + 1) * K := by
                rw [lapp_eq, List.length_append, hvl, List.length_take, Nat.min_eq_left hle, Nat.add_mul]; omega
              rcases hr with ⟨rfl, hr1, hr2, hr3, arr', hr4, hr5, hr6⟩ | ⟨G, arr', rfl, hr1, hr2, hr3, hr4⟩
              · have hbr : BR P m C sz (.cells (lapp vs (cs.take (n * K))) T true) (.cells arr' T (lo, hi)) := by
                  refine .cells _ T true _ lo hi (by rw [hr5, hC]) hcl.hsz ?_ (fun h => by cases h) ?_ hcl.free hcl.mark
                  · rw [hlen, ← hcu']; exact Nat.mul_le_mul_right _ hr1
                  · rw [hlen, hr6, lapp_eq]; exact hnew.app hold
                obtain ⟨r1, r2⟩ := r.move hlt hcl.live hst hf0 hr4 hr2 hr3 q1 q2 q3 hbr
                refine ⟨_, _, rfl, ?_, r1, r2⟩
                refine .sl _ _ _ _ _ _ ?_ hr1 (fun k hk => by cases hk) (fun _ => ?_)
                · unfold AR Mp.bind; simp
                · unfold CR Mp.bind; simp; rw [hsz]; exact hcu'
              · have hk := (r.kill (id := id) har.nv).resolve_right (by omega)
                have hks := Stp.kill (w := w) har.ne har.nv hlt hst
                have hbr : BR P m arr'.size K (.cells (lapp vs (cs.take (n * K))) T true) (.cells arr' T) := by
                  refine .cells _ T true _ 0 0 rfl hK.symm ?_ (fun h => by cases h) ?_ (fun i _ hh => Nat.not_lt_zero _ hh.2) (.inr (Nat.le_refl _))
                  · rw [hlen, hr3]; exact Nat.mul_le_mul_right _ hr1
                  · rw [hlen, hr4, lapp_eq]; exact hnew.app hold
                have hf1 : (m.bind id .dead) (s.put id .dfr).nx = .un := by
                  show (m.bind id .dead) s.nx = .un
                  unfold Mp.bind; rw [if_neg (by omega)]; exact hf0
                refine ⟨_, _, rfl, ?_, hk.new hB hf1 hr2 (hbr.mono (Ext.kill har.ne har.nv)), hks.trans (Stp.new hf1 hr2 q1 q2 q3)⟩
                refine .sl _ _ _ _ _ _ ?_ hr1 (fun k hk => by cases hk) (fun _ => ?_)
                · unfold AR Mp.bind; simp
                · unfold CR Mp.bind; simp; exact hr3.symm
          · cases h
      · cases h
    · cases h
  · exact hrc f args s v s' h

/-- what is asked of strings.Join -/
def JoinOk (P : Program) (f : FuncId) : Prop :=
  ∀ (b o c : Nat) (xs : List ByteArray) (w : World), (∀ (j : Nat) x, xs[j]? = some x → w.cell? ⟨b, o + j, none⟩ = some (.string x)) → b < w.heap.size → xs.length ≤ 65536 → xs.length ≤ c → (xs.flatMap (·.data.toList)).length ≤ 1048576 →
    Calls P f #[.slice (some ⟨b, o, none⟩) xs.length c, .string ⟨#[]⟩] w fun e w' => e = .returned (.string ⟨(xs.flatMap (·.data.toList)).toArray⟩) ∧ RowKit.Below w.heap.size w w'

theorem strs_vr {m : Mp} : ∀ {l : List AV} {vs : List Value} {bs : List Nat}, VRs m l vs → strsA l = some bs → ∃ xs : List ByteArray, vs = xs.map Value.string ∧ bs = (xs.flatMap (·.data.toList)).map UInt8.toNat := by
  intro l
  induction l with
  | nil => intro vs bs h hb; cases h; cases hb; exact ⟨[], rfl, rfl⟩
  | cons a l ih =>
    intro vs bs h hb
    cases h with
    | cons _ v' _ l' hx hl =>
    replace hb : strs1 (strsA l) a = some bs := hb
    unfold strs1 at hb
    split at hb
    · unfold strs2 at hb
      split at hb
      · rename_i b _ r hr
        cases hb
        obtain ⟨xs, h1, h2⟩ := ih hl hr
        cases hx with
        | str _ s e =>
        refine ⟨s :: xs, by rw [h1]; rfl, ?_⟩
        rw [lapp_eq, h2, List.flatMap_cons, List.map_append, e]
      · cases hb
    · cases hb
theorem ovJoin_ok {f : FuncId} (hE : Enters P f) (hJ : JoinOk P f) : CallOk P B f ovJoin := by
  intro args s v s' h
  unfold ovJoin at h
  split at h
  · rename_i id off n cap
    split at h
    · rename_i c e o hst
      unfold joinB at h
      split at h
      · rename_i l hsg
        split at h
        · rename_i bs hbs
          cases hcond : (Nat.ble (llen bs) 1048576 && Nat.blt 0 n && Nat.blt n 65536) with
          | false => rw [hcond] at h; cases h
          | true =>
            rw [hcond] at h
            simp only [cond_true, Option.some.injEq, Prod.mk.injEq] at h
            obtain ⟨rfl, rfl⟩ := h
            simp only [Bool.and_eq_true, ble_nat, blt_nat, decide_eq_true_eq, llen_eq] at hcond
            obtain ⟨⟨h1, h2⟩, h3⟩ := hcond
            refine ⟨hE, Nat.le_refl _, fun m w args' hB r hv hf => ?_⟩
            obtain ⟨arr0⟩ := args'
            cases hv with
            | cons _ x1 _ l' hx1 hl =>
            cases hl with
            | cons _ x2 _ l' hx2 hl =>
            cases hl
            cases hx1 with
            | sl _ _ _ _ ad cc har hlc hcap hcu =>
            cases hx2 with
            | str _ sp hsp =>
            obtain ⟨hlt, b, C, sz, arr, lo, hi, hcl⟩ := r.cells har.ne hst
            obtain rfl := har.eq hcl.live
            obtain rfl : sp = ⟨#[]⟩ := by
              obtain ⟨⟨q⟩⟩ := sp
              cases q with
              | nil => rfl
              | cons _ _ => cases hsp
            obtain ⟨g1, g2, g3⟩ := seg_some hsg
            have hvr : VRs m l ((arr.toList.drop off).take n) := by
              rw [g1]
              have := (hcl.vr.drop off).take n
              rw [List.drop_take, List.take_take] at this
              rcases g3 with g3 | g3
              · subst g3; simpa using this
              · rwa [Nat.min_eq_left (by omega)] at this
            obtain ⟨xs, k1, k2⟩ := strs_vr hvr hbs
            have hxl : xs.length = n := by
              have := congrArg List.length k1
              rw [← hvr.length, g2, List.length_map] at this
              exact this.symm
            have hcall := hJ b off cc xs w (fun j x hj => by
              rw [hcl.cell]
              have : ((arr.toList.drop off).take n)[j]? = some (Value.string x) := by rw [k1, List.getElem?_map, hj]; rfl
              rw [List.getElem?_take] at this
              split at this
              · rwa [List.getElem?_drop, Array.getElem?_toList] at this
              · cases this) (r.base _ _ _ _ hcl.live).2 (by omega) (by omega) (by rw [k2, List.length_map] at h1; exact h1)
            rw [hxl] at hcall
            refine callsIn_wide.2 (hcall.mono fun en w' hr => ?_)
            obtain ⟨rfl, hbel⟩ := hr
            obtain ⟨r1, st1⟩ := r.below hbel
            exact ⟨_, m, rfl, .str _ _ (by rw [k2]), r1, st1⟩
        · cases h
      · cases h
    · cases h
  · cases h
end Go.Ab
