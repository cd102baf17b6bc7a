/- THE ABSTRACT EVALUATOR: what stands in slices.SortFunc's place: entries of a map, under their names, each a number and a text, sorted by the number. -/
import Derived.Test.YtpangpggplacoaaGreatAbOvB
import Derived.Shelf.GgSortFunc.RowK
namespace Go.Ab
open Go.Sort
variable {P : Program} {B : Nat}

noncomputable section
/-- the names, in the order in which they were handed out -/
def pairsA (it : Nat) (vs : List Nat) : List AV := List.rec [] (fun i _ ih => lapp ih [.var i it, .var (i + 1) it]) vs
def ent1 (k v : AV) : Option (Int × List Nat) :=
  match k, v with
  | .int .i64 n, .str b => some (n, b)
  | _, _ => none
def insS (x : Int × List Nat) (l : List (Int × List Nat)) : List (Int × List Nat) := List.rec [x] (fun y r ih => bif iblt x.1 y.1 then x :: y :: r else y :: ih) l
def insO (r : Option (List (Int × List Nat))) : Option (Int × List Nat) → Option (List (Int × List Nat))
  | some x => match r with | some r => some (insS x r) | none => none
  | none => none
def sortS (l : List AE) : Option (List (Int × List Nat)) := List.rec (some []) (fun e _ ih => insO ih (ent1 e.k e.v)) l
/-- rising -/
def ascS (l : List (Int × List Nat)) : Bool := List.rec true (fun x r ih => bif (List.rec true (fun y _ _ => iblt x.1 y.1) r : Bool) then ih else false) l
def cellsS (l : List (Int × List Nat)) : List AV := List.rec [] (fun x _ ih => .int .i64 x.1 :: .str x.2 :: ih) l
def ovSortC (s : St) (id n it : Nat) (cs : List AV) (e : TypeId) (o : Bool) (vs : List Nat) (es : List AE) : Option (List (Int × List Nat)) → Option (AV × St)
  | some l => bif avEqL 400 cs (pairsA it vs) && Nat.beq (llen vs) (llen es) && Nat.beq (llen vs) n && Nat.blt n 13 && ascS l then some (.tup [], s.put id (.cells (cellsS l) e o)) else none
  | none => none
def ovSortB (T : TypeId) (s : St) (id n : Nat) : Option (AV × St) :=
  match s.at id with
  | some (.cells (.var i it :: cs) e o) => bif Nat.beq e T then (match s.at it with
    | some (.iterN _ _ es vs _) => ovSortC s id n it (.var i it :: cs) e o vs es (sortS es)
    | _ => none) else none
  | _ => none
def ovSort (T : TypeId) (g : FuncId) (args : List AV) (s : St) : Option (AV × St) :=
  match args with
  | [.sl id 0 n _, .fn (.func f) [] []] => bif Nat.beq f g then ovSortB T s id n else none
  | _ => none
end

/-- an entry's two cells -/
def encP (x : Int × ByteArray) : List Value := [.int .i64 x.1, .string x.2]
def ltP (x y : Int × ByteArray) : Bool := decide (x.1 < y.1)

theorem insS_perm (x : Int × List Nat) : ∀ l, (insS x l).Perm (x :: l) := by
  intro l
  induction l with
  | nil => exact List.Perm.refl _
  | cons y r ih =>
    show (bif iblt x.1 y.1 then x :: y :: r else y :: insS x r).Perm _
    cases iblt x.1 y.1 with
    | true => exact List.Perm.refl _
    | false => exact (ih.cons y).trans (List.Perm.swap x y r)

/-- what the entries are, as numbers and texts -/
inductive EN : List AE → List (Int × List Nat) → Prop
  | nil : EN [] []
  | cons (e : AE) (n : Int) (b : List Nat) (l : List AE) (r : List (Int × List Nat)) (hk : e.k = .int .i64 n) (hv : e.v = .str b) (h : EN l r) : EN (e :: l) ((n, b) :: r)
theorem sortS_some : ∀ {l : List AE} {r : List (Int × List Nat)}, sortS l = some r → ∃ q, EN l q ∧ r.Perm q := by
  intro l
  induction l with
  | nil => intro r h; cases h; exact ⟨[], .nil, List.Perm.refl _⟩
  | cons e l ih =>
    intro r h
    replace h : insO (sortS l) (ent1 e.k e.v) = some r := h
    cases he : ent1 e.k e.v with
    | none => rw [he] at h; cases h
    | some x =>
      rw [he] at h
      cases hs : sortS l with
      | none => rw [hs] at h; cases h
      | some r' =>
        rw [hs] at h
        cases h
        obtain ⟨q, h1, h2⟩ := ih hs
        unfold ent1 at he
        split at he
        · rename_i n b hk hv
          cases he
          exact ⟨(n, b) :: q, .cons e n b l q hk hv h1, (insS_perm _ _).trans (h2.cons _)⟩
        · cases he
theorem EN.nth : ∀ {l : List AE} {q : List (Int × List Nat)}, EN l q → l.length = q.length ∧ ∀ (j : Nat) (e : AE), l[j]? = some e → ∃ n b, q[j]? = some (n, b) ∧ e.k = .int .i64 n ∧ e.v = .str b := by
  intro l q h
  induction h with
  | nil => exact ⟨rfl, fun j e h => (by cases h)⟩
  | cons e n b l r hk hv _ ih =>
    refine ⟨by simp [ih.1], fun j f hf => ?_⟩
    cases j with
    | zero => cases hf; exact ⟨n, b, rfl, hk, hv⟩
    | succ j => exact ih.2 j f (by simpa using hf)
theorem ascS_pairwise : ∀ {l : List (Int × List Nat)}, ascS l = true → l.Pairwise (fun x y => x.1 < y.1) := by
  intro l
  induction l with
  | nil => intro _; exact .nil
  | cons x r ih =>
    intro h
    replace h : (bif (List.rec true (fun y _ _ => iblt x.1 y.1) r : Bool) then ascS r else false) = true := h
    cases r with
    | nil => exact List.pairwise_singleton _ _
    | cons y r =>
      replace h : (bif iblt x.1 y.1 then ascS (y :: r) else false) = true := h
      cases hb : iblt x.1 y.1 with
      | false => rw [hb] at h; cases h
      | true =>
        rw [hb] at h
        have hp := ih h
        rw [iblt_eq, decide_eq_true_eq] at hb
        refine List.pairwise_cons.2 ⟨fun z hz => ?_, hp⟩
        rcases List.mem_cons.1 hz with rfl | hz
        · exact hb
        · have := (List.pairwise_cons.1 hp).1 z hz
          omega
theorem cellsS_eq (l : List (Int × List Nat)) : cellsS l = l.flatMap fun x => [AV.int .i64 x.1, AV.str x.2] := by
  induction l with
  | nil => rfl
  | cons x l ih => show AV.int .i64 x.1 :: AV.str x.2 :: cellsS l = _; rw [ih]; rfl
theorem pairsA_eq (it : Nat) (vs : List Nat) : pairsA it vs = vs.reverse.flatMap fun i => [AV.var i it, AV.var (i + 1) it] := by
  induction vs with
  | nil => rfl
  | cons i l ih => show lapp (pairsA it l) [AV.var i it, AV.var (i + 1) it] = _; rw [ih, lapp_eq]; simp

theorem flat2 : ∀ (D : List (Int × ByteArray)) (t : Nat), (D.flatMap encP)[t]? = (D[t / 2]?).bind (fun x => (encP x)[t % 2]?) := by
  intro D
  induction D with
  | nil => intro t; simp
  | cons x D ih =>
    intro t
    rw [List.flatMap_cons]
    match t with
    | 0 => rfl
    | 1 => rfl
    | t + 2 =>
      have h1 : (t + 2) / 2 = t / 2 + 1 := by omega
      have h2 : (t + 2) % 2 = t % 2 := by omega
      rw [h1, h2, List.getElem?_cons_succ, ← ih t]
      rfl
theorem flat2_len (D : List (Int × ByteArray)) : (D.flatMap encP).length = D.length * 2 := by
  induction D with
  | nil => rfl
  | cons x D ih => rw [List.flatMap_cons, List.length_append, ih]; simp [encP]; omega
theorem flatK_eq (D : List (Int × ByteArray)) : (flatK encP 2 D.toArray).toList = D.flatMap encP := by
  apply List.ext_getElem?
  intro t
  rw [flat2]
  by_cases ht : t < D.length * 2
  · have h1 : t / 2 < D.length := by omega
    have h2 : (flatK encP 2 D.toArray)[t]! = (encP (D.toArray[t / 2]!))[t % 2]! := get_flatK encP 2 D.toArray t (by simpa using ht)
    have h3 : t < (flatK encP 2 D.toArray).size := by simpa using ht
    rw [getElem!_pos _ t h3] at h2
    rw [Array.getElem?_toList, Array.getElem?_eq_getElem h3, h2, List.getElem?_eq_getElem h1]
    have h4 : D.toArray[t / 2]! = D[t / 2] := by rw [getElem!_pos D.toArray (t / 2) (by simpa using h1)]; simp
    rw [h4]
    simp only [Option.bind_some]
    have h5 : t % 2 < (encP D[t / 2]).length := by simp [encP]; omega
    rw [getElem!_pos (encP D[t / 2]) (t % 2) h5, List.getElem?_eq_getElem h5]
  · rw [Array.getElem?_toList, Array.getElem?_eq_none (by simp; omega), List.getElem?_eq_none (by omega)]
    rfl

def enB (x : Int × ByteArray) : Int × List Nat := (x.1, x.2.data.toList.map UInt8.toNat)
/-- what the names stand for -/
theorem hd_row {m : Mp} {es : List AE} {q : List (Int × List Nat)} (hq : EN es q) {it : Nat} {vs js : List Nat} (h : Hd m es vs js) : ∀ (vals : List Value), VRs m (pairsA it vs) vals →
    ∃ D : List (Int × ByteArray), D.length = vs.length ∧ vals = D.flatMap encP ∧ D.map enB = js.reverse.map (fun j => q[j]!) := by
  induction h with
  | nil => intro vals hv; cases hv; exact ⟨[], rfl, rfl, rfl⟩
  | cons i vs j js e x y he hx hy mi mj _ ih =>
    intro vals hv
    have hpa : pairsA it (i :: vs) = pairsA it vs ++ [AV.var i it, AV.var (i + 1) it] := by rw [pairsA_eq, pairsA_eq]; simp
    rw [hpa] at hv
    have hlen := hv.length
    rw [List.length_append] at hlen
    simp only [List.length_cons, List.length_nil] at hlen
    have h1 := hv.take (pairsA it vs).length
    rw [List.take_left] at h1
    have h2 := hv.drop (pairsA it vs).length
    rw [List.drop_left] at h2
    obtain ⟨D, d1, d2, d3⟩ := ih _ h1
    obtain ⟨n, b, g1, g2, g3⟩ := hq.nth.2 j e he
    generalize hvd : vals.drop (pairsA it vs).length = vd at h2
    cases h2 with
    | cons _ v1 _ _ hv1 h2 =>
    cases h2 with
    | cons _ v2 _ _ hv2 h2 =>
    cases h2
    cases hv1 with
    | var _ _ _ k1 _ _ =>
    cases hv2 with
    | var _ _ _ k2 _ _ =>
    rw [mi] at k1; rw [mj] at k2
    obtain rfl := Bd.val.inj k1
    obtain rfl := Bd.val.inj k2
    rw [g2] at hx; rw [g3] at hy
    cases hx
    cases hy with
    | str _ sb hsb =>
    refine ⟨D ++ [(n, sb)], by simp [d1], ?_, ?_⟩
    · rw [← List.take_append_drop (pairsA it vs).length vals, hvd, d2]
      simp [encP]
    · rw [List.map_append, d3, List.reverse_cons, List.map_append]
      congr 1
      have : q[j]! = (n, b) := by
        have hlt := (List.getElem?_eq_some_iff.1 g1)
        rw [getElem!_pos q j hlt.1, hlt.2]
      simp only [List.map_cons, List.map_nil, this, enB, hsb]
theorem asc_eq : ∀ {x y : List (Int × List Nat)}, x.Pairwise (fun a b => a.1 < b.1) → y.Pairwise (fun a b => a.1 < b.1) → x.Perm y → x = y := by
  intro x
  induction x with
  | nil => intro y _ _ h; exact (List.nil_perm.1 h).symm
  | cons a x ih =>
    intro y hx hy h
    cases y with
    | nil => exact absurd h.length_eq (by simp)
    | cons b y =>
      obtain ⟨ha, hx⟩ := List.pairwise_cons.1 hx
      obtain ⟨hb, hy2⟩ := List.pairwise_cons.1 hy
      have hab : a = b := by
        have m1 : a ∈ b :: y := h.subset (by simp)
        have m2 : b ∈ a :: x := h.symm.subset (by simp)
        rcases List.mem_cons.1 m1 with e | e
        · exact e
        · rcases List.mem_cons.1 m2 with e' | e'
          · exact e'.symm
          · have := hb a e; have := ha b e'; omega
      subst hab
      rw [ih hx hy2 (List.Perm.cons_inv h)]
theorem cellsS_vr {m : Mp} (D : List (Int × ByteArray)) : VRs m (cellsS (D.map enB)) (D.flatMap encP) := by
  induction D with
  | nil => exact .nil
  | cons x D ih => exact .cons _ _ _ _ (.int _ _) (.cons _ _ _ _ (.str _ _ rfl) ih)
theorem pairs_len (it : Nat) (vs : List Nat) : (pairsA it vs).length = vs.length * 2 := by
  induction vs with
  | nil => rfl
  | cons i l ih => show (lapp (pairsA it l) [AV.var i it, AV.var (i + 1) it]).length = _; rw [lapp_eq, List.length_append, ih]; simp; omega
theorem cellsS_len (l : List (Int × List Nat)) : (cellsS l).length = l.length * 2 := by
  induction l with
  | nil => rfl
  | cons x l ih => show (cellsS l).length + 1 + 1 = _; rw [ih]; simp; omega

/-- what is asked of the sort, laid at the program -/
def SortOk (P : Program) (f g : FuncId) : Prop :=
  ∀ (b cap : Nat) (d : Array (Int × ByteArray)) (w : World), HoldsK encP 2 w b 0 d → b < w.heap.size → d.size ≤ 12 →
    Calls P f #[.slice (some ⟨b, 0, none⟩) d.size cap, .func (.func g) #[] #[]] w fun e w' => e = .returned (.tuple #[]) ∧ ∃ d' n os, PermIn 0 d.size d d' ∧ SortedIn ltP 0 d.size d' ∧ w' = grow (putRowK encP 2 (Sort.ahead w n) b 0 d') os

theorem ovSort_ok {f g : FuncId} {T : TypeId} (hE : Enters P f) (hS : SortOk P f g) : CallOk P B f (ovSort T g) := by
  intro args s v s' h
  unfold ovSort at h
  split at h
  · rename_i id n cap g'
    rw [beq_nat] at h
    by_cases hg : g' = g
    · subst hg
      rw [beq_self_eq_true] at h
      simp only [cond_true] at h
      unfold ovSortB at h
      split at h
      · rename_i i it cs e o hst
        rw [beq_nat] at h
        by_cases he : e = T
        · subst he
          rw [beq_self_eq_true] at h
          simp only [cond_true] at h
          split at h
          · rename_i mid since es vs stepped hit
            unfold ovSortC at h
            split at h
            · rename_i l hsl
              cases hcond : (avEqL 400 (.var i it :: cs) (pairsA it vs) && Nat.beq (llen vs) (llen es) && Nat.beq (llen vs) n && Nat.blt n 13 && ascS l) with
              | false => rw [hcond] at h; cases h
              | true =>
                rw [hcond] at h
                simp only [cond_true, Option.some.injEq, Prod.mk.injEq] at h
                obtain ⟨rfl, rfl⟩ := h
                simp only [Bool.and_eq_true, beq_nat, beq_iff_eq, llen_eq, blt_nat, decide_eq_true_eq] at hcond
                obtain ⟨⟨⟨⟨c1, c2⟩, c3⟩, c4⟩, c5⟩ := hcond
                have hcs := avEqL_eq _ _ _ c1
                refine ⟨hE, Nat.le_refl _, fun m w args' hB r hv hf => ?_⟩
                obtain ⟨arr0⟩ := args'
                cases hv with
                | cons _ x1 _ l' hx1 hl =>
                cases hl with
                | cons _ x2 _ l' hx2 hl =>
                cases hl
                cases hx1 with
                | sl _ _ _ _ ad c har hlc hcap hcu =>
                cases hx2 with
                | fn _ gf _ _ fx fy hfn hfx hfy =>
                cases gf with
                | func g2 =>
                  obtain rfl : g' = g2 := hfn
                  obtain rfl : fx = #[] := Array.toList_inj.1 (by generalize fx.toList = q at hfx; cases hfx; rfl)
                  obtain rfl : fy = #[] := Array.toList_inj.1 (by generalize fy.toList = q at hfy; cases hfy; rfl)
                  obtain ⟨hlt, b, C, sz, arr, lo, hi, hcl⟩ := r.cells har.ne hst
                  obtain rfl := har.eq hcl.live
                  obtain ⟨v0, v1, v2⟩ := hcl.nth (i := 0) (v := .var i it) rfl
                  have hitn : m it ≠ .un := by cases v2 with | var _ _ _ _ _ hk => exact hk
                  obtain ⟨bi, Ci, szi, oi, hlti, hli, hhi, hbri⟩ := r.live hitn hit (by intro h; cases h)
                  cases hbri with
                  | iterN _ mb _ _ _ js seen' _ hmr hj hse hd =>
                  obtain ⟨q, hq1, hq2⟩ := sortS_some hsl
                  have hvr := hcl.vr
                  rw [hcs] at hvr
                  obtain ⟨D, d1, d2, d3⟩ := hd_row hq1 hd _ hvr
                  have hDn : D.length = n := d1.trans c3
                  have hbase := r.base _ _ _ _ hcl.live
                  have hlen2 : (pairsA it vs).length = n * 2 := by rw [pairs_len, c3]
                  have hC := hcl.hC
                  have hle : n * 2 ≤ arr.size := by have := hcl.le; rw [hcs, hlen2] at this; omega
                  rw [hlen2] at d2
                  have hcell : ∀ t, t < n * 2 → arr[t]? = (D.flatMap encP)[t]? := fun t ht => by
                    rw [← d2, List.getElem?_take, if_pos ht, Array.getElem?_toList]
                  have hH : HoldsK encP 2 w b 0 D.toArray := by
                    intro t ht
                    rw [size_flatK] at ht
                    have ht' : t < n * 2 := by simp only [List.size_toArray] at ht; omega
                    constructor
                    · rw [Nat.zero_add, hcl.cell, hcell t ht', ← flatK_eq, Array.getElem?_toList]
                      have h3 : t < (flatK encP 2 D.toArray).size := by rw [size_flatK]; exact ht
                      rw [Array.getElem?_eq_getElem h3, getElem!_pos _ t h3]; rfl
                    · unfold World.frozen?
                      rw [hcl.heap]
                      have := hcl.free t (by rw [← hC]; omega)
                      rw [Bool.eq_false_iff]; intro hh
                      simp only [Nat.zero_add, Bool.and_eq_true, decide_eq_true_eq] at hh
                      exact this hh
                  have hcall := hS b c D.toArray w hH hbase.2 (by simp; omega)
                  rw [show D.toArray.size = n by simp [hDn]] at hcall
                  refine callsIn_wide.2 (hcall.mono fun en w' hr => ?_)
                  obtain ⟨rfl, d', k, os, hp, hso, rfl⟩ := hr
                  obtain ⟨ps, _, pp⟩ := hp
                  have hds : d'.size = n := by rw [ps]; simp [hDn]
                  have hperm : d'.toList.Perm D := by
                    have e1 : d'.extract 0 n = d' := by rw [← hds]; simp
                    have e2 : (D.toArray).extract 0 n = D.toArray := by rw [← hDn]; simp
                    rw [e1, e2] at pp
                    simpa using pp
                  -- the places handed out are all places
                  have hjs : js.reverse.Perm (List.range es.length) := by
                    have hall := (nodup_all es.length js hj hd.lt).2 (by rw [hd.length, c2])
                    refine (List.perm_ext_iff_of_nodup ((List.reverse_perm js).nodup_iff.2 hj) List.nodup_range).2 fun a => ?_
                    rw [List.mem_reverse, List.mem_range]
                    exact ⟨fun h => hd.lt a h, fun h => hall a h⟩
                  have hqr : (List.range es.length).map (fun j => q[j]!) = q := by
                    apply List.ext_getElem?
                    intro j
                    rw [hq1.nth.1, List.getElem?_map]
                    by_cases hjq : j < q.length
                    · rw [List.getElem?_range hjq, Option.map_some, getElem!_pos q j hjq, List.getElem?_eq_getElem hjq]
                    · rw [List.getElem?_eq_none (by simpa using hjq), List.getElem?_eq_none (by omega)]; rfl
                  have hDl : (d'.toList.map enB).Perm l := by
                    refine ((hperm.map enB).trans ?_).trans hq2.symm
                    rw [d3, ← hqr, hqr]
                    have := hjs.map (fun j => q[j]!)
                    rwa [hqr] at this
                  have hla := ascS_pairwise c5
                  have hnd : (l.map Prod.fst).Nodup := by
                    rw [List.nodup_iff_pairwise_ne, List.pairwise_map]
                    exact hla.imp fun h => by omega
                  have hnd' : ((d'.toList.map enB).map Prod.fst).Nodup := (hDl.map Prod.fst).nodup_iff.2 hnd
                  have hda : (d'.toList.map enB).Pairwise (fun a b => a.1 < b.1) := by
                    rw [List.pairwise_iff_getElem]
                    intro i j hi hj hij
                    have hi' : i < d'.size := by simpa using hi
                    have hj' : j < d'.size := by simpa using hj
                    have h1 := hso i j (Nat.zero_le _) hij (by rw [← hds]; exact hj')
                    unfold ltP at h1
                    rw [getElem!_pos d' i hi', getElem!_pos d' j hj', decide_eq_false_iff_not] at h1
                    have h2 : (d'.toList.map enB)[i].1 = d'[i].1 := by simp [enB]
                    have h3 : (d'.toList.map enB)[j].1 = d'[j].1 := by simp [enB]
                    rw [h2, h3]
                    have h4 : d'[i].1 ≠ d'[j].1 := by
                      intro h
                      have := (List.pairwise_iff_getElem.1 (List.nodup_iff_pairwise_ne.1 hnd')) i j (by simpa using hi') (by simpa using hj') hij
                      simp [enB] at this
                      exact this h
                    omega
                  have hleq : l = d'.toList.map enB := (asc_eq hda hla hDl).symm
                  have hfl : (flatK encP 2 d').toList = d'.toList.flatMap encP := by have := flatK_eq d'.toList; simpa using this
                  -- the worlds
                  have r1 : R P B m s (Sort.ahead w k) := r.same rfl
                  have st1 : Stp m s w m s (Sort.ahead w k) := Stp.same rfl rfl rfl rfl
                  have hheap2 : (putRowK encP 2 (Sort.ahead w k) b 0 d').heap = w.heap.modify b (onCells (putCells (fun v => v) 0 (flatK encP 2 d'))) := rfl
                  have hb2 : (putRowK encP 2 (Sort.ahead w k) b 0 d').heap[b]? = some (.cells (putCells (fun v => v) 0 (flatK encP 2 d') arr) e (lo, hi)) := by
                    rw [hheap2, Array.getElem?_modify, if_pos rfl, hcl.heap]; rfl
                  have hs2 : (putRowK encP 2 (Sort.ahead w k) b 0 d').heap.size = (Sort.ahead w k).heap.size := by rw [hheap2]; simp
                  have hn2 : ∀ c, c ≠ b → (putRowK encP 2 (Sort.ahead w k) b 0 d').heap[c]? = (Sort.ahead w k).heap[c]? := fun c hc => by
                    rw [hheap2, Array.getElem?_modify, if_neg (Ne.symm hc)]; rfl
                  have hpc : (putCells (fun v => v) 0 (flatK encP 2 d') arr).size = arr.size := by simp [putCells]
                  have hbr : BR P m C sz (.cells (cellsS l) e o) (.cells (putCells (fun v => v) 0 (flatK encP 2 d') arr) e (lo, hi)) := by
                    have hll : l.length = n := by rw [hleq]; simp [hds]
                    refine .cells _ e o _ lo hi (by rw [hpc]; exact hC) hcl.hsz (by rw [cellsS_len, hll]; omega) (fun ho => by rw [cellsS_len, hll, ← hlen2, ← hcs]; exact hcl.all ho) ?_ hcl.free hcl.mark
                    have htake : (putCells (fun v => v) 0 (flatK encP 2 d') arr).toList.take (cellsS l).length = d'.toList.flatMap encP := by
                      rw [cellsS_len, hll, ← hfl]
                      apply List.ext_getElem?
                      intro t
                      rw [List.getElem?_take]
                      have hfs : (flatK encP 2 d').size = n * 2 := by rw [size_flatK, hds]
                      by_cases ht : t < n * 2
                      · rw [if_pos ht, Array.getElem?_toList, Array.getElem?_toList]
                        unfold putCells
                        rw [Array.getElem?_mapIdx, Array.getElem?_eq_getElem (by omega : t < arr.size), Option.map_some, if_pos ⟨Nat.zero_le _, by rw [hfs]; omega⟩,
                          Array.getElem?_eq_getElem (by rw [hfs]; exact ht), Nat.sub_zero, getElem!_pos (flatK encP 2 d') t (by rw [hfs]; exact ht)]
                      · rw [if_neg ht, Array.getElem?_toList, Array.getElem?_eq_none (by rw [hfs]; omega)]
                    rw [htake, hleq]
                    exact cellsS_vr _
                  have r2 := r1.put (w' := putRowK encP 2 (Sort.ahead w k) b 0 d') hlt hcl.live hb2 hs2 hn2 hbr
                  have st2 := Stp.put (m := m) (s := s) (w := Sort.ahead w k) (w' := putRowK encP 2 (Sort.ahead w k) b 0 d') (x := .cells (cellsS l) e o) hlt hcl.live (by rw [hst]; intro h; cases h) hs2 hn2 rfl rfl rfl
                  have hbel : RowKit.Below (putRowK encP 2 (Sort.ahead w k) b 0 d').heap.size (putRowK encP 2 (Sort.ahead w k) b 0 d') (grow (putRowK encP 2 (Sort.ahead w k) b 0 d') os) :=
                    ⟨rfl, rfl, rfl, by simp [grow], fun c hc => by show (_ ++ os)[c]? = _; rw [Array.getElem?_append_left hc]⟩
                  obtain ⟨r3, st3⟩ := r2.below hbel
                  exact ⟨_, m, rfl, .tup _ _ .nil, r3, st1.trans (st2.trans st3)⟩
                | _ => exact hfn.elim
            · cases h
          · cases h
        · rw [beq_eq_false_iff_ne.2 he] at h; cases h
      · cases h
    · rw [beq_eq_false_iff_ne.2 hg] at h; cases h
  · cases h
end Go.Ab
