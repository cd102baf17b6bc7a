/- slices.Insert of one cache item ahead of all others is what it says: in place where there is room, else in a new row. -/
import Derived.Test.YtpangpggplacoaaGreatAbOvD
import Derived.Sort.Row
import Derived.Shelf.Spec.SlicesInsertGrow
import Derived.Test.YtpangpggplacoaaGreatProg
namespace Go.Proofs
open Go.Shelf Go.RowKit Go.Lib Go.Ab

theorem Tryz.ov282 {w : World} {vb b o kA kB vc lb cb : Nat} {tA tB : TypeId} (hvb : vb ≠ b) (hsa : w.shape? vb = some (tA, kA)) (hsb : w.shape? b = some (tB, kB)) (hkB : kB ≠ 0) (hfa : w.frozen? ⟨vb, 0, none⟩ = false) (hfe : w.frozen? ⟨vb, kA, none⟩ = false) :
    (callFunc 282 #[.slice (some ⟨vb, 0, none⟩) 1 vc, .slice (some ⟨b, o, none⟩) lb cb]).run Tryz.prog w = .ok (.value (.bool false)) w := by
  rw [run_callFunc_extern Tryz.func282 (by kernel_rfl) (by kernel_rfl) (by kernel_rfl) (e := Extern.SlicesOverlaps.overlaps #[311, 311] #[4]) (by kernel_rfl),
    Lib.run_overlaps_apart w 311 4 316 Tryz.underlying311 3 Tryz.sizeOf316 ⟨vb, 0, none⟩ ⟨b, o, none⟩ 1 vc lb cb hvb tA tB kA kB hsa hsb hkB hfa hfe]
  rfl

set_option maxHeartbeats 4000000 in
set_option maxRecDepth 100000 in
theorem Tryz.ins_shift (b n c vb vc : Nat) (cs vs : List Value) (w : World) (hn : 0 < n) (hn2 : n < 65536) (hroom : n + 1 ≤ c) (hvb : vb ≠ b) (hcl : cs.length = n * 3) (hvl : vs.length = 3)
    (hcs : ∀ j v, cs[j]? = some v → w.cell? ⟨b, j, none⟩ = some v) (hsp : ∀ j, j < (n + 1) * 3 → (w.cell? ⟨b, j, none⟩).isSome = true) (hfz : ∀ j, j < (n + 1) * 3 → w.frozen? ⟨b, j, none⟩ = false)
    (hvs : ∀ j v, vs[j]? = some v → w.cell? ⟨vb, j, none⟩ = some v) (h1c : ∀ v ∈ cs, v.oneCell' = true) (h1v : ∀ v ∈ vs, v.oneCell' = true)
    (tA tB : TypeId) (kA kB : Nat) (hsa : w.shape? vb = some (tA, kA)) (hsb : w.shape? b = some (tB, kB)) (hkB : kB ≠ 0) (hfa : w.frozen? ⟨vb, 0, none⟩ = false) (hfe : w.frozen? ⟨vb, kA, none⟩ = false) :
    Calls Tryz.prog 227 #[.slice (some ⟨b, 0, none⟩) n c, .int .i64 0, .slice (some ⟨vb, 0, none⟩) 1 vc] w fun e w' =>
      e = .returned (.slice (some ⟨b, 0, none⟩) (n + 1) c) ∧ w' = (w.drew.setCells b 3 cs).setCells b 0 vs := by
  have mixed : Tryz.prog.follows .mixedOrders = true := by kernel_rfl
  have hz2 : ¬ ((0 : Int) = (n : Int)) := by omega
  have hov : ∀ lb cb o, (callFunc 282 #[.slice (some ⟨vb, 0, none⟩) 1 vc, .slice (some ⟨b, o, none⟩) lb cb]).run Tryz.prog w = .ok (.value (.bool false)) w := fun lb cb o => Tryz.ov282 hvb hsa hsb hkB hfa hfe
  have hs3 : (Tryz.prog.info? 316).map (·.size) = some 3 := by kernel_rfl
  have hcp1 : ∀ ty dc sc, (Builtin.copy_ #[311, 311] ty #[.slice (some ⟨b, 3, none⟩) n dc, .slice (some ⟨b, 0, none⟩) (n + 1) sc]).run Tryz.prog w.drew = .ok (goInt n) (w.drew.setCells b 3 cs) := fun ty dc sc =>
    run_copy_cellsK w.drew _ _ ty 316 b 3 n dc ⟨b, 0, none⟩ (n + 1) sc 3 n cs Tryz.underlying311 hs3 (by simp only [Nat.min_def]; split <;> omega) hcl
      (fun j v hj => by rw [Addr.add_lit, Nat.zero_add]; exact hcs j v hj) (fun j hj => hsp _ (by omega)) (fun j hj => hfz _ (by omega)) h1c
  obtain ⟨W1, hW1⟩ : ∃ W1, W1 = w.drew.setCells b 3 cs := ⟨_, rfl⟩
  have hsp1 : ∀ k, k < (n + 1) * 3 → (W1.cell? ⟨b, k, none⟩).isSome = true := fun k hk => by
    rw [hW1]
    exact isSome_setCells b cs 3 w.drew (fun j hj => hsp (3 + j) (by omega)) k (hsp k hk)
  have hcp2 : ∀ (W : World), (∀ x, W.cell? x = W1.cell? x) → (∀ x, W.frozen? x = W1.frozen? x) → ∀ ty dc, (Builtin.copy_ #[311, 311] ty #[.slice (some ⟨b, 0, none⟩) (n + 1) dc, .slice (some ⟨vb, 0, none⟩) 1 vc]).run Tryz.prog W = .ok (goInt 1) (W.setCells b 0 vs) := fun W hWc hWf ty dc =>
    run_copy_cellsK W _ _ ty 316 b 0 (n + 1) dc ⟨vb, 0, none⟩ 1 vc 3 1 vs Tryz.underlying311 hs3 (by simp only [Nat.min_def]; split <;> omega) (by omega)
      (fun j v hj => by
        rw [Addr.add_lit, hWc, hW1, World.cell?_setCells_out b _ _ _ _ (fun h _ => absurd h hvb), Nat.zero_add]
        exact hvs j v hj)
      (fun j hj => by rw [hWc, Nat.zero_add]; exact hsp1 _ (by omega)) (fun j hj => by rw [hWf, hW1, World.frozen?_setCells, Nat.zero_add]; exact hfz _ (by omega)) h1v
  rw [← hW1] at hcp1
  have hw1 : IntKind.i64.wrap (1 : Int) = 1 := by rw [IntKind.wrap_i64]; omega
  have hb3 : (1 : Int) ≤ (n : Int) + 1 := by omega
  have hc1 : ¬ (c = 1) := by omega
  have hb4 : (0 : Int) ≤ (n : Int) + 1 := by omega
  have hc0 : ¬ (c = 0) := by omega
  have ht1 : (1 : Int).toNat = 1 := rfl
  go_enter Tryz.func227, Tryz.ntmps227
  go_wp2_with (simp only [hov])
  go_region_law_o (refine step_copy_runI rfl _ _ 311 311 rfl _ _ (by simp [Act.eval, Act.put]) (by simp [Act.eval, Act.put]) (hcp1 _ _ _) ?_)
  go_wp2_with (at_builtin; refine wpList_copy_runI _ rfl _ _ 311 311 rfl _ _ rfl rfl (hcp2 _ (fun _ => rfl) (fun _ => rfl) _ _) ?_)
  go_ret
  first | exact ⟨rfl, rfl⟩ | exact ⟨rfl, by rw [hW1]⟩

set_option maxHeartbeats 4000000 in
set_option maxRecDepth 100000 in
theorem Tryz.ins_grow (b n c vb vc : Nat) (cs vs : List Value) (w : World) (hn : 0 < n) (hn2 : n < 65536) (hnc : n ≤ c) (hroom : c < n + 1) (hcl : cs.length = n * 3) (hvl : vs.length = 3)
    (hcs : ∀ j v, cs[j]? = some v → w.cell? ⟨b, j, none⟩ = some v) (hvs : ∀ j v, vs[j]? = some v → w.cell? ⟨vb, j, none⟩ = some v) (h1c : ∀ v ∈ cs, v.oneCell' = true) (h1v : ∀ v ∈ vs, v.oneCell' = true) :
    Calls Tryz.prog 227 #[.slice (some ⟨b, 0, none⟩) n c, .int .i64 0, .slice (some ⟨vb, 0, none⟩) 1 vc] w fun e w' =>
      e = .returned (.slice (some ⟨w.heap.size, 0, none⟩) (n + 1) (grownCap w (n + 1) c 316)) ∧ ∃ ROW : Array Value, ROW.size = grownCap w (n + 1) c 316 * 3 ∧
        w' = (((w.alloc (.cells ROW 316)).drew.setCells w.heap.size 0 vs).drew).setCells w.heap.size 3 cs := by
  have mixed : Tryz.prog.follows .mixedOrders = true := by kernel_rfl
  have hz2 : ¬ ((0 : Int) = (n : Int)) := by omega
  have hz3 : (c : Int) < (n : Int) + 1 := by omega
  have hs3 : (Tryz.prog.info? 316).map (·.size) = some 3 := by kernel_rfl
  obtain ⟨i0, hi0, hz0, hzs, hzb⟩ : ∃ i0, Tryz.prog.info? 316 = some i0 ∧ i0.zero = some (Value.agg #[.int .i64 0, .string ⟨#[]⟩, .int .i64 0]) ∧ i0.size = 3 ∧ i0.bytes = 32 := ⟨Tryz.t316, by kernel_rfl, by kernel_rfl, by kernel_rfl, by kernel_rfl⟩
  have hbw : b < w.heap.size := block_lt_of_cell (hcs 0 _ (List.getElem?_eq_getElem (by omega)))
  have hvw : vb < w.heap.size := block_lt_of_cell (hvs 0 _ (List.getElem?_eq_getElem (by omega)))
  obtain ⟨G, hG⟩ : ∃ G, G = grownCap w (n + 1) c 316 := ⟨_, rfl⟩
  have hGn : n + 1 ≤ G := by rw [hG]; exact grownCap_ge w _ _ _
  obtain ⟨ROW, hROW⟩ : ∃ ROW : Array Value, ROW = (([] : List Value).toArray ++ Builtin.zeroCells (Value.agg #[.int .i64 0, .string ⟨#[]⟩, .int .i64 0]).cells (n + 1) ++ Builtin.zeroCells (Value.agg #[.int .i64 0, .string ⟨#[]⟩, .int .i64 0]).cells (G - (n + 1))) := ⟨_, rfl⟩
  have hRs : ROW.size = G * 3 := by
    rw [hROW]
    simp [Builtin.zeroCells, Value.cells]
    omega
  have hrz : ∀ ty, (Builtin.append_ #[311, 3] ty #[.slice (some ⟨b, 0, none⟩) 0 c, .int .i64 ((n : Int) + 1)]).run Tryz.prog w = .ok (.slice (some ⟨w.heap.size, 0, none⟩) (n + 1) G) (w.drew.alloc (.cells ROW 316)) := fun ty => by
    have h := Lib.run_append_grow_zeros w 311 3 ty 316 i0 _ .i64 .i64 Tryz.underlying311 Tryz.underlying3 hi0 hz0 (some ⟨b, 0, none⟩) 0 c [] (by rw [hzs]; simp [Builtin.firstCells]; rfl) (n + 1) (by omega) (by omega) (by omega) (by omega) (by rw [hzb]; omega)
      (by rw [hzb]; have := nextcap_le (need := 0 + (n + 1)) (cap := c) (by omega); omega)
    rw [Nat.zero_add, ← hG] at h
    rw [hROW]
    exact h
  obtain ⟨W1, hW1⟩ : ∃ W1, W1 = w.drew.alloc (.cells ROW 316) := ⟨_, rfl⟩
  rw [← hW1] at hrz
  have hN : ∀ j, j < (n + 1) * 3 → (W1.cell? ⟨w.heap.size, j, none⟩).isSome = true := fun j hj => by
    rw [hW1, World.cell?_alloc_at (w := w.drew) ROW _ w.heap.size j rfl, Array.getElem?_eq_getElem (by omega)]; rfl
  have hNf : ∀ j, W1.frozen? ⟨w.heap.size, j, none⟩ = false := fun j => by rw [hW1]; exact World.frozen?_alloc_at (w := w.drew) ROW _ w.heap.size j rfl
  have hOb : ∀ j v, w.cell? ⟨b, j, none⟩ = some v → W1.cell? ⟨b, j, none⟩ = some v := fun j v h => by rw [hW1, World.cell?_alloc_past (w := w.drew) _ b j hbw]; exact h
  have hOv : ∀ j v, w.cell? ⟨vb, j, none⟩ = some v → W1.cell? ⟨vb, j, none⟩ = some v := fun j v h => by rw [hW1, World.cell?_alloc_past (w := w.drew) _ vb j hvw]; exact h
  have hcpA : ∀ (W : World), (∀ x, W.cell? x = W1.cell? x) → (∀ x, W.frozen? x = W1.frozen? x) → ∀ ty dc, (Builtin.copy_ #[311, 311] ty #[.slice (some ⟨w.heap.size, 0, none⟩) (n + 1) dc, .slice (some ⟨vb, 0, none⟩) 1 vc]).run Tryz.prog W = .ok (goInt 1) (W.setCells w.heap.size 0 vs) := fun W hWc hWf ty dc =>
    run_copy_cellsK W _ _ ty 316 w.heap.size 0 (n + 1) dc ⟨vb, 0, none⟩ 1 vc 3 1 vs Tryz.underlying311 hs3 (by simp only [Nat.min_def]; split <;> omega) (by omega)
      (fun j v hj => by rw [Addr.add_lit, hWc, Nat.zero_add]; exact hOv _ v (hvs j v hj))
      (fun j hj => by rw [hWc, Nat.zero_add]; exact hN _ (by omega)) (fun j hj => by rw [hWf]; exact hNf _) h1v
  have hbN : b ≠ w.heap.size := by omega
  have hcpB : ∀ (W : World), (∀ x, W.cell? x = (W1.setCells w.heap.size 0 vs).cell? x) → (∀ x, W.frozen? x = (W1.setCells w.heap.size 0 vs).frozen? x) → ∀ ty dc sc, (Builtin.copy_ #[311, 311] ty #[.slice (some ⟨w.heap.size, 3, none⟩) n dc, .slice (some ⟨b, 0, none⟩) n sc]).run Tryz.prog W = .ok (goInt n) (W.setCells w.heap.size 3 cs) := fun W hWc hWf ty dc sc =>
    run_copy_cellsK W _ _ ty 316 w.heap.size 3 n dc ⟨b, 0, none⟩ n sc 3 n cs Tryz.underlying311 hs3 (by simp only [Nat.min_def]; split <;> omega) hcl
      (fun j v hj => by
        rw [Addr.add_lit, hWc, World.cell?_setCells_out _ _ _ _ _ (fun h _ => absurd h hbN), Nat.zero_add]
        exact hOb _ v (hcs j v hj))
      (fun j hj => by rw [hWc]; exact isSome_setCells w.heap.size vs 0 W1 (fun t ht => hN _ (by omega)) _ (hN _ (by omega)))
      (fun j hj => by rw [hWf, World.frozen?_setCells]; exact hNf _) h1c
  subst hW1
  have hE1 : ∀ x, ((w.alloc (.cells ROW 316)).drew).cell? x = (w.drew.alloc (.cells ROW 316)).cell? x := fun x => rfl
  have hE2 : ∀ x, ((w.alloc (.cells ROW 316)).drew).frozen? x = (w.drew.alloc (.cells ROW 316)).frozen? x := fun x => rfl
  have hF1 : ∀ x, (((w.alloc (.cells ROW 316)).drew.setCells w.heap.size 0 vs).drew).cell? x = ((w.drew.alloc (.cells ROW 316)).setCells w.heap.size 0 vs).cell? x := fun x => rfl
  have hF2 : ∀ x, (((w.alloc (.cells ROW 316)).drew.setCells w.heap.size 0 vs).drew).frozen? x = ((w.drew.alloc (.cells ROW 316)).setCells w.heap.size 0 vs).frozen? x := fun x => rfl
  have hw1 : IntKind.i64.wrap (1 : Int) = 1 := by rw [IntKind.wrap_i64]; omega
  have hb3 : (1 : Int) ≤ (n : Int) + 1 := by omega
  have hb4 : (0 : Int) ≤ (n : Int) + 1 := by omega
  have hG1 : ¬ (G = 1) := by omega
  have hG0 : ¬ (G = 0) := by omega
  have hc0 : ¬ (c = 0) := by omega
  have hb5 : (0 : Int) ≤ (n : Int) := by omega
  have hn0 : ¬ (n = 0) := by omega
  rw [← hG]
  refine Calls.mono (R := fun e w' => e = .returned (.slice (some ⟨w.heap.size, 0, none⟩) (n + 1) G) ∧ w' = (((w.alloc (.cells ROW 316)).drew.setCells w.heap.size 0 vs).drew).setCells w.heap.size 3 cs) ?_ (fun e w' h => ⟨h.1, ROW, hRs, h.2⟩)
  clear hROW hG
  go_enter Tryz.func227, Tryz.ntmps227
  go_wp2_with (first
    | (at_builtin; refine Lib.wpList_append_run _ rfl _ _ _ _ rfl _ _ rfl rfl _ _ (hrz _) ?_)
    | (at_builtin; refine wpList_copy_runI _ rfl _ _ 311 311 rfl _ _ rfl rfl (hcpA _ hE1 hE2 _ _) ?_)
    | (at_builtin; refine wpList_copy_runI _ rfl _ _ 311 311 rfl _ _ rfl rfl (hcpB _ (fun _ => rfl) (fun _ => rfl) _ _ _) ?_))
  go_region_law_o (refine step_copy_runI rfl _ _ 311 311 rfl (.slice (some ⟨w.heap.size, 3, none⟩) n (G - 1)) (.slice (some ⟨b, 0, none⟩) n c) (by simp [Act.eval, Act.put]) (by simp [Act.eval, Act.put]) (hcpB _ hF1 hF2 3 (G - 1) c) ?_)
  go_wp2
  go_ret
  exact ⟨rfl, rfl⟩
theorem setCells_heap (b : Nat) : ∀ (vs : List Value) (o : Nat) (w : World) (arr : Array Value) (e : TypeId) (fz : Nat × Nat), w.heap[b]? = some (.cells arr e fz) → o + vs.length ≤ arr.size →
    ∃ arr', (w.setCells b o vs).heap[b]? = some (.cells arr' e fz) ∧ arr'.size = arr.size ∧ (∀ i, arr'[i]? = if o ≤ i ∧ i < o + vs.length then vs[i - o]? else arr[i]?) ∧ (w.setCells b o vs).heap.size = w.heap.size ∧
      (∀ k, k ≠ b → (w.setCells b o vs).heap[k]? = w.heap[k]?) ∧ (w.setCells b o vs).os = w.os ∧ (w.setCells b o vs).tape = w.tape ∧ (w.setCells b o vs).output = w.output
  | [], o, w, arr, e, fz, h, _ => ⟨arr, h, rfl, fun i => by rw [if_neg (by simp; try omega)], rfl, fun _ _ => rfl, rfl, rfl, rfl⟩
  | v :: r, o, w, arr, e, fz, h, hle => by
    simp only [List.length_cons] at hle
    have h1 : (w.setCell ⟨b, o, none⟩ v).heap[b]? = some (.cells (arr.setIfInBounds o v) e fz) := by
      rw [_root_.Go.Sort.setCell_eq]
      show (w.heap.modify b _)[b]? = _
      rw [Array.getElem?_modify, if_pos rfl, h]; rfl
    have hs : (w.setCell ⟨b, o, none⟩ v).heap.size = w.heap.size := by rw [_root_.Go.Sort.setCell_eq]; show (w.heap.modify b _).size = _; simp
    have hk : ∀ k, k ≠ b → (w.setCell ⟨b, o, none⟩ v).heap[k]? = w.heap[k]? := fun k hk => by
      rw [_root_.Go.Sort.setCell_eq]; show (w.heap.modify b _)[k]? = _; rw [Array.getElem?_modify, if_neg (Ne.symm hk)]
    obtain ⟨arr', g1, g2, g3, g4, g5, g6, g7, g8⟩ := setCells_heap b r (o + 1) _ _ e fz h1 (by simp; omega)
    refine ⟨arr', g1, by rw [g2]; simp, fun i => ?_, by rw [World.setCells, g4, hs], fun k hkb => by rw [World.setCells, g5 k hkb, hk k hkb], by rw [World.setCells, g6]; rfl, by rw [World.setCells, g7]; rfl, by rw [World.setCells, g8]; rfl⟩
    rw [g3 i]
    by_cases h2 : o + 1 ≤ i ∧ i < o + 1 + r.length
    · rw [if_pos h2, if_pos (by simp; omega)]
      obtain ⟨t, rfl⟩ : ∃ t, i = o + 1 + t := ⟨i - (o + 1), by omega⟩
      rw [show o + 1 + t - o = t + 1 by omega, show o + 1 + t - (o + 1) = t by omega]; rfl
    · rw [if_neg h2]
      by_cases h3 : i = o
      · subst h3; rw [if_pos (by simp)]; simp [Array.getElem?_setIfInBounds]; omega
      · rw [if_neg (by simp; omega), Array.getElem?_setIfInBounds, if_neg (Ne.symm h3)]

theorem Tryz.insOk : InsOk Tryz.prog 227 3 316 := by
  intro b n c vb vc lo hi lo2 hi2 arr varr w hb hv hvb hn0 hn1 hnc hcK hvs hm1 hm2 h1c h1v
  have hcs : ∀ j v, (arr.toList.take (n * 3))[j]? = some v → w.cell? ⟨b, j, none⟩ = some v := fun j v hj => by
    rw [List.getElem?_take] at hj
    split at hj
    · unfold World.cell?; rw [hb]; simpa using hj
    · cases hj
  have hvs' : ∀ j v, varr.toList[j]? = some v → w.cell? ⟨vb, j, none⟩ = some v := fun j v hj => by unfold World.cell?; rw [hv]; simpa using hj
  have hcl : (arr.toList.take (n * 3)).length = n * 3 := by rw [List.length_take, Array.length_toList]; omega
  have hvl : varr.toList.length = 3 := by rw [Array.length_toList]; exact hvs
  by_cases hfit : n + 1 ≤ c
  · have hfz : ∀ j, w.frozen? ⟨b, j, none⟩ = false := fun j => by
      unfold World.frozen?; rw [hb]; rw [Bool.eq_false_iff]; intro h
      simp only [Bool.and_eq_true, decide_eq_true_eq] at h; omega
    have hfz2 : ∀ j, w.frozen? ⟨vb, j, none⟩ = false := fun j => by
      unfold World.frozen?; rw [hv]; rw [Bool.eq_false_iff]; intro h
      simp only [Bool.and_eq_true, decide_eq_true_eq] at h; omega
    refine (Tryz.ins_shift b n c vb vc _ _ w hn0 hn1 hfit hvb hcl hvl hcs (fun j hj => by unfold World.cell?; rw [hb]; simp; omega) (fun j _ => hfz j) hvs' h1c h1v 316 316 varr.size arr.size
      (by unfold World.shape?; rw [hv]) (by unfold World.shape?; rw [hb]) (by omega) (hfz2 0) (hfz2 _)).mono fun e w' hr => ?_
    obtain ⟨rfl, rfl⟩ := hr
    have hb' : w.drew.heap[b]? = some (.cells arr 316 (lo, hi)) := hb
    obtain ⟨a1, g1, g2, g3, g4, g5, g6, g7, g8⟩ := setCells_heap b (arr.toList.take (n * 3)) 3 w.drew arr 316 (lo, hi) hb' (by rw [hcl]; omega)
    obtain ⟨a2, k1, k2, k3, k4, k5, k6, k7, k8⟩ := setCells_heap b varr.toList 0 _ a1 316 (lo, hi) g1 (by rw [hvl, g2]; omega)
    refine ⟨k6.trans g6, k7.trans g7, k8.trans g8, .inl ⟨rfl, hfit, k4.trans g4, fun k hk => (k5 k hk).trans (g5 k hk), a2, k1, k2.trans g2, ?_⟩⟩
    apply List.ext_getElem?
    intro i
    rw [List.getElem?_take, Array.getElem?_toList]
    by_cases hi3 : i < 3
    · rw [if_pos (by omega), k3, if_pos (by omega), List.getElem?_append_left (by omega)]; rfl
    · by_cases hin : i < (n + 1) * 3
      · rw [if_pos hin, k3, if_neg (by omega), g3, if_pos (by rw [hcl]; omega), List.getElem?_append_right (by omega), hvl]
      · rw [if_neg hin, List.getElem?_eq_none (by rw [List.length_append, hvl, hcl]; omega)]
  · refine (Tryz.ins_grow b n c vb vc _ _ w hn0 hn1 hnc (by omega) hcl hvl hcs hvs' h1c h1v).mono fun e w' hr => ?_
    obtain ⟨rfl, ROW, hR, rfl⟩ := hr
    have hG := grownCap_ge w (n + 1) c 316
    have hb' : ((w.alloc (.cells ROW 316)).drew).heap[w.heap.size]? = some (.cells ROW 316 (0, 0)) := by
      show (w.heap.push _)[w.heap.size]? = _; simp
    obtain ⟨a1, g1, g2, g3, g4, g5, g6, g7, g8⟩ := setCells_heap w.heap.size varr.toList 0 _ ROW 316 (0, 0) hb' (by rw [hvl]; omega)
    have g1' : (((w.alloc (.cells ROW 316)).drew.setCells w.heap.size 0 varr.toList).drew).heap[w.heap.size]? = some (.cells a1 316 (0, 0)) := g1
    obtain ⟨a2, k1, k2, k3, k4, k5, k6, k7, k8⟩ := setCells_heap w.heap.size (arr.toList.take (n * 3)) 3 _ a1 316 (0, 0) g1' (by rw [hcl, g2]; omega)
    refine ⟨k6.trans g6, k7.trans g7, k8.trans g8, .inr ⟨_, a2, rfl, hG, ?_, by rw [k2, g2, hR], ?_⟩⟩
    · apply Array.ext_getElem?
      intro i
      rw [Array.getElem?_push]
      by_cases hi : i = w.heap.size
      · rw [if_pos hi, hi]; exact k1
      · rw [if_neg hi, k5 i hi]
        refine (g5 i hi).trans ?_
        show (w.heap.push _)[i]? = _
        rw [Array.getElem?_push, if_neg hi]
    · apply List.ext_getElem?
      intro i
      rw [List.getElem?_take, Array.getElem?_toList]
      by_cases hi3 : i < 3
      · rw [if_pos (by omega), k3, if_neg (by omega), g3, if_pos (by omega), List.getElem?_append_left (by omega)]; rfl
      · by_cases hin : i < (n + 1) * 3
        · rw [if_pos hin, k3, if_pos (by rw [hcl]; omega), List.getElem?_append_right (by omega), hvl]
        · rw [if_neg hin, List.getElem?_eq_none (by rw [List.length_append, hvl, hcl]; omega)]
end Go.Proofs
