/- THE ABSTRACT EVALUATOR: what stands in slices.Insert's place (one element, ahead of all others; the room unknown), and in strings.Join's (nothing between). -/
import Derived.Test.YtpangpggplacoaaGreatAbOvB
import Derived.Laws.IdiomCopy
namespace Go.Ab
noncomputable section
def insC (s : St) (id n : Nat) (T : TypeId) (vs : List AV) : Option (List AV) → Option (AV × St)
  | some old => bif lall oneA old && lall oneA vs then some (.sl s.nx 0 (n + 1) none, (s.put id .dfr).new (.cells (lapp vs old) T true)) else none
  | none => none
def insB (K : Nat) (T : TypeId) (s : St) (id n vid : Nat) : Option (AV × St) :=
  match s.at id with
  | some (.cells cs e _) => match s.at vid with
    | some (.cells vs e' false) => bif Nat.beq e T && Nat.beq e' T && !Nat.beq id vid && Nat.blt 0 n && Nat.blt n 65536 && Nat.beq (llen vs) K then insC s id n T vs (takeE (n * K) cs) else none
    | _ => none
  | _ => none
def ovIns (f : FuncId) (K : Nat) (T : TypeId) (rc : RC) (args : List AV) (s : St) : Option (AV × St) :=
  match args with
  | [.sl id 0 n none, .int .i64 (.ofNat 0), .sl vid 0 1 _] => insB K T s id n vid
  | _ => rc f args s

def strs2 (b : List Nat) : Option (List Nat) → Option (List Nat)
  | some r => some (lapp b r)
  | none => none
def strs1 (r : Option (List Nat)) : AV → Option (List Nat)
  | .str b => strs2 b r
  | _ => none
def strsA (l : List AV) : Option (List Nat) := List.rec (some []) (fun a _ ih => strs1 ih a) l
def joinB (s : St) (n : Nat) : Option (List AV) → Option (AV × St)
  | some l => match strsA l with
    | some b => bif Nat.ble (llen b) 1048576 && Nat.blt 0 n && Nat.blt n 65536 then some (.str b, s) else none
    | none => none
  | none => none
def ovJoin (args : List AV) (s : St) : Option (AV × St) :=
  match args with
  | [.sl id off n _, .str []] => match s.at id with
    | some (.cells c _ _) => joinB s n (seg off n c)
    | _ => none
  | _ => none
end

/-- 'copy' at elements of K cells: all is read before anything is written -/
theorem run_copy_cellsK {P : Program} (w : World) (dT sT ty elem : TypeId) (b o dLen dCap : Nat) (a : Addr) (sLen sCap K m : Nat) (cs : List Value)
    (hu : P.underlying dT = some (.slice elem)) (hs : (P.info? elem).map (·.size) = some K) (hm : Nat.min sLen dLen = m) (hn : cs.length = m * K)
    (hsrc : ∀ j v, cs[j]? = some v → w.cell? (a.add j) = some v) (hc : ∀ j, j < cs.length → (w.cell? ⟨b, o + j, none⟩).isSome = true) (hf : ∀ j, j < cs.length → w.frozen? ⟨b, o + j, none⟩ = false) (h1 : ∀ v ∈ cs, v.oneCell' = true) :
    (Builtin.copy_ #[dT, sT] ty #[.slice (some ⟨b, o, none⟩) dLen dCap, .slice (some a) sLen sCap]).run P w = .ok (goInt m) (w.setCells b o cs) := by
  have hl := run_loadCells_list (P := P) w a cs hsrc
  have hst := run_storeCells_cells (P := P) b o cs 0 w (by simpa using hc) (by simpa using hf) h1
  cases hq : P.info? elem with
  | none => simp [hq] at hs
  | some i =>
    have hi : i.size = K := by simpa [hq] using hs
    have hm' : min sLen dLen = m := hm
    rw [hn] at hl
    simp [Builtin.copy_, run_underlying hu, Builtin.lenOf, Builtin.firstCells, sizeOf, typeInfo, hq, hi, hm', hl, hst]

/-- what is asked of slices.Insert at elements of K cells: one element, ahead of all others -/
def InsOk (P : Program) (f : FuncId) (K : Nat) (T : TypeId) : Prop :=
  ∀ (b n c vb vc lo hi lo2 hi2 : Nat) (arr varr : Array Value) (w : World), w.heap[b]? = some (.cells arr T (lo, hi)) → w.heap[vb]? = some (.cells varr T (lo2, hi2)) → vb ≠ b → 0 < n → n < 65536 → n ≤ c → c * K = arr.size → varr.size = K →
    hi ≤ lo → hi2 ≤ lo2 → (∀ v ∈ arr.toList.take (n * K), v.oneCell' = true) → (∀ v ∈ varr.toList, v.oneCell' = true) →
    Calls P f #[.slice (some ⟨b, 0, none⟩) n c, .int .i64 0, .slice (some ⟨vb, 0, none⟩) 1 vc] w fun e w' =>
      w'.os = w.os ∧ w'.tape = w.tape ∧ w'.output = w.output ∧
      ((e = .returned (.slice (some ⟨b, 0, none⟩) (n + 1) c) ∧ n + 1 ≤ c ∧ w'.heap.size = w.heap.size ∧ (∀ k, k ≠ b → w'.heap[k]? = w.heap[k]?) ∧
        ∃ arr', w'.heap[b]? = some (.cells arr' T (lo, hi)) ∧ arr'.size = arr.size ∧ arr'.toList.take ((n + 1) * K) = varr.toList ++ arr.toList.take (n * K)) ∨
       ∃ G arr', e = .returned (.slice (some ⟨w.heap.size, 0, none⟩) (n + 1) G) ∧ n + 1 ≤ G ∧ w'.heap = w.heap.push (.cells arr' T) ∧ arr'.size = G * K ∧
        arr'.toList.take ((n + 1) * K) = varr.toList ++ arr.toList.take (n * K))
end Go.Ab
