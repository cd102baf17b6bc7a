/- THE ABSTRACT EVALUATOR: it runs. An operation is made ready once ('stage'), a closed term; then it is run. -/
import Derived.Test.YtpangpggplacoaaGreatAbDefs
namespace Go.Ab
noncomputable section

def constO : Operand → Bool
  | .const _ => true
  | _ => false
def eqT (P : Program) (t : TypeId) (x y : Operand) : Option EqT :=
  match P.underlying t with
  | some .bool => some .bool
  | some (.pointer _) => some .ptr
  | some (.interface _) => some (.ifc (constO x || constO y))
  | some (.slice _) => some .sl
  | some (.map ..) => some .mp
  | some (.func ..) => some .fn
  | _ => none

abbrev SK := Option OpK
def o1 (x : Operand) (f : Opd → SK) : SK := match opd x with | some x => f x | none => none
def oM : Option Operand → (Option Opd → SK) → SK
  | none, f => f none
  | some x, f => match opd x with | some x => f (some x) | none => none
def oL : List Operand → Option (List Opd)
  | [] => some []
  | x :: r => match opd x, oL r with | some x, some r => some (x :: r) | _, _ => none
def oP : List (Nat × Operand) → Option (List (Nat × Opd))
  | [] => some []
  | (i, x) :: r => match opd x, oP r with | some x, some r => some ((i, x) :: r) | _, _ => none
def withT (P : Program) (t : TypeId) (f : TypeDesc → SK) : SK := match P.underlying t with | some d => f d | none => none
def withZ (P : Program) (t : TypeId) (f : AV → SK) : SK := match zeroA P t with | some z => f z | none => none
def withS (P : Program) (t : TypeId) (f : Nat → SK) : SK := bif Nat.beq (P.cellsOf t) 0 then none else f (P.cellsOf t)
def withL {α : Type} (o : Option α) (f : α → SK) : SK := match o with | some l => f l | none => none

def sg_build (P : Program) (ty : TypeId) (ps : List (Nat × Opd)) (z : AV) : TypeDesc → SK
  | .struct fs => bif fs.toList.all fun f => (P.info? f.type).isSome then some (.pu (k_build (placeF P fs) z ps)) else none
  | .array _ e => withS P e fun sz => some (.pu (k_build (placeE sz) z ps))
  | _ => none
def sg_bs (P : Program) (len : Nat) (ps : List (Nat × Opd)) : TypeDesc → SK
  | .slice e => withZ P e fun z => withS P e fun sz => bif Nat.beq (llen z.cells) sz && Nat.ble (len * sz) 16777216 then some (.al (k_bs e sz len (rep len z.cells) ps)) else none
  | _ => none
def sg_cv (P : Program) (x : Opd) (src : TypeDesc) : TypeDesc → SK
  | .int k => some (.pu (k_cv k x))
  | .string => match src with
    | .slice e => withT P e fun d => match d with | .int .u8 => some (.rd (k_b2s x)) | _ => none
    | .string => some (.pu (k_str x))
    | _ => none
  | .slice e => match src with
    | .string => withT P e fun d => match d with | .int .u8 => bif Nat.beq (P.cellsOf e) 1 then some (.al (k_s2b e x)) else none | _ => none
    | _ => none
  | _ => none
def sg_slice (P : Program) (x : Opd) (lo hi mx : Option Opd) : TypeDesc → SK
  | .string => match mx with
    | none => some (.pu (k_slStr x lo hi))
    | some _ => none
  | .slice e => withS P e fun sz => some (.rd (k_slSl e sz x lo hi mx))
  | .array n e => withS P e fun sz => some (.pu (k_slArr sz n x lo hi mx))
  | _ => none
def sg_fa (P : Program) (x : Opd) (f : Nat) : TypeDesc → SK
  | .struct fs => withL fs[f]? fun fl => withS P fl.type fun _ => some (.pu (k_fa fl.offset x))
  | _ => none
def sg_field (P : Program) (x : Opd) (f : Nat) : TypeDesc → SK
  | .struct fs => withL fs[f]? fun fl => withT P fl.type fun _ => some (.pu (k_field (aggT P fl.type) (P.cellsOf fl.type) fl.offset x))
  | _ => none
def sg_ia (P : Program) (x i : Opd) : TypeDesc → SK
  | .array n e => withS P e fun sz => some (.pu (k_ia sz (some n) x i))
  | .slice e => withS P e fun sz => some (.pu (k_ia sz none x i))
  | _ => none
def sg_ind (P : Program) (x i : Opd) : TypeDesc → SK
  | .string => some (.pu (k_ind x i))
  | .array n e => withT P e fun _ => some (.pu (k_inda (aggT P e) (P.cellsOf e) n x i))
  | _ => none
def keyT (P : Program) (k : TypeId) : Option KQ :=
  match P.underlying k with
  | some (.int _) => some .i
  | some .bool => some .b
  | some .string => some .s
  | _ => none
def sg_look (P : Program) (m k : Opd) (ok : Bool) : TypeDesc → SK
  | .map kt e => withL (keyT P kt) fun q => withZ P e fun z => some (.rd (k_look q z ok m k))
  | _ => none
def sg_upd (P : Program) (m k v : Opd) : TypeDesc → SK
  | .map kt _ => withL (keyT P kt) fun q => some (.ef (k_upd q m k v))
  | _ => none
def sg_ms (P : Program) (l c : Opd) : TypeDesc → SK
  | .slice e => withZ P e fun z => withS P e fun sz => bif Nat.beq (llen z.cells) sz then some (.al (k_ms e (P.bytesOf e) z.cells l c)) else none
  | _ => none
def sg_range (x : Opd) : TypeDesc → SK
  | .map .. => some (.ef (k_range x))
  | _ => none
def sg_if (ty : TypeId) (x : Opd) : TypeDesc → SK
  | .interface _ => none
  | _ => some (.pu (k_if ty x))
def sg_len (x : Opd) : TypeDesc → SK
  | .string => some (.pu (k_lenS x))
  | .slice _ => some (.pu (k_lenL x))
  | .map .. => some (.rd (k_lenM x))
  | .array n _ => some (.pu (k_move (.cst (.int .i64 (.ofNat n)))))
  | _ => none
def sg_app (P : Program) (x y : Opd) (yt : TypeDesc) : TypeDesc → SK
  | .slice e => match yt with
    | .int _ => none
    | _ => withZ P e fun z => withS P e fun sz => bif Nat.ble (P.bytesOf e) 4096 && Nat.beq (llen z.cells) sz then some (.ef (k_app e sz x y)) else none
  | _ => none
def sg_copy (P : Program) (x y : Opd) : TypeDesc → SK
  | .slice e => withS P e fun sz => some (.ef (k_copy sz x y))
  | _ => none
def sg_clear (P : Program) (x : Opd) : TypeDesc → SK
  | .map .. => some (.ef (k_clearM x))
  | .slice e => withZ P e fun z => withS P e fun sz => bif Nat.beq (llen z.cells) sz then some (.ef (k_clearL z.cells x)) else none
  | _ => none
def sg_del (P : Program) (m k : Opd) : TypeDesc → SK
  | .map kt _ => withL (keyT P kt) fun q => some (.ef (k_del q m k))
  | _ => none
def sg_us (P : Program) (p n : Opd) : TypeDesc → SK
  | .pointer e => bif Nat.beq (P.cellsOf e) 1 then some (.ef (k_us e p n)) else none
  | _ => none
def sg_unsafe (P : Program) (b : Builtin) (args : List Opd) (tys : List TypeId) : SK :=
  match b, args, tys with
  | .unsafeSliceData, [x], _ => some (.pu (k_sd x))
  | .unsafeString, [p, n], [t, _] => withT P t (sg_us P p n)
  | _, _, _ => none
def sg_builtin (P : Program) (b : Builtin) (tys : List TypeId) (args : List Opd) : SK :=
  match b, args, tys with
  | .append, [x, y], [t, u] => withT P t fun d => withT P u fun e => sg_app P x y e d
  | .copy, [x, y], t :: _ => withT P t (sg_copy P x y)
  | .len, [x], t :: _ => withT P t (sg_len x)
  | .cap, [x], t :: _ => withT P t fun d => match d with | .slice _ => some (.pu (k_cap x)) | _ => none
  | .min, x :: r, _ => some (.pu (k_min false x r))
  | .max, x :: r, _ => some (.pu (k_min true x r))
  | .clear, [x], t :: _ => withT P t (sg_clear P x)
  | .delete, [m, k], t :: _ => withT P t (sg_del P m k)
  | b, args, tys => sg_unsafe P b args tys
def sg_call (P : Program) (c : Call) : SK :=
  withL (oL c.args.toList) fun args => match c.callee with
    | .builtin b => sg_builtin P b c.argTypes.toList args
    | .value f => o1 f fun f => some (.cl f args)
    | .invoke .. => none

def stageK (P : Program) (op : Op) : SK :=
  match op with
  | .move x => o1 x fun x => some (.pu (k_move x))
  | .assign x => o1 x fun x => some (.pu (k_move x))
  | .pick c a b => o1 c fun c => o1 a fun a => o1 b fun b => some (.pu (k_pick c a b))
  | .alloc e => withZ P e fun z => some (.al (k_alloc e z))
  | .box e x => o1 x fun x => some (.al (k_box e x))
  | .build ty ps => withL (oP ps.toList) fun ps => withZ P ty fun z => withT P ty (sg_build P ty ps z)
  | .buildSlice ty len ps => withL (oP ps.toList) fun ps => withT P ty (sg_bs P len ps)
  | .load ty a => o1 a fun a => withT P ty fun _ => some (.rd (k_load (aggT P ty) (P.cellsOf ty) a))
  | .store ty a x => o1 a fun a => o1 x fun x => withT P ty fun _ => some (.ef (k_store (P.cellsOf ty) a x))
  | .nilCheck x => o1 x fun x => some (.pu (k_nil x))
  | .binOp op ty x y _ => o1 x fun x' => o1 y fun y' => some (.pu (k_bin (eqT P ty x y) op x' y'))
  | .unOp op _ x => o1 x fun x => some (.pu (k_un op x))
  | .convert a b x => o1 x fun x => withT P a fun a => withT P b (sg_cv P x a)
  | .makeInterface ty x => o1 x fun x => withT P ty (sg_if ty x)
  | .makeFunc f a b => withL (oL a.toList) fun a => withL (oL b.toList) fun b => match f with | .func f => some (.pu (k_fn (.func f) a b)) | _ => none
  | .makeMap _ r => match r with
    | none => some (.al k_mm)
    | some _ => none
  | .makeSlice ty l c => o1 l fun l => o1 c fun c => withT P ty (sg_ms P l c)
  | .slice ty x lo hi mx => o1 x fun x => oM lo fun lo => oM hi fun hi => oM mx fun mx => withT P ty (sg_slice P x lo hi mx)
  | .fieldAddr ty x f => o1 x fun x => withT P ty (sg_fa P x f)
  | .field ty x f => o1 x fun x => withT P ty (sg_field P x f)
  | .indexAddr ty x i => o1 x fun x => o1 i fun i => withT P ty (sg_ia P x i)
  | .index ty x i => o1 x fun x => o1 i fun i => withT P ty (sg_ind P x i)
  | .lookup ty m k ok => o1 m fun m => o1 k fun k => withT P ty (sg_look P m k ok)
  | .mapUpdate ty m k v => o1 m fun m => o1 k fun k => o1 v fun v => withT P ty (sg_upd P m k v)
  | .insert ty m k v => o1 m fun m => o1 k fun k => o1 v fun v => withT P ty (sg_upd P m k v)
  | .range ty x => o1 x fun x => withT P ty (sg_range x)
  | .next it isS => o1 it fun it => bif isS then none else some (.ef (k_next it))
  | .entry it => o1 it fun it => some (.rd (k_entry it))
  | .extract x i => o1 x fun x => some (.pu (k_ext i x))
  | .call c => sg_call P c
  | _ => none

/-! ### regions -/
structure SOp where
  dst : Option (List Bool)
  guard : Option (List Bool × Bool)
  k : OpK
  chk : List Nat

def dstS (N : Nat) : Option Tmp → Option (Option (List Bool))
  | none => some none
  | some d => bif Nat.blt d N then some (some (path d)) else none
def guardS (ops : List Oper) : Option (Nat × Bool) → Option (Option (List Bool × Bool))
  | none => some none
  | some (j, w) => match ops[j]? with
    | some o => match o.dst with
      | some d => some (some (path d, w))
      | none => none
    | none => none
def sopOf (chk : List Nat) : Option (Option (List Bool)) → Option (Option (List Bool × Bool)) → SK → Option SOp
  | some d, some g, some k => some ⟨d, g, k, chk⟩
  | _, _, _ => none
def stageOp (P : Program) (N : Nat) (ops : List Oper) (chk : List Nat) (o : Oper) : Option SOp :=
  sopOf chk (dstS N o.dst) (guardS ops o.guard) (stageK P o.op)

/-! an order that is open: what must be looked at -/
def isEff : OpK → Bool
  | .ef _ => true
  | .cl .. => true
  | _ => false
def isRd : OpK → Bool
  | .rd _ => true
  | _ => false
def tmpsOf (l : List Operand) : List Nat := l.filterMap fun | .tmp t => some t | _ => none
def readsOf (ops : List Oper) (o : Oper) : List Nat :=
  tmpsOf o.op.operands.toList ++ (match o.guard with
    | some (j, _) => (match ops[j]? with | some g => g.dst.toList | none => [])
    | none => [])
/-- whoever writes a slot is in order with whoever reads or writes it -/
def orderOk (ops : List Oper) (b : List Nat) : Bool :=
  ops.zipIdx.all fun (o, i) => match o.dst with
    | none => true
    | some d => ops.zipIdx.all fun (p, j) => i == j || !((p.dst == some d) || (readsOf ops p).contains d) || (b.getD (max i j) 0).testBit (min i j)
def effAt (l : List (Option SOp)) (i : Nat) : Bool := match l[i]? with | some (some o) => isEff o.k | _ => false
def actsL (l : List (Option SOp)) : List Nat := (List.range l.length).filter (effAt l)
def chainOk (b : List Nat) (es : List Nat) : Bool :=
  es.all fun i => es.all fun j => !(Nat.blt i j) || (b.getD j 0).testBit i
def edgesOk (ops : List Oper) : Bool :=
  ops.zipIdx.all fun (o, i) => o.after.toList.all fun e => !Region.binds .any e || Nat.blt e.on i
/-- the place that is behind the same acts as the text's own -/
def canon (es : List Nat) (p x : Nat) : Bool := Nat.ble p x && es.all fun e => Nat.blt e p || Nat.ble x e
/-- behind which acts a reading may come, but for the text's own place -/
def chkOf (b : List Nat) (es : List Nat) (x : Nat) : List Nat :=
  (0 :: es.map (· + 1)).filter fun p =>
    (es.all fun e => (!(b.getD x 0).testBit e || Nat.blt e p) && (!(b.getD e 0).testBit x || Nat.ble p e)) && !canon es p x
def withChk (b : List Nat) (es : List Nat) : Option SOp × Nat → Option SOp
  | (some ⟨d, g, k, _⟩, i) => some ⟨d, g, k, match k with | .rd _ => chkOf b es i | _ => []⟩
  | (none, _) => none
def allS : List (Option SOp) → Option (List SOp)
  | [] => some []
  | some o :: r => match allS r with | some r => some (o :: r) | none => none
  | none :: _ => none
def plain (P : Program) (N : Nat) (ops : List Oper) : List (Option SOp) := ops.map (stageOp P N ops [])
def drawn (P : Program) (N : Nat) (ops : Array Oper) : Option (List SOp) :=
  bif edgesOk ops.toList && orderOk ops.toList (Region.before ops).toList && chainOk (Region.before ops).toList (actsL (plain P N ops.toList)) then
    allS ((plain P N ops.toList).zipIdx.map (withChk (Region.before ops).toList (actsL (plain P N ops.toList))))
  else none
structure RegS where
  ops : List SOp
  looks : Bool
def regS (l : Option (List SOp)) : Option RegS :=
  match l with
  | some l => some ⟨l, l.any fun o => match o.chk with | [] => false | _ => true⟩
  | none => none
def stageReg (P : Program) (N : Nat) (ops : Array Oper) (draw : Bool) : Option RegS :=
  bif draw then regS (drawn P N ops) else (match allS (plain P N ops.toList) with | some l => some ⟨l, false⟩ | none => none)

/-! ### running -/
inductive Ex where
  | normal | ret | exit (id : Nat)
structure FS where
  t : T AV
  df : List Nat
  s : St
abbrev RC := FuncId → List AV → St → Option (AV × St)
abbrev RY := Nat → List AV → St → Option (AV × St)

def callA (rc : RC) (ry : RY) (f : AV) (args : List AV) (s : St) : Option (AV × St) :=
  match f with
  | .fn (.func g) first cap => rc g (lapp first (lapp args cap)) s
  | .fn (.yield l) [] [] => ry l args s
  | _ => none
def valS (s : St) : Option AV → Option (AV × St)
  | some v => some (v, s)
  | none => none
def newS (s : St) : Option (ABlk × AK) → Option (AV × St)
  | some (b, k) => some (k.val s.nx, s.new b)
  | none => none
def doOp (rc : RC) (ry : RY) (k : OpK) (t : T AV) (s : St) : Option (AV × St) :=
  match k with
  | .pu f => valS s (f t)
  | .rd f => valS s (f t s)
  | .al f => newS s (f t)
  | .ef f => f t s
  | .cl f args => callA rc ry (f.ev t) (evs t args) s
def putT (d : Option (List Bool)) (v : AV) (t : T AV) : T AV := match d with | none => t | some p => t.set p v
def wantG (g : Option (List Bool × Bool)) (t : T AV) : Bool :=
  match g with
  | none => true
  | some (p, w) => match t.get p with | some (.bool b) => b == w | _ => false

structure TS where
  t : T AV
  s : St
def doS (rc : RC) (ry : RY) (o : SOp) (t : T AV) (s : St) : Option TS :=
  bif wantG o.guard t then (match doOp rc ry o.k t s with | some (v, s) => some ⟨putT o.dst v t, s⟩ | none => none)
  else some ⟨putT o.dst undefA t, s⟩
def runOps (rc : RC) (ry : RY) (l : List SOp) : T AV → St → Option TS :=
  List.rec (fun t s => some ⟨t, s⟩) (fun o _ ih t s => match doS rc ry o t s with | some ⟨t, s⟩ => ih t s | none => none) l

/-- the same value? -/
def avEqL : Nat → List AV → List AV → Bool
  | 0, _, _ => false
  | f + 1, x, y => match x, y with
    | [], [] => true
    | a :: x, b :: y =>
      (match a, b with
        | .bool a, .bool b => a == b
        | .int k a, .int k' b => kbeq k k' && ibeq a b
        | .str a, .str b => lbeq a b
        | .nilp, .nilp => true
        | .ptr i o, .ptr i' o' => Nat.beq i i' && Nat.beq o o'
        | .nils, .nils => true
        | .sle, .sle => true
        | .sl i o n none, .sl i' o' n' none => Nat.beq i i' && Nat.beq o o' && Nat.beq n n'
        | .sl i o n (some c), .sl i' o' n' (some c') => Nat.beq i i' && Nat.beq o o' && Nat.beq n n' && Nat.beq c c'
        | .nilm, .nilm => true
        | .mp i, .mp i' => Nat.beq i i'
        | .nilf, .nilf => true
        | .nili, .nili => true
        | .var i o, .var j p => Nat.beq i j && Nat.beq o p
        | .agg l, .agg l' => avEqL f l l'
        | .tup l, .tup l' => avEqL f l l'
        | _, _ => false) && avEqL f x y
    | _, _ => false
def avEq (a b : AV) : Bool := avEqL 200 [a] [b]

/-- a reading, and what it answered: to be held against other states -/
structure Look where
  f : T AV → St → Option AV
  t : T AV
  v : AV
  chk : List Nat
def lookOk (bs : List St) (l : Look) : Bool :=
  l.chk.all fun c => match lnth bs c with
    | some s => (match l.f l.t s with | some v => avEq v l.v | none => false)
    | none => false
structure DS where
  t : T AV
  s : St
  bs : List St          -- the states behind each operation, the last first
  ls : List Look
def looksOf (o : SOp) (t : T AV) (v : AV) (ls : List Look) : List Look :=
  match o.k with
  | .rd f => (match o.chk with | [] => ls | c => ⟨f, t, v, c⟩ :: ls)
  | _ => ls
def doD (rc : RC) (ry : RY) (o : SOp) (x : DS) : Option DS :=
  bif wantG o.guard x.t then (match doOp rc ry o.k x.t x.s with
    | some (v, s) => some ⟨putT o.dst v x.t, s, s :: x.bs, looksOf o x.t v x.ls⟩
    | none => none)
  else some ⟨putT o.dst undefA x.t, x.s, x.s :: x.bs, x.ls⟩
def runD (rc : RC) (ry : RY) (l : List SOp) : DS → Option DS :=
  List.rec (fun x => some x) (fun o _ ih x => match doD rc ry o x with | some x => ih x | none => none) l
def endD : Option DS → Option TS
  | some x => bif lall (lookOk x.bs.reverse) x.ls then some ⟨x.t, x.s⟩ else none
  | none => none
def runReg (rc : RC) (ry : RY) (r : Option RegS) (t : T AV) (s : St) : Option TS :=
  match r with
  | none => none
  | some ⟨l, looks⟩ => bif looks then endD (runD rc ry l ⟨t, s, [s], []⟩) else runOps rc ry l t s

abbrev RJ := Nat → Option Nat → Code → FS → Option (Ex × FS)
def thenS (k : FS → Option (Ex × FS)) : Option (Ex × FS) → Option (Ex × FS)
  | some (.normal, x) => k x
  | r => r
def blockS (id : Nat) : Option (Ex × FS) → Option (Ex × FS)
  | some (.exit i, x) => bif Nat.beq i id then some (.normal, x) else some (.exit i, x)
  | r => r
def condS (o : Option Opd) (x : FS) (a b : FS → Option (Ex × FS)) : Option (Ex × FS) :=
  match o with
  | some o => (match o.ev x.t with | .bool true => a x | .bool false => b x | _ => none)
  | none => none
def regE (x : FS) : Option TS → Option (Ex × FS)
  | some ⟨t, s⟩ => some (.normal, ⟨t, x.df, s⟩)
  | none => none

def setAll (N : Nat) (ps : List Tmp) : List AV → T AV → Option (T AV) :=
  List.rec (fun as t => List.rec (some t) (fun _ _ _ => none) as)
    (fun p _ ih as t => List.rec none (fun a r _ => bif Nat.blt p N then ih r (t.set (path p) a) else none) as) ps
/-- a range over a function: its call, and what comes behind -/
def rangeEnd (k : FS → Code → Option (Ex × FS)) (l : Nat) (t : T AV) (df : List Nat) : Option (AV × St) → Option (Ex × FS)
  | some (_, s) => match s.at l with
    | some (.loop st pend N lt ps asg body dfr) => (match st with
      | .busy => none
      | _ => (match pend with
        | none => some (.normal, ⟨t, df, s.put l (.loop .exhausted none N lt ps asg body dfr)⟩)
        | some c => k ⟨t, df, s.put l (.loop .exhausted (some c) N lt ps asg body dfr)⟩ c))
    | _ => none
  | none => none
def rangeCallA (rc : RC) (f : AV) (l : Nat) (s : St) : Option (AV × St) :=
  match f with
  | .fn (.func g) first cap => rc g (lapp first (.fn (.yield l) [] [] :: cap)) s
  | _ => none
def rangeS (rc : RC) (k : FS → Code → Option (Ex × FS)) (N : Nat) (ro : Option Nat) (f : Option Opd) (ps : List Tmp) (asg body : Code) (x : FS) : Option (Ex × FS) :=
  match f with
  | none => none
  | some f => match ro with
    | none => rangeEnd k (x.s.nx + 1) x.t (x.s.nx :: x.df) (rangeCallA rc (f.ev x.t) (x.s.nx + 1) ((x.s.new .dfr).new (.loop .ready none N x.t ps asg body x.s.nx)))
    | some l0 => match x.s.at l0 with
      | some (.loop _ _ _ _ _ _ _ d) => rangeEnd k x.s.nx x.t x.df (rangeCallA rc (f.ev x.t) x.s.nx (x.s.new (.loop .ready none N x.t ps asg body d)))
      | _ => none

def code (P : Program) (rc : RC) (ry : RY) (rec : RJ) (N : Nat) (ro : Option Nat) (c : Code) (x : FS) : Option (Ex × FS) :=
  match c with
  | .skip => some (.normal, x)
  | .region _ ops draw => regE x (runReg rc ry (stageReg P N ops draw) x.t x.s)
  | .seq a b => thenS (rec N ro b) (rec N ro a x)
  | .cond c a b => condS (opd c) x (rec N ro a) (rec N ro b)
  | .block id b => blockS id (rec N ro b x)
  | .loop b => thenS (rec N ro (.loop b)) (rec N ro b x)
  | .exit i => some (.exit i, x)
  | .ret => some (.ret, x)
  | .rangeFunc f ps asg body => rangeS rc (fun x c => rec N ro c x) N ro (opd f) ps.toList asg body x
  | _ => none

/-- results -/
def resV (P : Program) (t : T AV) (s : St) : ResultVar → Option AV
  | .tmp k => some (Opd.ev t (.tmp (path k)))
  | .cell a ty => match P.underlying ty with
    | some _ => loadA (aggT P ty) (P.cellsOf ty) s (Opd.ev t (.tmp (path a)))
    | none => none
def resC (v : Option AV) (r : Option (List AV)) : Option (List AV) := match v with | some v => consO v r | none => none
def resL (P : Program) (t : T AV) (s : St) (l : List ResultVar) : Option (List AV) := List.rec (some []) (fun r _ ih => resC (resV P t s r) ih) l
def resA : Option (List AV) → Option AV
  | some [v] => some v
  | some l => some (.tup l)
  | none => none
def marksOk (s : St) (l : List Nat) : Bool := lall (fun id => match s.at id with | some .dfr => true | _ => false) l
def retS (P : Program) (fn : Func) : Option (Ex × FS) → Option (AV × St)
  | some (.exit _, _) => none
  | some (_, x) => bif marksOk x.s x.df then (match resA (resL P x.t x.s fn.results.toList) with | some v => some (v, x.s) | none => none) else none
  | none => none
def frameL (args : List AV) : Nat → T AV → T AV := List.rec (fun _ t => t) (fun a _ ih k t => ih (k + 1) (t.set (path k) a)) args
abbrev Ov := FuncId → Option (RC → List AV → St → Option (AV × St))
def callC (P : Program) (rec : RJ) (fn : Func) (args : List AV) (s : St) : Option (AV × St) :=
  match fn.body with
  | none => none
  | some c => bif Nat.ble (llen args) fn.ntmps then retS P fn (rec fn.ntmps none c ⟨frameL args 0 .e, [], s⟩) else none
def callN (P : Program) (rec : RJ) : RC := fun f args s =>
  match P.funcs[f]? with
  | some fn => callC P rec fn args s
  | none => none
def callF (P : Program) (ov : Ov) (rec : RJ) : RC := fun f args s =>
  match ov f with
  | some g => g (callN P rec) args s
  | none => match P.funcs[f]? with
    | some fn => callC P rec fn args s
    | none => none

def jumpOf : Ex → Option Code
  | .normal => none
  | .ret => some .ret
  | .exit i => some (.exit i)
def endRd (l : Nat) : Option (Ex × FS) → Option (AV × St)
  | some (e, x) => (match x.s.at l with
    | some (.loop _ _ N t ps asg body dfr) => (match jumpOf e with
      | none => some (.bool true, x.s.put l (.loop .ready none N t ps asg body dfr))
      | some c => some (.bool false, x.s.put l (.loop .done (some c) N t ps asg body dfr)))
    | _ => none)
  | none => none
def bodyRd (rec : RJ) (l : Nat) (body : Code) (N : Nat) : Option (Ex × FS) → Option (AV × St)
  | some (.normal, x) => (match x.s.at l with
    | some (.loop .ready pend N' t ps asg bd dfr) => endRd l (rec N (some l) body ⟨x.t, x.df, x.s.put l (.loop .busy pend N' t ps asg bd dfr)⟩)
    | _ => none)
  | _ => none
def yieldF (rec : RJ) : RY := fun l args s =>
  match s.at l with
  | some (.loop _ _ N t ps asg body _) => (match setAll N ps args t with
    | some t => bodyRd rec l body N (rec N (some l) asg ⟨t, [], s⟩)
    | none => none)
  | _ => none

def run (P : Program) (ov : Ov) (n : Nat) : RJ :=
  Nat.rec (fun _ _ _ _ => none) (fun _ ih => code P (callF P ov ih) (yieldF ih) ih) n
def call (P : Program) (ov : Ov) (n : Nat) : RC := callF P ov (run P ov n)

end
end Go.Ab
