/- THE ABSTRACT EVALUATOR: its words. Programs are run on abstract values: a block has an id, not a number; a slice that has grown has an unknown capacity. Deterministic, made for the kernel. -/
import Derived.RangeFuncLeaves
import Derived.OrdersIn
namespace Go.Ab
noncomputable section

/-! ### tries: by paths of bits -/
inductive T (α : Type) where
  | e
  | n (l : T α) (v : Option α) (r : T α)

def pathF (f : Nat) : Nat → List Bool :=
  Nat.rec (fun _ => []) (fun _ ih k => Nat.rec [] (fun k _ => Nat.beq (Nat.mod k 2) 0 :: ih (Nat.div k 2)) k) f
def path (k : Nat) : List Bool := pathF k k

def T.get {α : Type} (p : List Bool) : T α → Option α :=
  List.rec (fun t => T.rec none (fun _ v _ _ _ => v) t)
    (fun b _ ih t => T.rec none (fun l _ r _ _ => Bool.rec (ih r) (ih l) b) t) p
def T.set {α : Type} (p : List Bool) : T α → α → T α :=
  List.rec (fun t x => T.rec (.n .e (some x) .e) (fun l _ r _ _ => .n l (some x) r) t)
    (fun b _ ih t x => T.rec (Bool.rec (.n .e none (ih .e x)) (.n (ih .e x) none .e) b)
      (fun l v r _ _ => Bool.rec (.n l v (ih r x)) (.n (ih l x) v r) b) t) p

/-! ### lists, by their recursors (the kernel's pace hangs on it) -/
def lapp {α : Type} (l m : List α) : List α := List.rec m (fun a _ ih => a :: ih) l
def lmap {α β : Type} (f : α → β) (l : List α) : List β := List.rec [] (fun a _ ih => f a :: ih) l
def lall {α : Type} (f : α → Bool) (l : List α) : Bool := List.rec true (fun a _ ih => bif f a then ih else false) l
def lany {α : Type} (f : α → Bool) (l : List α) : Bool := List.rec false (fun a _ ih => bif f a then true else ih) l
def llenA {α : Type} (l : List α) : Nat → Nat := List.rec (fun n => n) (fun _ _ ih n => bif Nat.beq n 18446744073709551616 then ih (Nat.add n 1) else ih (Nat.add n 1)) l
def llen {α : Type} (l : List α) : Nat := llenA l 0
def lnth {α : Type} (l : List α) : Nat → Option α := List.rec (fun _ => none) (fun a _ ih k => Nat.rec (some a) (fun k _ => ih k) k) l
def consO {α : Type} (a : α) : Option (List α) → Option (List α)
  | some r => some (a :: r)
  | none => none

/-! ### values -/
inductive AV where
  | bool (b : Bool) | int (k : IntKind) (n : Int) | str (s : List Nat)
  | nilp | ptr (id off : Nat)
  | nils | sle | sl (id off len : Nat) (cap : Option Nat)
  | nilm | mp (id : Nat)
  | fn (f : Fn) (first captured : List AV) | nilf
  | nili | iface (t : TypeId) (v : AV)
  | agg (cs : List AV) | tup (vs : List AV)
  | var (id it : Nat)

abbrev undefA : AV := .tup []

/-- constants of the code, and zero values -/
def AV.of : Nat → Value → Option AV
  | 0, _ => none
  | f + 1, v => match v with
    | .bool b => some (.bool b)
    | .int k n => some (.int k n)
    | .string s => some (.str (s.data.toList.map UInt8.toNat))
    | .pointer none => some .nilp
    | .slice none 0 0 => some .nils
    | .map none => some .nilm
    | .nilFunc => some .nilf
    | .nilIface => some .nili
    | .agg cs => (cs.toList.mapM (AV.of f)).map .agg
    | .tuple cs => (cs.toList.mapM (AV.of f)).map .tup
    | _ => none

def AV.cells : AV → List AV
  | .agg cs => cs
  | v => [v]

structure AE where
  k : AV
  v : AV
  born : Nat

inductive ABlk where
  | cells (c : List AV) (elem : TypeId) (opn : Bool)
  | map (es : List AE) (clock : Nat)
  | iter (m : Nat) (since : Nat) (seen : List Nat) (stepped : Nat)
  | iterN (m : Nat) (since : Nat) (es : List AE) (vs : List Nat) (stepped : Nat)
  | nilIter
  | loop (st : LoopState) (pend : Option Code) (N : Nat) (t : T AV) (ps : List Tmp) (asg body : Code) (dfr : Nat)
  | dfr

structure St where
  h : T ABlk
  nx : Nat

def St.at (s : St) (id : Nat) : Option ABlk := s.h.get (path id)
def St.put (s : St) (id : Nat) (b : ABlk) : St := ⟨s.h.set (path id) b, s.nx⟩
def St.new (s : St) (b : ABlk) : St := ⟨s.h.set (path s.nx) b, s.nx + 1⟩

/-! ### numbers -/
def iblt : Int → Int → Bool
  | .ofNat a, .ofNat b => Nat.blt a b
  | .ofNat _, .negSucc _ => false
  | .negSucc _, .ofNat _ => true
  | .negSucc a, .negSucc b => Nat.blt b a
def ible (a b : Int) : Bool := !iblt b a
def ibeq : Int → Int → Bool
  | .ofNat a, .ofNat b => Nat.beq a b
  | .negSucc a, .negSucc b => Nat.beq a b
  | _, _ => false
def wrapU (m : Nat) (n : Int) : Nat := match n with
  | .ofNat a => a % m
  | .negSucc a => m - 1 - a % m
def wrapS (m h : Nat) (n : Int) : Int := bif Nat.ble h (wrapU m n) then .negSucc (m - wrapU m n - 1) else .ofNat (wrapU m n)
def kix : IntKind → Nat
  | .i8 => 0 | .i16 => 1 | .i32 => 2 | .i64 => 3 | .u8 => 4 | .u16 => 5 | .u32 => 6 | .u64 => 7
def kbeq (a b : IntKind) : Bool := Nat.beq (kix a) (kix b)
def modK : IntKind → Nat
  | .i8 | .u8 => 256
  | .i16 | .u16 => 65536
  | .i32 | .u32 => 4294967296
  | .i64 | .u64 => 18446744073709551616
def bitsK : IntKind → Nat
  | .i8 | .u8 => 8 | .i16 | .u16 => 16 | .i32 | .u32 => 32 | .i64 | .u64 => 64
def wrapK : IntKind → Int → Int
  | .i8, n => wrapS 256 128 n
  | .i16, n => wrapS 65536 32768 n
  | .i32, n => wrapS 4294967296 2147483648 n
  | .i64, n => wrapS 18446744073709551616 9223372036854775808 n
  | .u8, n => .ofNat (wrapU 256 n)
  | .u16, n => .ofNat (wrapU 65536 n)
  | .u32, n => .ofNat (wrapU 4294967296 n)
  | .u64, n => .ofNat (wrapU 18446744073709551616 n)
def pat (k : IntKind) (n : Int) : Nat := wrapU (modK k) n

def intOp (op : BinOp) (k : IntKind) (x y : Int) : Option AV :=
  match op with
  | .add => some (.int k (wrapK k (x + y)))
  | .sub => some (.int k (wrapK k (x - y)))
  | .mul => some (.int k (wrapK k (x * y)))
  | .quo => bif ibeq y 0 then none else some (.int k (wrapK k (x.tdiv y)))
  | .rem => bif ibeq y 0 then none else some (.int k (x.tmod y))
  | .and => some (.int k (wrapK k (.ofNat (Nat.land (pat k x) (pat k y)))))
  | .or => some (.int k (wrapK k (.ofNat (Nat.lor (pat k x) (pat k y)))))
  | .xor => some (.int k (wrapK k (.ofNat (Nat.xor (pat k x) (pat k y)))))
  | .andNot => some (.int k (wrapK k (.ofNat (Nat.land (pat k x) (modK k - 1 - pat k y)))))
  | .eql => some (.bool (ibeq x y))
  | .neq => some (.bool (!ibeq x y))
  | .lss => some (.bool (iblt x y))
  | .leq => some (.bool (ible x y))
  | .gtr => some (.bool (iblt y x))
  | .geq => some (.bool (ible y x))
  | _ => none

def shiftOp (op : BinOp) (k : IntKind) (x y : Int) : Option AV :=
  match y with
  | .negSucc _ => none
  | .ofNat y => match op with
    | .shl => some (.int k (wrapK k (x * .ofNat (2 ^ (bif Nat.ble y (bitsK k) then y else bitsK k)))))
    | .shr => some (.int k (x.fdiv (.ofNat (2 ^ (bif Nat.ble y (bitsK k) then y else bitsK k)))))
    | _ => none

def lbeq (x : List Nat) : List Nat → Bool :=
  List.rec (fun y => List.rec true (fun _ _ _ => false) y) (fun a _ ih y => List.rec false (fun b r _ => bif Nat.beq a b then ih r else false) y) x
def llt (x : List Nat) : List Nat → Bool :=
  List.rec (fun y => List.rec false (fun _ _ _ => true) y)
    (fun a _ ih y => List.rec false (fun b r _ => bif Nat.blt a b then true else bif Nat.beq a b then ih r else false) y) x

def strOp (op : BinOp) (x y : List Nat) : Option AV :=
  match op with
  | .add => bif Nat.ble (llen x + (llen y)) 9223372036854775807 then some (.str (lapp x y)) else none
  | .eql => some (.bool (lbeq x y))
  | .neq => some (.bool (!lbeq x y))
  | .lss => some (.bool (llt x y))
  | .leq => some (.bool (llt x y || lbeq x y))
  | .gtr => some (.bool (!(llt x y || lbeq x y)))
  | .geq => some (.bool (!llt x y))
  | _ => none

/-! ### types -/
def aggT (P : Program) (t : TypeId) : Bool := match P.underlying t with | some (.struct _) | some (.array ..) => true | _ => false
def zeroA (P : Program) (t : TypeId) : Option AV := ((P.info? t).bind (·.zero)).bind (AV.of 5)

/-! ### cells -/
def takeE {α : Type} (n : Nat) : List α → Option (List α) :=
  Nat.rec (fun _ => some []) (fun _ ih l => List.rec none (fun a r _ => consO a (ih r)) l) n
/-- just so many, from a place on -/
def seg {α : Type} (k n : Nat) (l : List α) : Option (List α) :=
  Nat.rec (takeE n) (fun _ ih l => List.rec (takeE n []) (fun _ r _ => ih r) l) k l
def ovr {α : Type} (xs : List α) : List α → Option (List α) :=
  List.rec (fun l => some l) (fun x _ ih l => List.rec none (fun _ r _ => consO x (ih r)) l) xs
/-- cells from a place on written over -/
def setL {α : Type} (k : Nat) (xs l : List α) : Option (List α) :=
  Nat.rec (ovr xs) (fun _ ih l => List.rec (ovr xs []) (fun a r _ => consO a (ih r)) l) k l

def oneA : AV → Bool
  | .agg _ => false
  | .tup _ => false
  | _ => true
/-- cells written into a block: each of one cell -/
def setC (k : Nat) (xs l : List AV) : Option (List AV) := bif lall oneA xs then setL k xs l else none

def partA (agg : Bool) (sz : Nat) (cs : List AV) (off : Nat) : Option AV :=
  bif agg then (match seg off sz cs with | some l => some (.agg l) | none => none) else lnth cs off

def loadA (agg : Bool) (sz : Nat) (s : St) (a : AV) : Option AV :=
  match a with
  | .ptr id off => match s.at id with
    | some (.cells c _ _) => partA agg sz c off
    | _ => none
  | _ => none

def storeA (sz : Nat) (s : St) (a x : AV) : Option (AV × St) :=
  match a with
  | .ptr id off => match s.at id with
    | some (.cells c e o) => bif Nat.beq (llen x.cells) sz then
        (match setC off x.cells c with | some c => some (undefA, s.put id (.cells c e o)) | none => none) else none
    | _ => none
  | _ => none

/-! ### equality at a type -/
inductive EqT where
  | bool | ptr | ifc (c : Bool) | sl | mp | fn
def aeqBase (q : EqT) (x y : AV) : Option Bool :=
  match q, x, y with
  | .bool, .bool a, .bool b => some (a == b)
  | .ptr, .nilp, .nilp => some true
  | .ptr, .nilp, .ptr .. => some false
  | .ptr, .ptr .., .nilp => some false
  | .ifc true, .nili, .nili => some true
  | .ifc _, .nili, .iface .. => some false
  | .ifc _, .iface .., .nili => some false
  | .sl, .nils, .nils => some true
  | .sl, .nils, .sl .. => some false
  | .sl, .sl .., .nils => some false
  | .sl, .nils, .sle => some false
  | .sl, .sle, .nils => some false
  | .mp, .nilm, .nilm => some true
  | .mp, .nilm, .mp .. => some false
  | .mp, .mp .., .nilm => some false
  | .fn, .nilf, .nilf => some true
  | .fn, .nilf, .fn .. => some false
  | .fn, .fn .., .nilf => some false
  | _, _, _ => none

/-! ### operands -/
inductive Opd where
  | tmp (p : List Bool)
  | cst (v : AV)
def Opd.ev (t : T AV) : Opd → AV
  | .tmp p => match t.get p with | some v => v | none => undefA
  | .cst v => v
def opd : Operand → Option Opd
  | .tmp k => some (.tmp (path k))
  | .const v => match AV.of 5 v with | some v => some (.cst v) | none => none
  | .func f => some (.cst (.fn (.func f) [] []))
  | .global _ => none
def evs (t : T AV) (l : List Opd) : List AV := List.rec [] (fun o _ ih => o.ev t :: ih) l
def evps (t : T AV) (l : List (Nat × Opd)) : List (Nat × AV) := List.rec [] (fun o _ ih => (o.1, o.2.ev t) :: ih) l

/-! ### what an operation is: it reads; it makes one block; it acts; it calls -/
inductive AK where
  | ptr | sl (len : Nat) (cap : Option Nat) | mp
def AK.val (id : Nat) : AK → AV
  | .ptr => .ptr id 0
  | .sl n c => .sl id 0 n c
  | .mp => .mp id

inductive OpK where
  | pu (f : T AV → Option AV)
  | rd (f : T AV → St → Option AV)
  | al (f : T AV → Option (ABlk × AK))
  | ef (f : T AV → St → Option (AV × St))
  | cl (f : Opd) (args : List Opd)

def k_move (x : Opd) : T AV → Option AV := fun t => some (x.ev t)
def pickA (c a b : AV) : Option AV := match c with | .bool true => some a | .bool false => some b | _ => none
def k_pick (c a b : Opd) : T AV → Option AV := fun t => pickA (c.ev t) (a.ev t) (b.ev t)
def eqO (neg : Bool) : Option Bool → Option AV
  | some b => some (.bool (bif neg then !b else b))
  | none => none
def binI (op : BinOp) (k k' : IntKind) (a b : Int) : Option AV :=
  match op with
  | .shl => shiftOp .shl k a b
  | .shr => shiftOp .shr k a b
  | op => bif kbeq k k' then intOp op k a b else none
def binE (q : Option EqT) (op : BinOp) (x y : AV) : Option AV :=
  match q, op with
  | some q, .eql => eqO false (aeqBase q x y)
  | some q, .neq => eqO true (aeqBase q x y)
  | _, _ => none
def binA (q : Option EqT) (op : BinOp) (x y : AV) : Option AV :=
  match x, y with
  | .int k a, .int k' b => binI op k k' a b
  | .str a, .str b => strOp op a b
  | x, y => binE q op x y
def k_bin (q : Option EqT) (op : BinOp) (x y : Opd) : T AV → Option AV := fun t => binA q op (x.ev t) (y.ev t)
def nilA : AV → Option AV
  | .ptr i o => some (.ptr i o)
  | .fn (.func f) b c => some (.fn (.func f) b c)
  | .fn (.yield f) b c => some (.fn (.yield f) b c)
  | _ => none
def k_nil (x : Opd) : T AV → Option AV := fun t => nilA (x.ev t)
def faA (off : Nat) : AV → Option AV
  | .ptr id o => some (.ptr id (o + off))
  | _ => none
def k_fa (off : Nat) (x : Opd) : T AV → Option AV := fun t => faA off (x.ev t)
def fieldA (agg : Bool) (sz off : Nat) : AV → Option AV
  | .agg cs => partA agg sz cs off
  | _ => none
def k_field (agg : Bool) (sz off : Nat) (x : Opd) : T AV → Option AV := fun t => fieldA agg sz off (x.ev t)
def idxA (x i : AV) (sz : Nat) (n : Option Nat) : Option AV :=
  match x, i with
  | .ptr id off, .int _ (.ofNat k) => match n with
    | some n => bif Nat.blt k n then some (.ptr id (off + k * sz)) else none
    | none => none
  | .sl id off len _, .int _ (.ofNat k) => match n with
    | some _ => none
    | none => bif Nat.blt k len then some (.ptr id (off + k * sz)) else none
  | _, _ => none
def k_ia (sz : Nat) (n : Option Nat) (x i : Opd) : T AV → Option AV := fun t => idxA (x.ev t) (i.ev t) sz n
def indA (x i : AV) : Option AV :=
  match x, i with
  | .str s, .int _ (.ofNat k) => match lnth s k with | some b => some (.int .u8 (.ofNat b)) | none => none
  | _, _ => none
def k_ind (x i : Opd) : T AV → Option AV := fun t => indA (x.ev t) (i.ev t)
def indArrA (agg : Bool) (sz n : Nat) (x i : AV) : Option AV :=
  match x, i with
  | .agg cs, .int _ (.ofNat k) => bif Nat.blt k n then partA agg sz cs (k * sz) else none
  | _, _ => none
def k_inda (agg : Bool) (sz n : Nat) (x i : Opd) : T AV → Option AV := fun t => indArrA agg sz n (x.ev t) (i.ev t)
def extA (i : Nat) : AV → Option AV
  | .tup l => lnth l i
  | _ => none
def k_ext (i : Nat) (x : Opd) : T AV → Option AV := fun t => extA i (x.ev t)
def unA (op : UnOp) (x : AV) : Option AV :=
  match op, x with
  | .neg, .int k n => intOp .sub k 0 n
  | .not, .bool b => some (.bool (!b))
  | _, _ => none
def k_un (op : UnOp) (x : Opd) : T AV → Option AV := fun t => unA op (x.ev t)
def k_fn (f : Fn) (a b : List Opd) : T AV → Option AV := fun t => some (.fn f (evs t a) (evs t b))
def k_if (ty : TypeId) (x : Opd) : T AV → Option AV := fun t => some (.iface ty (x.ev t))
def cvA (k : IntKind) : AV → Option AV
  | .int _ n => some (.int k (wrapK k n))
  | _ => none
def k_cv (k : IntKind) (x : Opd) : T AV → Option AV := fun t => cvA k (x.ev t)
def strA : AV → Option AV
  | .str b => some (.str b)
  | _ => none
def k_str (x : Opd) : T AV → Option AV := fun t => strA (x.ev t)

def fill1 (v : AV) (cells : List AV) : Option (Nat × Nat) → Option (List AV)
  | some (off, sz) => bif Nat.beq (llen v.cells) sz && !Nat.beq sz 0 then setL off v.cells cells else none
  | none => none
def bindL (f : List AV → Option (List AV)) : Option (List AV) → Option (List AV)
  | some c => f c
  | none => none
def fillA (place : Nat → Option (Nat × Nat)) (ps : List (Nat × AV)) : List AV → Option (List AV) :=
  List.rec (fun c => some c) (fun p _ ih c => bindL ih (fill1 p.2 c (place p.1))) ps
def placeF (P : Program) (fs : Array Field) (i : Nat) : Option (Nat × Nat) :=
  match fs[i]? with | some f => some (f.offset, P.cellsOf f.type) | none => none
def placeE (sz : Nat) (i : Nat) : Option (Nat × Nat) := some (i * sz, sz)
def aggO : Option (List AV) → Option AV
  | some c => some (.agg c)
  | none => none
def k_build (place : Nat → Option (Nat × Nat)) (z : AV) (ps : List (Nat × Opd)) : T AV → Option AV :=
  fun t => aggO (fillA place (evps t ps) z.cells)

def rep {α : Type} (n : Nat) (l : List α) : List α := Nat.rec [] (fun _ ih => lapp l ih) n

/-! ### reading -/
def k_load (agg : Bool) (sz : Nat) (a : Opd) : T AV → St → Option AV := fun t s => loadA agg sz s (a.ev t)

def sliceB (x : Option AV) (hi d : Nat) : Option Nat :=
  match x with
  | none => some d
  | some (.int _ (.ofNat n)) => bif Nat.ble n hi then some n else none
  | _ => none
def strO : Option (List Nat) → Option AV
  | some r => some (.str r)
  | none => none
def strLo (b : List Nat) (h : Nat) : Option Nat → Option AV
  | some l => strO (seg l (h - l) b)
  | none => none
def strHi (b : List Nat) (lo : Option AV) : Option Nat → Option AV
  | some h => strLo b h (sliceB lo h 0)
  | none => none
def sliceStr (b : List Nat) (lo hi : Option AV) : Option AV :=
  strHi b lo (sliceB hi (llen b) (llen b))
/-- how far an unknown capacity reaches for sure -/
def sureCap (s : St) (e : TypeId) (sz id off : Nat) : Option Nat :=
  match s.at id with
  | some (.cells c ce _) => bif Nat.beq ce e then some ((llen c - off) / sz) else none
  | _ => none
def hiB (hi mx : Option AV) (m d : Nat) : Option Nat :=
  match hi, mx with
  | none, some _ => none
  | hi, _ => sliceB hi m d
def slRes (sz id off m : Nat) (h : Nat) : Option Nat → Option AV
  | some l => some (.sl id (bif Nat.beq m l then off else off + l * sz) (h - l) (some (m - l)))
  | none => none
def slHi (sz id off m : Nat) (lo : Option AV) : Option Nat → Option AV
  | some h => slRes sz id off m h (sliceB lo h 0)
  | none => none
def slMx (sz id off len : Nat) (lo hi mx : Option AV) : Option Nat → Option AV
  | some m => slHi sz id off m lo (hiB hi mx m len)
  | none => none
def slResU (sz id off : Nat) (h : Nat) : Option Nat → Option AV
  | some l => bif Nat.beq l 0 then some (.sl id off h none) else bif Nat.beq h l then some .sle else some (.sl id (off + l * sz) (h - l) none)
  | none => none
def slHiU (sz id off : Nat) (lo : Option AV) : Option Nat → Option AV
  | some h => slResU sz id off h (sliceB lo h 0)
  | none => none
def slSure (sz id off len : Nat) (lo hi : Option AV) : Option Nat → Option AV
  | some k => slHiU sz id off lo (sliceB hi (bif Nat.ble k len then len else k) len)
  | none => none
def slMxU (sz id off len : Nat) (lo hi mx : Option AV) : Option Nat → Option AV
  | some m => slHi sz id off m lo (hiB hi mx m len)
  | none => none
def sliceSl (s : St) (e : TypeId) (sz id off len : Nat) (cap : Option Nat) (lo hi mx : Option AV) : Option AV :=
  match cap with
  | some k => slMx sz id off len lo hi mx (sliceB mx k k)
  | none => match mx with
    | none => slSure sz id off len lo hi (sureCap s e sz id off)
    | some v => slMxU sz id off len lo hi (some v) (sliceB (some v) len 0)
def sliceArr (sz n id off : Nat) (lo hi mx : Option AV) : Option AV := slMx sz id off n lo hi mx (sliceB mx n n)
def nilLo : Option Nat → Option AV
  | some _ => some .nils
  | none => none
def nilHi (lo : Option AV) : Option Nat → Option AV
  | some h => nilLo (sliceB lo h 0)
  | none => none
def nilMx (lo hi mx : Option AV) : Option Nat → Option AV
  | some m => nilHi lo (hiB hi mx m 0)
  | none => none
def sliceStrA (x : AV) (lo hi : Option AV) : Option AV :=
  match x with
  | .str b => sliceStr b lo hi
  | _ => none
def sliceSlA (s : St) (e : TypeId) (sz : Nat) (x : AV) (lo hi mx : Option AV) : Option AV :=
  match x with
  | .nils => nilMx lo hi mx (sliceB mx 0 0)
  | .sl id off len cap => sliceSl s e sz id off len cap lo hi mx
  | _ => none
def sliceArrA (sz n : Nat) (x : AV) (lo hi mx : Option AV) : Option AV :=
  match x with
  | .ptr id off => sliceArr sz n id off lo hi mx
  | _ => none
def evo (t : T AV) (o : Option Opd) : Option AV := match o with | some o => some (o.ev t) | none => none
def k_slStr (x : Opd) (lo hi : Option Opd) : T AV → Option AV := fun t => sliceStrA (x.ev t) (evo t lo) (evo t hi)
def k_slSl (e : TypeId) (sz : Nat) (x : Opd) (lo hi mx : Option Opd) : T AV → St → Option AV := fun t s => sliceSlA s e sz (x.ev t) (evo t lo) (evo t hi) (evo t mx)
def k_slArr (sz n : Nat) (x : Opd) (lo hi mx : Option Opd) : T AV → Option AV := fun t => sliceArrA sz n (x.ev t) (evo t lo) (evo t hi) (evo t mx)

def byteA : AV → Option Nat
  | .int .u8 (.ofNat n) => bif Nat.blt n 256 then some n else none
  | _ => none
def consB (r : Option (List Nat)) : Option Nat → Option (List Nat)
  | some n => consO n r
  | none => none
def bytesA (l : List AV) : Option (List Nat) := List.rec (some []) (fun a _ ih => consB ih (byteA a)) l
def b2sA (s : St) : AV → Option AV
  | .nils => some (.str [])
  | .sle => some (.str [])
  | .sl id off len _ => match s.at id with
    | some (.cells c _ _) => match seg off len c with
      | some r => match bytesA r with | some b => some (.str b) | none => none
      | none => none
    | _ => none
  | _ => none
def k_b2s (x : Opd) : T AV → St → Option AV := fun t s => b2sA s (x.ev t)

/-! keys: numbers, truths, texts, and structs of these -/
inductive KQ where
  | i | b | s
def keyEq (q : KQ) (x y : AV) : Option Bool :=
  match q, x, y with
  | .i, .int k a, .int k' b => bif kbeq k k' then some (ibeq a b) else none
  | .b, .bool a, .bool b => some (a == b)
  | .s, .str a, .str b => some (lbeq a b)
  | _, _, _ => none
def find1 (e : AE) (ih : Option (Option AV)) : Option Bool → Option (Option AV)
  | some true => some (some e.v)
  | some false => ih
  | none => none
def findA (q : KQ) (k : AV) (l : List AE) : Option (Option AV) := List.rec (some none) (fun e _ ih => find1 e ih (keyEq q k e.k)) l
def mapES (s : St) : AV → Option (List AE)
  | .nilm => some []
  | .mp id => match s.at id with | some (.map es _) => some es | _ => none
  | _ => none
def lookA (q : KQ) (z : AV) (ok : Bool) (k : AV) (es : List AE) : Option AV :=
  match findA q k es with
  | some (some x) => some (bif ok then .tup [x, .bool true] else x)
  | some none => some (bif ok then .tup [z, .bool false] else z)
  | none => none
def k_look (q : KQ) (z : AV) (ok : Bool) (m k : Opd) : T AV → St → Option AV :=
  fun t s => match mapES s (m.ev t) with | some es => lookA q z ok (k.ev t) es | none => none

def lenS : AV → Option AV
  | .str b => some (.int .i64 (.ofNat (llen b)))
  | _ => none
def lenL : AV → Option AV
  | .nils => some (.int .i64 0)
  | .sle => some (.int .i64 0)
  | .sl _ _ n _ => some (.int .i64 (.ofNat n))
  | _ => none
def lenM (s : St) (x : AV) : Option AV :=
  match mapES s x with
  | some es => some (.int .i64 (.ofNat (llen es)))
  | none => none
def k_lenS (x : Opd) : T AV → Option AV := fun t => lenS (x.ev t)
def k_lenL (x : Opd) : T AV → Option AV := fun t => lenL (x.ev t)
def k_lenM (x : Opd) : T AV → St → Option AV := fun t s => lenM s (x.ev t)
def capA : AV → Option AV
  | .nils => some (.int .i64 0)
  | .sl _ _ _ (some c) => some (.int .i64 (.ofNat c))
  | _ => none
def k_cap (x : Opd) : T AV → Option AV := fun t => capA (x.ev t)
def min2A (mx : Bool) : AV → AV → Option AV
  | .int k a, .int k' b => bif kbeq k k' then some (.int k (bif (bif mx then iblt a b else iblt b a) then b else a)) else none
  | _, _ => none
def bindV (f : AV → Option AV) : Option AV → Option AV
  | some v => f v
  | none => none
def minA (mx : Bool) (l : List AV) : AV → Option AV := List.rec (fun x => some x) (fun y _ ih x => bindV ih (min2A mx x y)) l
def k_min (mx : Bool) (x : Opd) (r : List Opd) : T AV → Option AV := fun t => minA mx (evs t r) (x.ev t)

def bornA (b : Nat) (l : List AE) : Option AE := List.rec none (fun e _ ih => bif Nat.beq e.born b then some e else ih) l
def entry1 : Option AE → Option AV
  | some e => some (.tup [e.k, e.v])
  | none => none
def varsE (it : Nat) : List Nat → Option AV
  | i :: _ => some (.tup [.var i it, .var (i + 1) it])
  | [] => none
def plainA : AV → Bool
  | .int _ _ => true
  | .str _ => true
  | _ => false
def plainEqA : AV → AV → Bool
  | .int k a, .int k' b => kbeq k k' && ibeq a b
  | .str a, .str b => lbeq a b
  | _, _ => false
def freshB (b : Nat) (l : List AE) : Bool := lall (fun e => !Nat.beq b e.born) l
/-- entries whose keys and values are numbers and texts, all elder than the loop, no two of one stamp -/
def entsOk (since : Nat) (l : List AE) : Bool := List.rec true (fun e r ih => bif plainA e.k && plainA e.v && Nat.blt e.born since && freshB e.born r then ih else false) l
def entsEq (x : List AE) : List AE → Bool :=
  List.rec (fun y => List.rec true (fun _ _ _ => false) y) (fun a _ ih y => List.rec false (fun b r _ => bif Nat.beq a.born b.born && plainEqA a.k b.k && plainEqA a.v b.v then ih r else false) y) x
def entryN (it since stepped : Nat) (es0 : List AE) (vs : List Nat) (es : List AE) (clock : Nat) : Option AV :=
  bif Nat.beq clock stepped && entsOk since es && entsEq es es0 then varsE it vs else none
def entryA (s : St) : AV → Option AV
  | .ptr id 0 => match s.at id with
    | some (.iter m _ seen stepped) => match s.at m with
      | some (.map es clock) => bif Nat.beq clock stepped then (match seen with
        | b :: _ => entry1 (bornA b es)
        | [] => none) else none
      | _ => none
    | some (.iterN m since es0 vs stepped) => match s.at m with
      | some (.map es clock) => entryN id since stepped es0 vs es clock
      | _ => none
    | _ => none
  | _ => none
def k_entry (x : Opd) : T AV → St → Option AV := fun t s => entryA s (x.ev t)

/-! ### making a block -/
def k_alloc (e : TypeId) (z : AV) : T AV → Option (ABlk × AK) := fun _ => some (.cells z.cells e false, .ptr)
def k_box (e : TypeId) (x : Opd) : T AV → Option (ABlk × AK) := fun t => some (.cells (x.ev t).cells e false, .ptr)
def bsA (e : TypeId) (len : Nat) : Option (List AV) → Option (ABlk × AK)
  | some c => some (.cells c e false, .sl len (some len))
  | none => none
def k_bs (e : TypeId) (sz len : Nat) (z : List AV) (ps : List (Nat × Opd)) : T AV → Option (ABlk × AK) :=
  fun t => bsA e len (fillA (placeE sz) (evps t ps) z)
def k_mm : T AV → Option (ABlk × AK) := fun _ => some (.map [] 0, .mp)
def msA (e : TypeId) (bytes : Nat) (z : List AV) : AV → AV → Option (ABlk × AK)
  | .int .i64 (.ofNat l), .int .i64 (.ofNat c) =>
    bif Nat.ble l c && Nat.ble (bytes * c) 1048576 && Nat.ble c 1048576 then some (.cells (rep c z) e false, .sl l (some c)) else none
  | _, _ => none
def k_ms (e : TypeId) (bytes : Nat) (z : List AV) (l c : Opd) : T AV → Option (ABlk × AK) := fun t => msA e bytes z (l.ev t) (c.ev t)
def s2bA (e : TypeId) : AV → Option (ABlk × AK)
  | .str b => some (.cells (lmap (fun n => AV.int .u8 (.ofNat n)) b) e true, .sl (llen b) none)
  | _ => none
def k_s2b (e : TypeId) (x : Opd) : T AV → Option (ABlk × AK) := fun t => s2bA e (x.ev t)
def rgA : AV → Option (ABlk × AK)
  | .nilm => some (.nilIter, .ptr)
  | _ => none

/-! ### acting -/
def k_store (sz : Nat) (a x : Opd) : T AV → St → Option (AV × St) := fun t s => storeA sz s (a.ev t) (x.ev t)

def alen : AV → Option Nat
  | .nils => some 0
  | .sle => some 0
  | .sl _ _ n _ => some n
  | .str b => some (llen b)
  | _ => none
def elemsA (s : St) (n sz : Nat) : AV → Option (List AV)
  | .nils => some []
  | .sle => some []
  | .sl id off _ _ => match s.at id with
    | some (.cells c _ _) => seg off (n * sz) c
    | _ => none
  | .str b => bif Nat.beq sz 1 then (match takeE n b with | some b => some (lmap (fun x => AV.int .u8 (.ofNat x)) b) | none => none) else none
  | _ => none
def isStr : AV → Bool
  | .str _ => true
  | _ => false

def newSl (s : St) (b : ABlk) (len : Nat) : AV × St := (.sl s.nx 0 len none, s.new b)

def appRoom (off len n sz : Nat) (e ce : TypeId) (c : List AV) : Option Nat → Bool
  | some k => Nat.ble (len + n) k
  | none => Nat.beq ce e && Nat.ble (off + (len + n) * sz) (llen c)
/-- laid anew, cell by cell: what is built on it stays shallow -/
def revA {α : Type} (l : List α) : List α → List α := List.rec (fun acc => acc) (fun a _ ih acc => ih (a :: acc)) l
def lappX {α : Type} (l m : List α) : List α := revA (revA l []) m
def segX {α : Type} (k n : Nat) (l : List α) : Option (List α) := bif Nat.beq k 0 && Nat.beq n (llen l) then some l else seg k n l
def appIn (s : St) (id off len n : Nat) (cap : Option Nat) (ce : TypeId) (o : Bool) : Option (List AV) → Option (AV × St)
  | some c => some (.sl id off (len + n) cap, s.put id (.cells c ce o))
  | none => none
def appOut (e : TypeId) (s : St) (id off len n : Nat) (ce : TypeId) (new : List AV) (cap : Option Nat) : Option (List AV) → Option (AV × St)
  | some old => match cap with
    | some _ => some (newSl s (.cells (lappX old new) e true) (len + n))
    | none => bif Nat.beq off 0 && Nat.beq ce e && lall oneA new then
        -- it may grow in its place: the old block is given up
        some (newSl (s.put id .dfr) (.cells (lappX old new) e true) (len + n)) else none
  | none => none
def appSl (e : TypeId) (sz : Nat) (s : St) (id off len : Nat) (cap : Option Nat) (n : Nat) (new : List AV) : Option (AV × St) :=
  match s.at id with
  | some (.cells c ce o) =>
    bif appRoom off len n sz e ce c cap then appIn s id off len n cap ce o (setC (off + len * sz) new c)
    else appOut e s id off len n ce new cap (segX off (len * sz) c)
  | _ => none
def appendA (e : TypeId) (sz : Nat) (s : St) (x y : AV) : Option (AV × St) :=
  match alen y with
  | some n => match elemsA s n sz y with
    | some new => match x with
      | .nils => bif Nat.beq n 0 then some (.nils, s) else bif Nat.ble n 16777216 then some (newSl s (.cells new e true) n) else none
      | .sl id off len cap => bif Nat.ble (len + n) 16777216 then appSl e sz s id off len cap n new else none
      | _ => none
    | none => none
  | none => none
def k_app (e : TypeId) (sz : Nat) (x y : Opd) : T AV → St → Option (AV × St) := fun t s => appendA e sz s (x.ev t) (y.ev t)

def copyTo (s : St) (n : Nat) (new : List AV) : AV → Option (AV × St)
  | .nils => some (.int .i64 0, s)
  | .sle => some (.int .i64 0, s)
  | .sl id off _ _ => match s.at id with
    | some (.cells c ce o) => match setC off new c with
      | some c => some (.int .i64 (.ofNat n), s.put id (.cells c ce o))
      | none => none
    | _ => none
  | _ => none
def copyN (d x : AV) : Option Nat :=
  match alen d, alen x with
  | some a, some b => some (bif Nat.ble b a then b else a)
  | _, _ => none
def copyA (sz : Nat) (s : St) (d x : AV) : Option (AV × St) :=
  match copyN d x with
  | some n => match elemsA s n sz x with
    | some new => copyTo s n new d
    | none => none
  | none => none
def k_copy (sz : Nat) (d x : Opd) : T AV → St → Option (AV × St) := fun t s => copyA sz s (d.ev t) (x.ev t)

def updR (e : AE) : Option (List AE × Nat) → Option (List AE × Nat)
  | some (r, c) => some (e :: r, c)
  | none => none
def upd1 (k v : AV) (clock : Nat) (e : AE) (r : List AE) (ih : Option (List AE × Nat)) : Option Bool → Option (List AE × Nat)
  | some true => some (⟨k, v, e.born⟩ :: r, clock)
  | some false => updR e ih
  | none => none
def updL (q : KQ) (k v : AV) (clock : Nat) (l : List AE) : Option (List AE × Nat) :=
  List.rec (some ([⟨k, v, clock⟩], clock + 1)) (fun e r ih => upd1 k v clock e r ih (keyEq q k e.k)) l
def updA (q : KQ) (s : St) (m k v : AV) : Option (AV × St) :=
  match m with
  | .mp id => match s.at id with
    | some (.map es clock) => match updL q k v clock es with
      | some (es, clock) => some (undefA, s.put id (.map es clock))
      | none => none
    | _ => none
  | _ => none
def k_upd (q : KQ) (m k v : Opd) : T AV → St → Option (AV × St) := fun t s => updA q s (m.ev t) (k.ev t) (v.ev t)

def del1 (e : AE) (r : List AE) (ih : Option (List AE)) : Option Bool → Option (List AE)
  | some true => some r
  | some false => consO e ih
  | none => none
def delL (q : KQ) (k : AV) (l : List AE) : Option (List AE) := List.rec (some []) (fun e r ih => del1 e r ih (keyEq q k e.k)) l
def delA (q : KQ) (s : St) (m k : AV) : Option (AV × St) :=
  match m with
  | .mp id => match s.at id with
    | some (.map es clock) => match delL q k es with
      | some es => some (undefA, s.put id (.map es clock))
      | none => none
    | _ => none
  | _ => none
def k_del (q : KQ) (m k : Opd) : T AV → St → Option (AV × St) := fun t s => delA q s (m.ev t) (k.ev t)

def clearM (s : St) : AV → Option (AV × St)
  | .nilm => some (undefA, s)
  | .mp id => match s.at id with
    | some (.map _ clock) => some (undefA, s.put id (.map [] clock))
    | _ => none
  | _ => none
def k_clearM (x : Opd) : T AV → St → Option (AV × St) := fun t s => clearM s (x.ev t)
def clearL (s : St) (z : List AV) : AV → Option (AV × St)
  | .nils => some (undefA, s)
  | .sle => some (undefA, s)
  | .sl id off n _ => match s.at id with
    | some (.cells c ce o) => match setC off (rep n z) c with
      | some c => some (undefA, s.put id (.cells c ce o))
      | none => none
    | _ => none
  | _ => none
def k_clearL (z : List AV) (x : Opd) : T AV → St → Option (AV × St) := fun t s => clearL s z (x.ev t)

/-- the two builtins of strings.Builder.String -/
def sdA : AV → Option AV
  | .nils => some .nilp
  | .sl id off n _ => bif Nat.beq n 0 then none else some (.ptr id off)
  | _ => none
def k_sd (x : Opd) : T AV → Option AV := fun t => sdA (x.ev t)
def usRow (s : St) (id : Nat) : Option (List Nat) → Option (AV × St)
  | some b => some (.str b, s.put id .dfr)
  | none => none
def usB : Option (List AV) → Option (List Nat)
  | some l => bytesA l
  | none => none
def usA (e : TypeId) (s : St) (p n : AV) : Option (AV × St) :=
  match p, n with
  | .nilp, .int .i64 (.ofNat n) => bif Nat.beq n 0 then some (.str [], s) else none
  | .ptr id off, .int .i64 (.ofNat n) => match s.at id with
    | some (.cells c ce _) => bif Nat.beq off 0 && Nat.beq ce e && Nat.blt 0 n && Nat.ble n 9223372036854775807 then usRow s id (usB (seg 0 n c)) else none
    | _ => none
  | _, _ => none
def k_us (e : TypeId) (p n : Opd) : T AV → St → Option (AV × St) := fun t s => usA e s (p.ev t) (n.ev t)

/-- a range over a map begins -/
def rangeB (id clock : Nat) : List AE → ABlk
  | [] => .iter id clock [] clock
  | [_] => .iter id clock [] clock
  | e :: f :: r => .iterN id clock (e :: f :: r) [] clock
def rangeA (s : St) : AV → Option (AV × St)
  | .nilm => some (.ptr s.nx 0, s.new .nilIter)
  | .mp id => match s.at id with
    | some (.map es clock) => some (.ptr s.nx 0, s.new (rangeB id clock es))
    | _ => none
  | _ => none
def k_range (x : Opd) : T AV → St → Option (AV × St) := fun t s => rangeA s (x.ev t)
/-- its next entry, where there is one candidate alone -/
def nextM (s : St) (id m since stepped : Nat) (seen : List Nat) (es : List AE) (clock : Nat) : Option (AV × St) :=
  match es with
  | [] => some (.tup [.bool false], s)
  | [e] => bif lany (fun b => Nat.beq b e.born) seen then (bif Nat.blt e.born stepped then some (.tup [.bool false], s) else none) else
      bif Nat.blt e.born since && seen.isEmpty then some (.tup [.bool true, e.k, e.v], s.put id (.iter m since (e.born :: seen) clock)) else none
  | _ => none
/-- its next entry, whichever: its key and its value under names -/
def nextN (s : St) (id m since stepped : Nat) (es0 : List AE) (vs : List Nat) (es : List AE) (clock : Nat) : Option (AV × St) :=
  bif entsOk since es && entsEq es es0 && Nat.ble since stepped then
    (bif Nat.beq (llen vs) (llen es) then some (.tup [.bool false], s)
    else some (.tup [.bool true, .var s.nx id, .var (s.nx + 1) id], ((s.put id (.iterN m since es0 (s.nx :: vs) clock)).new .dfr).new .dfr))
  else none
def nextA (s : St) : AV → Option (AV × St)
  | .ptr id 0 => match s.at id with
    | some .nilIter => some (.tup [.bool false], s)
    | some (.iter m since seen stepped) => match s.at m with
      | some (.map es clock) => nextM s id m since stepped seen es clock
      | _ => none
    | some (.iterN m since es0 vs stepped) => match s.at m with
      | some (.map es clock) => nextN s id m since stepped es0 vs es clock
      | _ => none
    | _ => none
  | _ => none
def k_next (x : Opd) : T AV → St → Option (AV × St) := fun t s => nextA s (x.ev t)

end
end Go.Ab
