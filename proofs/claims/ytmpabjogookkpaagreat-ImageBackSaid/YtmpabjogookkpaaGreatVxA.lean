/-
  An abstract evaluator over the model's code: what it does.
  No condition.
-/
import GoSem.Dispatch
set_option linter.unusedVariables false
noncomputable section
namespace Go.Vex
/-! ### Options, by the recursor -/
def ob {α β : Type} (x : Option α) (f : α → Option β) : Option β := Option.rec (motive := fun _ => Option β) none f x
def iteB {α : Type} (b : Bool) (x y : α) : α := Bool.rec (motive := fun _ => α) y x b
def listRec {α β : Type} (z : β) (s : α → List α → β → β) (l : List α) : β := List.rec (motive := fun _ => β) z s l
def natRec {β : Type} (z : β) (s : Nat → β → β) (n : Nat) : β := Nat.rec (motive := fun _ => β) z s n
def optRec {α β : Type} (z : β) (s : α → β) (o : Option α) : β := Option.rec (motive := fun _ => β) z s o
def orElseO {α : Type} (x y : Option α) : Option α := optRec y (fun a => some a) x

/-! ### Tries -/
inductive T (α : Type) where
  | leaf
  | node (v : α) (l r : T α)

def T.get {α : Type} (d : α) (t : T α) : Nat → Option α :=
  T.rec (motive := fun _ => Nat → Option α) (fun _ => some d)
    (fun v _ _ gl gr n => Nat.rec (motive := fun _ => Option α) (some v)
      (fun m _ => Nat.rec (motive := fun _ => Option α) (gl (Nat.div m 2)) (fun _ _ => gr (Nat.div m 2)) (Nat.mod m 2)) n) t

def mkPath {α : Type} (d x : α) (f : Nat) : Nat → Option (T α) :=
  Nat.rec (motive := fun _ => Nat → Option (T α)) (fun _ => none)
    (fun _ ih n => Nat.rec (motive := fun _ => Option (T α)) (some (.node x .leaf .leaf))
      (fun m _ => Nat.rec (motive := fun _ => Option (T α)) (ob (ih (Nat.div m 2)) fun t => some (.node d t .leaf))
        (fun _ _ => ob (ih (Nat.div m 2)) fun t => some (.node d .leaf t)) (Nat.mod m 2)) n) f

def T.set {α : Type} (d x : α) (t : T α) : Nat → Option (T α) :=
  T.rec (motive := fun _ => Nat → Option (T α)) (fun n => mkPath d x (Nat.succ n) n)
    (fun v l r sl sr n => Nat.rec (motive := fun _ => Option (T α)) (some (.node x l r))
      (fun m _ => Nat.rec (motive := fun _ => Option (T α)) (ob (sl (Nat.div m 2)) fun l' => some (.node v l' r))
        (fun _ _ => ob (sr (Nat.div m 2)) fun r' => some (.node v l r')) (Nat.mod m 2)) n) t

/-! ### Lists -/
def nth {α : Type} (l : List α) : Nat → Option α :=
  List.rec (motive := fun _ => Nat → Option α) (fun _ => none) (fun x _ ih n => Nat.rec (motive := fun _ => Option α) (some x) (fun m _ => ih m) n) l
def dropL {α : Type} (n : Nat) : List α → List α :=
  Nat.rec (motive := fun _ => List α → List α) (fun l => l) (fun _ ih l => List.rec (motive := fun _ => List α) [] (fun _ l _ => ih l) l) n
/-- The first n, if there are so many. -/
def takeL {α : Type} (n : Nat) : List α → Option (List α) :=
  Nat.rec (motive := fun _ => List α → Option (List α)) (fun _ => some [])
    (fun _ ih l => List.rec (motive := fun _ => Option (List α)) none (fun x l _ => ob (ih l) fun r => some (x :: r)) l) n
def lenL {α : Type} (l : List α) : Nat → Nat := List.rec (motive := fun _ => Nat → Nat) (fun n => n) (fun _ _ ih n => ih (Nat.succ n)) l
def app {α : Type} (l k : List α) : Option (List α) :=
  List.rec (motive := fun _ => Option (List α)) (some k) (fun x _ ih => ob ih fun r => some (x :: r)) l
/-- Replace the head by a row. -/
def over0 {α : Type} (ys : List α) : List α → Option (List α) :=
  List.rec (motive := fun _ => List α → Option (List α)) (fun l => some l)
    (fun y _ ih l => List.rec (motive := fun _ => Option (List α)) none (fun _ l _ => ob (ih l) fun r => some (y :: r)) l) ys
def over {α : Type} (ys : List α) (n : Nat) : List α → Option (List α) :=
  Nat.rec (motive := fun _ => List α → Option (List α)) (over0 ys)
    (fun _ ih l => List.rec (motive := fun _ => Option (List α)) none (fun x l _ => ob (ih l) fun r => some (x :: r)) l) n
def mapO {α β : Type} (f : α → Option β) (l : List α) : Option (List β) :=
  List.rec (motive := fun _ => Option (List β)) (some []) (fun x _ ih => ob (f x) fun y => ob ih fun r => some (y :: r)) l
def natEq (a b : Nat) : Bool := Nat.beq a b
def natLe (a b : Nat) : Bool := Nat.ble a b
def strEq (l : List Nat) : List Nat → Bool :=
  List.rec (motive := fun _ => List Nat → Bool) (fun k => List.rec (motive := fun _ => Bool) true (fun _ _ _ => false) k)
    (fun a _ ih k => List.rec (motive := fun _ => Bool) false (fun b k _ => iteB (Nat.beq a b) (ih k) false) k) l
end Go.Vex
end
noncomputable section
namespace Go.Vex
/-! ### Values -/
inductive Cap where
  | fix (k : Nat)
  | opn (stride : Nat)

inductive AV where
  | any
  | undef
  | bool (b : Bool)
  | int (k : IntKind) (n : Int)
  | str (s : List Nat)
  | ptr (b off : Nat)
  | nilp
  | slice (b off len : Nat) (cap : Cap)
  | nils
  | zsl
  | map (b : Nat)
  | nilm
  | func (f : FuncId) (first captured : List AV)
  | nilf
  | iface (t : TypeId) (v : AV)
  | nili
  | agg (cs : List AV)
  | tup (vs : List AV)

abbrev Ent := AV × AV × Nat
inductive AO where
  | dead
  | cells (n : Nat) (d : AV) (t : T AV)
  | mapo (es : List Ent) (clock : Nat)
  | siter (s : List Nat) (pos : Nat)
  | ro (n : Nat) (d : AV) (t : T AV)

structure Hp where
  next : Nat
  t : T AO

def Hp.obj (H : Hp) (b : Nat) : Option AO := H.t.get .dead b
def Hp.put (H : Hp) (b : Nat) (o : AO) : Option Hp := ob (H.t.set .dead o b) fun t => some ⟨H.next, t⟩
def Hp.alloc (H : Hp) (o : AO) : Option Hp := ob (H.t.set .dead o H.next) fun t => some ⟨Nat.succ H.next, t⟩

/-! ### Cells -/
def AO.load1 (o : AO) (i : Nat) : Option AV :=
  match o with
  | .cells n d t => iteB (Nat.blt i n) (t.get d i) none
  | .ro n d t => iteB (Nat.blt i n) (t.get d i) none
  | _ => none
def loadT (d : AV) (t : T AV) : Nat → Nat → Option (List AV) :=
  fun n => natRec (β := Nat → Option (List AV)) (fun _ => some []) (fun _ ih i => ob (t.get d i) fun v => ob (ih (Nat.succ i)) fun r => some (v :: r)) n
def AO.loadN (o : AO) (i k : Nat) : Option (List AV) :=
  match o with
  | .cells n d t => iteB (Nat.ble (Nat.add i k) n) (loadT d t k i) none
  | .ro n d t => iteB (Nat.ble (Nat.add i k) n) (loadT d t k i) none
  | _ => none
def storeT (d : AV) (vs : List AV) : T AV → Nat → Option (T AV) :=
  listRec (β := T AV → Nat → Option (T AV)) (fun t _ => some t) (fun v _ ih t i => ob (t.set d v i) fun t' => ih t' (Nat.succ i)) vs
def AO.storeN (o : AO) (i : Nat) (vs : List AV) : Option AO :=
  match o with
  | .cells n d t => iteB (Nat.ble (Nat.add i (lenL vs 0)) n) (ob (storeT d vs t i) fun t' => some (.cells n d t')) none
  | _ => none
def ofList (vs : List AV) : Option AO := ob (storeT .any vs .leaf 0) fun t => some (.cells (lenL vs 0) .any t)
def Hp.loadN (H : Hp) (b i k : Nat) : Option (List AV) := ob (H.obj b) fun o => o.loadN i k
def Hp.load1 (H : Hp) (b i : Nat) : Option AV := ob (H.obj b) fun o => o.load1 i
def Hp.storeN (H : Hp) (b i : Nat) (vs : List AV) : Option Hp := ob (H.obj b) fun o => ob (o.storeN i vs) fun o' => H.put b o'
/-- The cells of a value. -/
def AV.cells (v : AV) : Option (List AV) :=
  match v with
  | .agg cs => some cs
  | .tup _ => none
  | .undef => none
  | .any => none
  | _ => some [v]

/-! ### Views -/
def AV.asBool (v : AV) : Option Bool := match v with | .bool b => some b | _ => none
def AV.asInt (v : AV) : Option (IntKind × Int) := match v with | .int k n => some (k, n) | _ => none
def AV.asStr (v : AV) : Option (List Nat) := match v with | .str s => some s | _ => none
def AV.asPtr (v : AV) : Option (Nat × Nat) := match v with | .ptr b i => some (b, i) | _ => none
def AV.asAgg (v : AV) : Option (List AV) := match v with | .agg cs => some cs | _ => none
def AV.asTup (v : AV) : Option (List AV) := match v with | .tup cs => some cs | _ => none
def AV.asFunc (v : AV) : Option (FuncId × List AV × List AV) := match v with | .func f a c => some (f, a, c) | _ => none
def AV.asMap (v : AV) : Option Nat := match v with | .map b => some b | _ => none
def intNat (n : Int) : Option Nat := match n with | .ofNat n => some n | _ => none
def AV.asNat (v : AV) : Option Nat := match v with | .int _ n => intNat n | _ => none

/-! ### Static: types -/
def natsOf (l : List UInt8) : List Nat := l.map fun c => c.toNat
def cv0 (f : Value → Option AV) (v : Value) : Option AV :=
  match v with
  | .bool b => some (.bool b)
  | .int k n => some (.int k n)
  | .string s => some (.str (natsOf s.data.toList))
  | .pointer none => some .nilp
  | .slice none 0 0 => some .nils
  | .map none => some .nilm
  | .nilFunc => some .nilf
  | .nilIface => some .nili
  | .func (.func g) ⟨[]⟩ ⟨[]⟩ => some (.func g [] [])
  | .iface t v => ob (f v) fun a => some (.iface t a)
  | _ => none
/-- A constant of one cell. -/
def cv1 (v : Value) : Option AV := cv0 (cv0 fun _ => none) v
/-- A constant. -/
def cv (v : Value) : Option AV :=
  match v with
  | .agg cs => ob (mapO cv1 cs.toList) fun r => some (.agg r)
  | .tuple ⟨[]⟩ => some .undef
  | _ => cv1 v

/-- Is a type's value an aggregate? -/
def isAggD (d : TypeDesc) : Bool := match d with | .struct _ => true | .array .. => true | _ => false
variable (P : Program)
/-- Is a type's value an aggregate? How many cells has it? -/
def tyA (t : TypeId) : Option (Bool × Nat) := ob (P.underlying t) fun d => ob (P.info? t) fun i => some (isAggD d, i.size)
def size (t : TypeId) : Option Nat := ob (P.info? t) fun i => some i.size
def zero (t : TypeId) : Option AV := ob (P.info? t) fun i => ob i.zero cv
def zeroCells (t : TypeId) : Option (List AV) := ob (zero P t) AV.cells
def zeroObj (t : TypeId) : Option AO := ob (zeroCells P t) ofList
def fieldsD (d : TypeDesc) : Option (List Field) := match d with | .struct fs => some fs.toList | _ => none
def fieldOff (s : TypeId) (f : Nat) : Option (Nat × TypeId) := ob (P.underlying s) fun d => ob (fieldsD d) fun fs => ob (nth fs f) fun x => some (x.offset, x.type)
/-- A field's place and size. -/
def fieldSz (s : TypeId) (f : Nat) : Option (Nat × Nat) := ob (fieldOff P s f) fun q => ob (size P q.2) fun n => some (q.1, n)
def elemD (d : TypeDesc) : Option TypeId := match d with | .slice e => some e | _ => none
/-- The element of a slice's type. -/
def elemOf (t : TypeId) : Option TypeId := ob (P.underlying t) elemD
def arrD (d : TypeDesc) : Option (Nat × TypeId) := match d with | .array n e => some (n, e) | _ => none
def arrOf (t : TypeId) : Option (Nat × TypeId) := ob (P.underlying t) arrD
def ptrD (d : TypeDesc) : Option TypeId := match d with | .pointer e => some e | _ => none
def mapD (d : TypeDesc) : Option (TypeId × TypeId) := match d with | .map k e => some (k, e) | _ => none
inductive IxKind where
  | arr (n size : Nat) (agg : Bool)
  | slc (size : Nat)
  | strg
def ixD (d : TypeDesc) : Option IxKind := match d with
  | .array n e => ob (tyA P e) fun s => some (.arr n s.2 s.1)
  | .slice e => ob (size P e) fun s => some (.slc s)
  | .string => some .strg
  | _ => none
def ixKind (t : TypeId) : Option IxKind := ob (P.underlying t) (ixD P)
/-- A number, a truth or a string. -/
def basicTy (t : TypeId) : Bool := match P.underlying t with | some .bool => true | some (.int _) => true | some .string => true | _ => false
def flatFrom : Nat → List Field → Bool
  | _, [] => true
  | i, f :: fs => Nat.beq f.offset i && (f.name != "_" && (basicTy P f.type && flatFrom (i + 1) fs))
/-- A struct whose fields are basic. -/
def flatN (t : TypeId) : Option (List Field) := ob (P.underlying t) fun d => ob (fieldsD d) fun fs =>
  iteB (flatFrom P 0 fs) (iteB (P.stoodInHeld t) none (iteB (P.eqGuardType P.depth t) none (some fs))) none

/-! ### Numbers -/
def wrapI64 (z : Int) : Int :=
  match z with
  | .ofNat n => iteB (Nat.ble n 9223372036854775807) z (IntKind.i64.wrap z)
  | .negSucc n => iteB (Nat.ble n 9223372036854775807) z (IntKind.i64.wrap z)
def wrapN (m : Nat) (k : IntKind) (z : Int) : Int := match z with | .ofNat n => .ofNat (Nat.mod n m) | z => k.wrap z
def wrapK (k : IntKind) (z : Int) : Int :=
  match k with
  | .i64 => wrapI64 z
  | .u8 => wrapN 256 .u8 z
  | .u64 => wrapN 18446744073709551616 .u64 z
  | k => k.wrap z
/-- The number, worked out. -/
def mkInt (k : IntKind) (z : Int) : Option AV :=
  match z with
  | .ofNat n => natRec (β := Option AV) (some (.int k (.ofNat 0))) (fun m _ => some (.int k (.ofNat (Nat.succ m)))) n
  | .negSucc n => natRec (β := Option AV) (some (.int k (.negSucc 0))) (fun m _ => some (.int k (.negSucc (Nat.succ m)))) n
def kEq (a b : IntKind) : Bool :=
  match a, b with
  | .i8, .i8 => true | .i16, .i16 => true | .i32, .i32 => true | .i64, .i64 => true
  | .u8, .u8 => true | .u16, .u16 => true | .u32, .u32 => true | .u64, .u64 => true
  | _, _ => false
def intEq (a b : Int) : Bool :=
  match a, b with
  | .ofNat m, .ofNat n => Nat.beq m n
  | .negSucc m, .negSucc n => Nat.beq m n
  | _, _ => false
def intLt (a b : Int) : Bool :=
  match a, b with
  | .ofNat m, .ofNat n => Nat.blt m n
  | .negSucc m, .negSucc n => Nat.blt n m
  | .negSucc _, .ofNat _ => true
  | _, _ => false
def bitsN (op : BinOp) (k : IntKind) (m n : Nat) : Option AV :=
  match op with
  | .and => some (.int k (.ofNat (Nat.land m n)))
  | .or => some (.int k (.ofNat (Nat.lor m n)))
  | .xor => some (.int k (.ofNat (Nat.xor m n)))
  | _ => none
def bitsZ (op : BinOp) (k : IntKind) (a b : Int) : Option AV :=
  match op with
  | .and => mkInt k (k.wrap ((BitVec.ofInt k.bits a &&& BitVec.ofInt k.bits b).toNat : Int))
  | .or => mkInt k (k.wrap ((BitVec.ofInt k.bits a ||| BitVec.ofInt k.bits b).toNat : Int))
  | .xor => mkInt k (k.wrap ((BitVec.ofInt k.bits a ^^^ BitVec.ofInt k.bits b).toNat : Int))
  | .andNot => mkInt k (k.wrap ((BitVec.ofInt k.bits a &&& ~~~ BitVec.ofInt k.bits b).toNat : Int))
  | _ => none
def bitsA.smallK (k : IntKind) (m n : Nat) : Bool :=
  match k with
  | .i64 => true
  | .u64 => true
  | .u8 => iteB (Nat.blt m 256) (Nat.blt n 256) false
  | _ => false
def bitsA (op : BinOp) (k : IntKind) (a b : Int) : Option AV :=
  match a, b with
  | .ofNat m, .ofNat n => match op with | .andNot => bitsZ op k a b | _ => iteB (Nat.blt m 9223372036854775808) (iteB (Nat.blt n 9223372036854775808) (iteB (bitsA.smallK k m n) (bitsN op k m n) (bitsZ op k a b)) (bitsZ op k a b)) (bitsZ op k a b)
  | _, _ => bitsZ op k a b
def quoA (k : IntKind) (a b : Int) : Option AV := iteB (intEq b 0) none (mkInt k (wrapK k (a.tdiv b)))
def remA (k : IntKind) (a b : Int) : Option AV := iteB (intEq b 0) none (mkInt k (a.tmod b))
def intOp (op : BinOp) (k : IntKind) (a b : Int) : Option AV :=
  match op with
  | .add => mkInt k (wrapK k (Int.add a b))
  | .sub => mkInt k (wrapK k (Int.sub a b))
  | .mul => mkInt k (wrapK k (Int.mul a b))
  | .quo => quoA k a b
  | .rem => remA k a b
  | .and => bitsA .and k a b
  | .or => bitsA .or k a b
  | .xor => bitsA .xor k a b
  | .andNot => bitsA .andNot k a b
  | .eql => some (.bool (intEq a b))
  | .neq => some (.bool (not (intEq a b)))
  | .lss => some (.bool (intLt a b))
  | .leq => some (.bool (not (intLt b a)))
  | .gtr => some (.bool (intLt b a))
  | .geq => some (.bool (not (intLt a b)))
  | _ => none
def shlA (k : IntKind) (a : Int) (y : Nat) : Option AV := mkInt k (wrapK k (Int.mul a (.ofNat (Nat.pow 2 (Nat.min y k.bits)))))
def shrA (k : IntKind) (a : Int) (y : Nat) : Option AV := mkInt k (Int.fdiv a (.ofNat (Nat.pow 2 (Nat.min y k.bits))))
def strLt (l : List Nat) : List Nat → Bool :=
  listRec (β := List Nat → Bool) (fun k => listRec (β := Bool) false (fun _ _ _ => true) k)
    (fun a _ ih k => listRec (β := Bool) false (fun b k _ => iteB (Nat.blt a b) true (iteB (Nat.beq a b) (ih k) false)) k) l
def strOp (op : BinOp) (x y : List Nat) : Option AV :=
  match op with
  | .add => iteB (Nat.ble (lenL x (lenL y 0)) 1000000000) (ob (app x y) fun r => some (.str r)) none
  | .eql => some (.bool (strEq x y))
  | .neq => some (.bool (not (strEq x y)))
  | .lss => some (.bool (strLt x y))
  | .geq => some (.bool (not (strLt x y)))
  | .leq => some (.bool (not (strLt y x)))
  | .gtr => some (.bool (strLt y x))
  | _ => none
/-- '==' of two values of one basic cell. -/
def eqCellD (d : TypeDesc) (x y : AV) : Option Bool :=
  match d with
  | .bool => ob x.asBool fun a => ob y.asBool fun b => some (a == b)
  | .int _ => ob x.asInt fun a => ob y.asInt fun b => iteB (kEq a.1 b.1) (some (intEq a.2 b.2)) none
  | .string => ob x.asStr fun a => ob y.asStr fun b => some (strEq a b)
  | _ => none
def eqCellT (t : TypeId) (x y : AV) : Option Bool := ob (P.underlying t) fun d => eqCellD d x y
def eqFs (fs : List Field) : List AV → List AV → Option Bool :=
  listRec (β := List AV → List AV → Option Bool) (fun _ _ => some true)
    (fun f _ ih k l => ob (nth k 0) fun a => ob (nth l 0) fun b => ob (eqCellT P f.type a b) fun r => iteB r (ih (dropL 1 k) (dropL 1 l)) (some false)) fs
def liveC (H : Hp) (b i : Nat) : Option Unit := ob (H.obj b) fun o => match o with | .cells .. => some () | _ => none
def eqPtr (b i c j : Nat) : Option Bool := iteB (Nat.beq b c) (some (Nat.beq i j)) none
def eqPtrV (el : TypeId) (b i : Nat) (y : AV) : Option Bool := match y with | .ptr c j => ob (size P el) fun n => iteB (Nat.beq n 0) none (eqPtr b i c j) | .nilp => some false | _ => none
def eqNilp (y : AV) : Option Bool := match y with | .nilp => some true | .ptr .. => some false | _ => none
def eqPtrs (el : TypeId) (x y : AV) : Option Bool := match x with | .nilp => eqNilp y | .ptr b i => eqPtrV P el b i y | _ => none
def eqNils (y : AV) : Option Bool := match y with | .nils => some true | .slice .. => some false | _ => none
def isNils (y : AV) : Option Bool := match y with | .nils => some false | _ => none
def eqSl (x y : AV) : Option Bool := match x with | .nils => eqNils y | .slice .. => isNils y | _ => none
def eqNilm (y : AV) : Option Bool := match y with | .nilm => some true | .map _ => some false | _ => none
def isNilm (y : AV) : Option Bool := match y with | .nilm => some false | _ => none
def eqMp (x y : AV) : Option Bool := match x with | .nilm => eqNilm y | .map _ => isNilm y | _ => none
def eqNilf (y : AV) : Option Bool := match y with | .nilf => some true | .func .. => some false | _ => none
def isNilf (y : AV) : Option Bool := match y with | .nilf => some false | _ => none
def eqFn (x y : AV) : Option Bool := match x with | .nilf => eqNilf y | .func .. => isNilf y | _ => none
def eqNili (ms : Array (String × TypeId)) (y : AV) : Option Bool := match y with | .nili => iteB ms.isEmpty (some true) none | .iface .. => some false | _ => none
def eqIface (u : TypeId) (a y : AV) : Option Bool := match y with | .iface v b => iteB (Nat.beq u v) (ob (P.info? u) fun i => iteB i.comparable (eqCellT P u a b) none) (some false) | .nili => some false | _ => none
def eqIf (ms : Array (String × TypeId)) (x y : AV) : Option Bool := match x with | .nili => eqNili ms y | .iface u a => eqIface P u a y | _ => none
def eqAgg (t : TypeId) (x y : AV) : Option Bool := ob x.asAgg fun a => ob y.asAgg fun b => ob (flatN P t) fun fs => eqFs P fs a b
/-- Two rows of basic cells. -/
def eqRow (d : TypeDesc) (l : List AV) : List AV → Option Bool :=
  listRec (β := List AV → Option Bool) (fun _ => some true) (fun a _ ih k => ob (nth k 0) fun b => ob (eqCellD d a b) fun r => iteB r (ih (dropL 1 k)) (some false)) l
def eqArr (n : Nat) (el : TypeId) (x y : AV) : Option Bool :=
  ob x.asAgg fun a => ob y.asAgg fun b => iteB (basicTy P el) ((ob (P.underlying el) fun d => ob (size P el) fun s => iteB (Nat.beq s 1) (iteB (Nat.beq (lenL a 0) n) (eqRow d a b) none) none)) none
def eqBy (t : TypeId) (d : TypeDesc) (x y : AV) : Option Bool :=
  match d with
  | .bool => eqCellD d x y
  | .pointer el => eqPtrs P el x y
  | .slice _ => eqSl x y
  | .map .. => eqMp x y
  | .func .. => eqFn x y
  | .interface ms => eqIf P ms x y
  | .struct _ => eqAgg P t x y
  | .array n el => iteB (P.eqGuardType P.depth t) none (eqArr P n el x y)
  | _ => none
def eqOther (t : TypeId) (x y : AV) : Option Bool := ob (P.underlying t) fun d => eqBy P t d x y
def shiftOr (op : BinOp) (k : IntKind) (a : Int) (k' : IntKind) (b : Int) : Option AV :=
  match op with
  | .shl => ob (intNat b) fun y => shlA k a y
  | .shr => ob (intNat b) fun y => shrA k a y
  | _ => iteB (kEq k k') (intOp op k a b) none
def eqBin (op : BinOp) (r : Option Bool) : Option AV :=
  match op with
  | .eql => ob r fun b => some (.bool b)
  | .neq => ob r fun b => some (.bool (not b))
  | _ => none
def binA (op : BinOp) (t : TypeId) (x y : AV) : Option AV :=
  match x with
  | .int k a => ob y.asInt fun q => shiftOr op k a q.1 q.2
  | .str a => ob y.asStr fun b => strOp op a b
  | _ => eqBin op (eqOther P t x y)

/-! ### Operations -/
inductive OR where
  | val (v : AV) (H : Hp)
  | skip (H : Hp)
  | call (f : FuncId) (args : List AV)
  | dfr (f : FuncId) (args : List AV)
  | pnc (v : AV)
abbrev Tm := T AV
/-- What an operand is. -/
abbrev Env := Operand → Option AV
def opds (e : Env) (l : List Operand) : Option (List AV) := mapO e l
def optNat (e : Env) (d : Nat) (x : Option Operand) : Option Nat := match x with | none => some d | some x => ob (e x) AV.asNat
def fillOne (e : Env) (place : Nat → Option (Nat × Nat)) (cs : List AV) (p : Nat × Operand) : Option (List AV) :=
  ob (place p.1) fun q => ob (e p.2) fun v => ob v.cells fun vs => iteB (Nat.beq (lenL vs 0) q.2) (over vs q.1 cs) none
def fillParts (e : Env) (place : Nat → Option (Nat × Nat)) (ps : List (Nat × Operand)) : List AV → Option (List AV) :=
  listRec (β := List AV → Option (List AV)) (fun cs => some cs) (fun p _ ih cs => ob (fillOne e place cs p) ih) ps
def rowOf (z : List AV) (n : Nat) : Option (List AV) := natRec (β := Option (List AV)) (some []) (fun _ ih => ob ih fun r => app z r) n
def allocV (H : Hp) (o : AO) (v : AV) : Option OR := ob (H.alloc o) fun H' => some (.val v H')
def allocP (H : Hp) (o : AO) : Option OR := allocV H o (.ptr H.next 0)
def valH (H : Hp) (v : AV) : Option OR := some (.val v H)
def maxOK (hi mx : Option Operand) : Bool := match mx with | none => true | some _ => hi.isSome
def sliceOf (e : Env) (len cap : Nat) (lo hi mx : Option Operand) : Option (Nat × Nat × Nat) :=
  iteB (maxOK hi mx) (ob (optNat e cap mx) fun m => ob (optNat e len hi) fun h => ob (optNat e 0 lo) fun l =>
    iteB (Nat.ble l h) (iteB (Nat.ble h m) (iteB (Nat.ble m cap) (some (l, h, m)) none) none) none) none
def lookupA (d : TypeDesc) (k : AV) (es : List Ent) : Option (Option AV) :=
  listRec (β := Option (Option AV)) (some none) (fun e _ ih => ob (eqCellD d k e.1) fun r => iteB r (some (some e.2.1)) ih) es
/-- An entry is written: the entries behind it, and whether it is new. -/
def updA (d : TypeDesc) (k v : AV) (c : Nat) (es : List Ent) : Option (List Ent × Bool) :=
  listRec (β := Option (List Ent × Bool)) (some ([(k, v, c)], true))
    (fun e es ih => ob (eqCellD d k e.1) fun r => iteB r (some ((k, v, e.2.2) :: es, false)) (ob ih fun q => some (e :: q.1, q.2))) es
def byteAV (c : Nat) : Option AV := some (.int .u8 (.ofNat c))
/-- The first cells of a slice or a string, as append and copy take them. -/
def firstCells (H : Hp) (sz n : Nat) (v : AV) : Option (List AV) :=
  match v with
  | .slice b off len _ => iteB (Nat.ble n len) (H.loadN b off (Nat.mul n sz)) none
  | .nils => some []
  | .str s => iteB (Nat.beq sz 1) (ob (takeL n s) fun r => mapO byteAV r) none
  | _ => none
def lenOfA (v : AV) : Option Nat :=
  match v with
  | .slice _ _ n _ => some n
  | .nils => some 0
  | .str s => some (lenL s 0)
  | _ => none
def growA (H : Hp) (sz : Nat) (b off len n : Nat) (new : List AV) : Option OR :=
  ob (H.loadN b off (Nat.mul len sz)) fun old => ob (app old new) fun cs => ob (ofList cs) fun o => allocV H o (.slice H.next 0 (Nat.add len n) (.opn sz))
def appNil (H : Hp) (sz n : Nat) (new : List AV) : Option OR :=
  iteB (Nat.beq n 0) (valH H .nils) (ob (ofList new) fun o => allocV H o (.slice H.next 0 n (.opn sz)))
def appFix (H : Hp) (sz n : Nat) (new : List AV) (b off len k : Nat) : Option OR :=
  iteB (Nat.ble (Nat.add len n) k) (ob (H.storeN b (Nat.add off (Nat.mul len sz)) new) fun H' => valH H' (.slice b off (Nat.add len n) (.fix k))) (growA H sz b off len n new)
/-- The block goes over into the new one. -/
def appMove (H : Hp) (sz n : Nat) (new : List AV) (b len : Nat) (o : AO) : Option OR :=
  match o with
  | .cells m d t => iteB (Nat.beq m (Nat.mul len sz)) (ob (storeT d new t m) fun t' => ob (H.put b .dead) fun H' =>
      allocV H' (.cells (Nat.add m (lenL new 0)) d t') (.slice H.next 0 (Nat.add len n) (.opn sz))) none
  | _ => none
def appCopy (H : Hp) (sz n : Nat) (new : List AV) (b off len : Nat) : Option OR :=
  ob (liveC H b off) fun _ => ob (H.loadN b off (Nat.mul len sz)) fun old => ob (app old new) fun cs => ob (ofList cs) fun o => ob (H.put b .dead) fun H' =>
    allocV H' o (.slice H.next 0 (Nat.add len n) (.opn sz))
def appOpn (H : Hp) (sz n : Nat) (new : List AV) (b off len st : Nat) : Option OR :=
  iteB (Nat.beq n 0) (valH H (.slice b off len (.opn st)))
    (iteB (Nat.beq st sz) (orElseO (iteB (Nat.beq off 0) (ob (H.obj b) fun o => appMove H sz n new b len o) none) (appCopy H sz n new b off len)) none)
def appCap (H : Hp) (sz n : Nat) (new : List AV) (b off len : Nat) (c : Cap) : Option OR :=
  match c with
  | .fix k => appFix H sz n new b off len k
  | .opn st => appOpn H sz n new b off len st
def appTo (H : Hp) (sz n : Nat) (new : List AV) (s : AV) : Option OR :=
  match s with
  | .nils => appNil H sz n new
  | .slice b off len c => appCap H sz n new b off len c
  | _ => none
/-- An element's size, if rows of it may grow. -/
def growSize (el : TypeId) : Option Nat := ob (P.info? el) fun i => ob (zeroCells P el) fun z =>
  iteB (Nat.beq (lenL z 0) i.size) (iteB (Nat.beq i.size 0) none (iteB (Nat.ble i.bytes 65536) (iteB (Nat.beq i.bytes 0) none (some i.size)) none)) none
def appendA (H : Hp) (el : TypeId) (s x : AV) : Option OR :=
  ob (growSize P el) fun sz => ob (lenOfA x) fun n => iteB (Nat.ble n 67108864) (ob (lenOfA s) fun m => iteB (Nat.ble m 67108864) (ob (firstCells H sz n x) fun new => appTo H sz n new s) none) none
def copyTo (H : Hp) (n : Nat) (cs : List AV) (d : AV) : Option OR :=
  match d with
  | .slice b off _ _ => ob (H.storeN b off cs) fun H' => valH H' (.int .i64 (.ofNat n))
  | .nils => valH H (.int .i64 (.ofNat n))
  | _ => none
def copyA (H : Hp) (e : TypeId) (d x : AV) : Option OR :=
  ob (size P e) fun sz => ob (lenOfA x) fun nx => ob (lenOfA d) fun nd => ob (firstCells H sz (Nat.min nx nd) x) fun cs => copyTo H (Nat.min nx nd) cs d
def lenMap (H : Hp) (o : AO) : Option OR := match o with | .mapo es _ => valH H (.int .i64 (.ofNat (lenL es 0))) | _ => none
def lenSl (H : Hp) (v : AV) : Option OR := match v with | .slice _ _ n _ => valH H (.int .i64 (.ofNat n)) | .nils => valH H (.int .i64 (.ofNat 0)) | .zsl => valH H (.int .i64 (.ofNat 0)) | _ => none
def lenMp (H : Hp) (v : AV) : Option OR := match v with | .nilm => valH H (.int .i64 (.ofNat 0)) | .map r => ob (H.obj r) (lenMap H) | _ => none
def lenBy (H : Hp) (d : TypeDesc) (v : AV) : Option OR :=
  match d with
  | .string => ob v.asStr fun s => valH H (.int .i64 (.ofNat (lenL s 0)))
  | .slice _ => lenSl H v
  | .map .. => lenMp H v
  | .array n _ => valH H (.int .i64 (.ofNat n))
  | .pointer a => ob (arrOf P a) fun q => valH H (.int .i64 (.ofNat q.1))
  | _ => none
def lenA (H : Hp) (argTypes : List TypeId) (v : AV) : Option OR := ob (nth argTypes 0) fun t => ob (P.underlying t) fun d => lenBy P H d v
def arg1 (args : List AV) : Option AV := nth args 0
def arg2 (args : List AV) : Option AV := nth args 1
def minA (H : Hp) (args : List AV) : Option OR :=
  ob (arg1 args) fun x => ob x.asInt fun a => ob (arg2 args) fun y => ob y.asInt fun b => iteB (Nat.beq (lenL args 0) 2) (iteB (intLt b.2 a.2) (valH H (.int a.1 b.2)) (valH H (.int a.1 a.2))) none
def maxA (H : Hp) (args : List AV) : Option OR :=
  ob (arg1 args) fun x => ob x.asInt fun a => ob (arg2 args) fun y => ob y.asInt fun b => iteB (Nat.beq (lenL args 0) 2) (iteB (intLt a.2 b.2) (valH H (.int a.1 b.2)) (valH H (.int a.1 a.2))) none
def isIntD (d : TypeDesc) : Bool := match d with | .int _ => true | _ => false
def builtinA (b : Builtin) (argTypes : List TypeId) (args : List AV) (H : Hp) : Option OR :=
  match b with
  | .len => ob (arg1 args) fun x => lenA P H argTypes x
  | .append => ob (nth argTypes 0) fun t => ob (elemOf P t) fun e => ob (arg1 args) fun s => ob (arg2 args) fun x => ob (nth argTypes 1) fun u => ob (P.underlying u) fun d =>
      iteB (isIntD d) none (iteB (Nat.beq (lenL args 0) 2) (appendA P H e s x) none)
  | .copy => ob (nth argTypes 0) fun t => ob (elemOf P t) fun e => ob (arg1 args) fun s => ob (arg2 args) fun x => copyA P H e s x
  | .min => minA H args
  | .max => maxA H args
  | _ => none
/-- A function that is entered when it is called. -/
def enterOK (f : FuncId) : Bool := (P.funcs[f]?).any fun fn => fn.body.isSome && fn.name != "runtime.NumGoroutine"
def callValue (fv : AV) (args : List AV) : Option OR := ob fv.asFunc fun q => iteB (enterOK P q.1) (ob (app args q.2.2) fun r => ob (app q.2.1 r) fun r => some (.call q.1 r)) none
def callA (c : Call) (e : Env) (H : Hp) : Option OR :=
  ob (opds e c.args.toList) fun args => match c.callee with
    | .builtin b => builtinA P b c.argTypes.toList args H
    | .value f => ob (e f) fun fv => callValue P fv args
    | .invoke .. => none
def byteOf (v : AV) : Option Nat := match v with | .int .u8 n => ob (intNat n) fun c => iteB (Nat.blt c 256) (some c) none | _ => none
def isU8 (d : TypeDesc) : Option Unit := match d with | .int .u8 => some () | _ => none
def convInt (k : IntKind) (x : AV) (H : Hp) : Option OR := ob x.asInt fun q => ob (mkInt k (wrapK k q.2)) fun v => valH H v
def convToStr (src : TypeId) (x : AV) (H : Hp) : Option OR :=
  match x with
  | .str s => valH H (.str s)
  | .nils => ob (elemOf P src) fun e => ob (P.underlying e) fun d => ob (isU8 d) fun _ => valH H (.str [])
  | .slice b off len _ => ob (elemOf P src) fun e => ob (P.underlying e) fun d => ob (isU8 d) fun _ => ob (H.loadN b off len) fun cs => ob (mapO byteOf cs) fun s => valH H (.str s)
  | _ => none
def convToBytes (e : TypeId) (x : AV) (H : Hp) : Option OR :=
  ob (P.underlying e) fun d => ob (isU8 d) fun _ => ob x.asStr fun s => ob (mapO byteAV s) fun cs => ob (ofList cs) fun o => allocV H o (.slice H.next 0 (lenL s 0) (.opn 1))
/-- A row of bytes as itself. -/
def convSame (src dst e : TypeId) (x : AV) (H : Hp) : Option OR :=
  iteB (Nat.beq src dst) (ob (P.underlying e) fun d => ob (isU8 d) fun _ => match x with
    | .slice b off _ _ => ob (liveC H b off) fun _ => valH H x
    | _ => none) none
def convSl (src dst e : TypeId) (x : AV) (H : Hp) : Option OR := match x with | .str _ => convToBytes P e x H | _ => convSame P src dst e x H
def convA (src dst : TypeId) (x : AV) (H : Hp) : Option OR :=
  ob (P.underlying src) fun _ => ob (P.underlying dst) fun d => match d with
    | .int k => convInt k x H
    | .string => convToStr P src x H
    | .slice e => convSl P src dst e x H
    | _ => none
def opMove (e : Env) (H : Hp) (x : Operand) : Option OR := ob (e x) fun v => valH H v
def opPick (e : Env) (H : Hp) (c a b : Operand) : Option OR := ob (e c) fun c => ob c.asBool fun c => iteB c (opMove e H a) (opMove e H b)
def opAlloc (H : Hp) (e : TypeId) : Option OR := ob (zeroObj P e) fun o => allocP H o
def opBox (e : Env) (H : Hp) (x : Operand) : Option OR := ob (e x) fun v => ob v.cells fun cs => ob (ofList cs) fun o => allocP H o
def sizedF (fs : Array Field) : Bool := fs.toList.all fun f => (size P f.type).isSome
def arrPlace (s i : Nat) : Option (Nat × Nat) := some (Nat.mul i s, s)
def opBuild (e : Env) (H : Hp) (t : TypeId) (ps : List (Nat × Operand)) : Option OR :=
  ob (zeroCells P t) fun z => ob (P.underlying t) fun d => match d with
    | .struct fs => iteB (sizedF P fs) (ob (fillParts e (fieldSz P t) ps z) fun cs => valH H (.agg cs)) none
    | .array _ el => ob (size P el) fun s => ob (fillParts e (arrPlace s) ps z) fun cs => valH H (.agg cs)
    | _ => none
def opBuildSlice (e : Env) (H : Hp) (t : TypeId) (len : Nat) (ps : List (Nat × Operand)) : Option OR :=
  ob (elemOf P t) fun el => ob (size P el) fun s => ob (zeroCells P el) fun z => iteB (Nat.beq (lenL z 0) s) (ob (rowOf z len) fun z => ob (fillParts e (arrPlace s) ps z) fun cs => ob (ofList cs) fun o =>
    iteB (Nat.ble (Nat.mul len s) 65536) (allocV H o (.slice H.next 0 len (.fix len))) none) none
def loadAs (H : Hp) (ty : Bool × Nat) (q : Nat × Nat) : Option AV := iteB ty.1 (ob (H.loadN q.1 q.2 ty.2) fun vs => some (.agg vs)) (H.load1 q.1 q.2)
def opLoad (e : Env) (H : Hp) (t : TypeId) (a : Operand) : Option OR := ob (tyA P t) fun ty => ob (e a) fun p => ob p.asPtr fun q => ob (loadAs H ty q) fun v => valH H v
def opStore (e : Env) (H : Hp) (t : TypeId) (a x : Operand) : Option OR :=
  ob (size P t) fun n => ob (e a) fun p => ob p.asPtr fun q => ob (e x) fun v => ob v.cells fun vs => iteB (Nat.beq (lenL vs 0) n) (ob (H.storeN q.1 q.2 vs) fun H' => some (.skip H')) none
def notNil (v : AV) : Bool := match v with | .ptr .. => true | .func .. => true | _ => false
def opNil (e : Env) (H : Hp) (x : Operand) : Option OR := ob (e x) fun v => iteB (notNil v) (valH H v) none
def opBin (e : Env) (H : Hp) (op : BinOp) (t : TypeId) (x y : Operand) : Option OR := ob (e x) fun a => ob (e y) fun b => ob (binA P op t a b) fun v => valH H v
def unA (op : UnOp) (a : AV) : Option AV :=
  match op with
  | .not => ob a.asBool fun b => some (.bool (not b))
  | .neg => ob a.asInt fun q => mkInt q.1 (wrapK q.1 (Int.sub 0 q.2))
  | .xor => ob a.asInt fun q => bitsZ .xor q.1 (if q.1.signed then -1 else q.1.max) q.2
  | _ => none
def opUn (e : Env) (H : Hp) (op : UnOp) (x : Operand) : Option OR := ob (e x) fun a => ob (unA op a) fun v => valH H v
def notIface (d : TypeDesc) : Bool := match d with | .interface _ => false | _ => true
def opIface (e : Env) (H : Hp) (t : TypeId) (x : Operand) : Option OR := ob (e x) fun v => ob (P.underlying t) fun d => iteB (notIface d) (valH H (.iface t v)) none
def opFunc (e : Env) (H : Hp) (fn : Fn) (first cap : List Operand) : Option OR :=
  match fn with
  | .func f => ob (opds e first) fun a => ob (opds e cap) fun b => valH H (.func f a b)
  | _ => none
def makeRow (H : Hp) (z : List AV) (l c : Nat) : Option OR :=
  match z with
  | [d] => allocV H (.cells c d .leaf) (.slice H.next 0 l (.fix c))
  | z => ob (rowOf z c) fun r => ob (ofList r) fun o => allocV H o (.slice H.next 0 l (.fix c))
def opMakeSlice (e : Env) (H : Hp) (t : TypeId) (l c : Operand) : Option OR :=
  ob (elemOf P t) fun el => ob (P.info? el) fun i => ob (zeroCells P el) fun z => iteB (Nat.beq (lenL z 0) i.size) (ob (e l) fun l => ob l.asNat fun l => ob (e c) fun c => ob c.asNat fun c =>
    iteB (Nat.ble l c) (iteB (Nat.ble c 1048576) (iteB (Nat.ble i.bytes 65536) (makeRow H z l c) none) none) none) none
def shiftOff (off l m sz : Nat) : Nat := iteB (Nat.beq m l) off (Nat.add off (Nat.mul l sz))
def slArr (e : Env) (H : Hp) (q : Nat × TypeId) (b off : Nat) (lo hi mx : Option Operand) : Option OR :=
  ob (size P q.2) fun sz => ob (sliceOf e q.1 q.1 lo hi mx) fun r => valH H (.slice b (shiftOff off r.1 r.2.2 sz) (Nat.sub r.2.1 r.1) (.fix (Nat.sub r.2.2 r.1)))
def slFix (e : Env) (H : Hp) (sz b off len k : Nat) (lo hi mx : Option Operand) : Option OR :=
  ob (sliceOf e len k lo hi mx) fun r => valH H (.slice b (shiftOff off r.1 r.2.2 sz) (Nat.sub r.2.1 r.1) (.fix (Nat.sub r.2.2 r.1)))
/-- Below its capacity, whatever that is; an empty rest at the capacity's end would keep the old address: so none at the end. -/
def slOpn (e : Env) (H : Hp) (sz b off len st : Nat) (lo hi mx : Option Operand) : Option OR :=
  match mx with
  | some _ => none
  | none => ob (optNat e len hi) fun h => ob (optNat e 0 lo) fun l => iteB (Nat.ble l h) (iteB (Nat.ble h len) (iteB (Nat.beq st sz)
      (iteB (Nat.beq l 0) (valH H (.slice b off h (.opn st))) (iteB (Nat.blt l len) (valH H (.slice b (Nat.add off (Nat.mul l sz)) (Nat.sub h l) (.opn st))) none)) none) none) none
def slStr (e : Env) (H : Hp) (s : List Nat) (lo hi : Option Operand) : Option OR :=
  ob (sliceOf e (lenL s 0) (lenL s 0) lo hi none) fun r => ob (takeL (Nat.sub r.2.1 r.1) (dropL r.1 s)) fun s => valH H (.str s)
def slCap (e : Env) (H : Hp) (sz b off len : Nat) (cap : Cap) (lo hi mx : Option Operand) : Option OR :=
  match cap with
  | .fix k => slFix e H sz b off len k lo hi mx
  | .opn st => slOpn e H sz b off len st lo hi mx
def slPtr (e : Env) (H : Hp) (t : TypeId) (b off : Nat) (lo hi mx : Option Operand) : Option OR :=
  ob (P.underlying t) fun d => match d with
    | .array n el => slArr P e H (n, el) b off lo hi mx
    | .pointer a => ob (arrOf P a) fun q => slArr P e H q b off lo hi mx
    | _ => none
def noMax (mx : Option Operand) : Option Unit := match mx with | none => some () | some _ => none
def isStrD (d : TypeDesc) : Option Unit := match d with | .string => some () | _ => none
def opSlice (e : Env) (H : Hp) (t : TypeId) (x : Operand) (lo hi mx : Option Operand) : Option OR :=
  ob (e x) fun v => match v with
    | .str s => ob (P.underlying t) fun d => ob (isStrD d) fun _ => ob (noMax mx) fun _ => slStr e H s lo hi
    | .slice b off len cap => ob (elemOf P t) fun el => ob (size P el) fun sz => slCap e H sz b off len cap lo hi mx
    | .nils => ob (elemOf P t) fun el => ob (size P el) fun _ => ob (sliceOf e 0 0 lo hi mx) fun _ => valH H .nils
    | .ptr b off => slPtr P e H t b off lo hi mx
    | _ => none
def opFieldAddr (e : Env) (H : Hp) (s : TypeId) (x : Operand) (f : Nat) : Option OR :=
  ob (fieldSz P s f) fun q => iteB (Nat.beq q.2 0) none (ob (e x) fun p => ob p.asPtr fun a => valH H (.ptr a.1 (Nat.add a.2 q.1)))
def partA (cs : List AV) (agg : Bool) (off n : Nat) : Option AV := iteB agg (ob (takeL n (dropL off cs)) fun r => some (.agg r)) (nth cs off)
def opField (e : Env) (H : Hp) (s : TypeId) (x : Operand) (f : Nat) : Option OR :=
  ob (fieldOff P s f) fun q => ob (tyA P q.2) fun ty => ob (e x) fun v => ob v.asAgg fun cs => ob (partA cs ty.1 q.1 ty.2) fun r => valH H r
def ixAddr (H : Hp) (k : IxKind) (v : AV) (i : Nat) : Option OR :=
  match k with
  | .arr n sz _ => ob v.asPtr fun q => iteB (Nat.blt i n) (valH H (.ptr q.1 (Nat.add q.2 (Nat.mul i sz)))) none
  | .slc sz => match v with
    | .slice b off len _ => iteB (Nat.blt i len) (valH H (.ptr b (Nat.add off (Nat.mul i sz)))) none
    | _ => none
  | .strg => none
def opIndexAddr (e : Env) (H : Hp) (t : TypeId) (x i : Operand) : Option OR := ob (ixKind P t) fun k => ob (e x) fun v => ob (e i) fun i => ob i.asNat fun i => ixAddr H k v i
def ixVal (k : IxKind) (v : AV) (i : Nat) : Option AV :=
  match k with
  | .arr n sz agg => ob v.asAgg fun cs => iteB (Nat.blt i n) (partA cs agg (Nat.mul i sz) sz) none
  | .strg => ob v.asStr fun s => ob (nth s i) fun c => byteAV c
  | .slc _ => none
def opIndex (e : Env) (H : Hp) (t : TypeId) (x i : Operand) : Option OR := ob (ixKind P t) fun k => ob (e x) fun v => ob (e i) fun i => ob i.asNat fun i => ob (ixVal k v i) fun r => valH H r
def asMapo (o : AO) : Option (List Ent × Nat) := match o with | .mapo es c => some (es, c) | _ => none
def mapOf (H : Hp) (v : AV) : Option (List Ent) := match v with | .nilm => some [] | .map r => ob (H.obj r) fun o => ob (asMapo o) fun q => some q.1 | _ => none
/-- A key of the type's own kind. -/
def keyOk (d : TypeDesc) (v : AV) : Option Unit :=
  match d with | .int _ => ob v.asInt fun _ => some () | .string => ob v.asStr fun _ => some () | .bool => ob v.asBool fun _ => some () | _ => none
def found (v : AV) (ok : Bool) (is : Bool) : AV := iteB ok (.tup [v, .bool is]) v
def opLookup (e : Env) (H : Hp) (t : TypeId) (x i : Operand) (ok : Bool) : Option OR :=
  ob (P.underlying t) fun d => ob (mapD d) fun q => ob (e x) fun m => ob (e i) fun k => ob (mapOf H m) fun es => ob (P.underlying q.1) fun kd => ob (keyOk kd k) fun _ => ob (lookupA kd k es) fun r =>
    optRec (β := Option OR) (ob (zero P q.2) fun z => valH H (found z ok false)) (fun v => valH H (found v ok true)) r
def mapKey (t : TypeId) : Option TypeDesc := ob (P.underlying t) fun d => ob (mapD d) fun q => P.underlying q.1
def opMapUpd (e : Env) (H : Hp) (t : TypeId) (m k x : Operand) : Option OR :=
  ob (mapKey P t) fun kd => ob (e m) fun m => ob m.asMap fun r => ob (e k) fun k => ob (keyOk kd k) fun _ => ob (e x) fun x => ob (H.obj r) fun o => ob (asMapo o) fun q => ob (updA kd k x q.2 q.1) fun u =>
    ob (H.put r (.mapo u.1 (iteB u.2 (Nat.succ q.2) q.2))) fun H' => some (.skip H')
def opRange (e : Env) (H : Hp) (t : TypeId) (x : Operand) : Option OR := ob (P.underlying t) fun d => ob (isStrD d) fun _ => ob (e x) fun v => ob v.asStr fun s => allocP H (.siter s 0)
def asIter (o : AO) : Option (List Nat × Nat) := match o with | .siter s p => some (s, p) | _ => none
def nextStr (H : Hp) (b : Nat) (q : List Nat × Nat) : Option OR :=
  optRec (β := Option OR) (valH H (.tup [.bool false]))
    (fun c => iteB (Nat.blt c 128) (ob (H.put b (.siter q.1 (Nat.succ q.2))) fun H' => valH H' (.tup [.bool true, .int .i64 (.ofNat q.2), .int .i32 (.ofNat c)])) none) (nth q.1 q.2)
def opNext (e : Env) (H : Hp) (x : Operand) (str : Bool) : Option OR :=
  iteB str (ob (e x) fun p => ob p.asPtr fun a => iteB (Nat.beq a.2 0) (ob (H.obj a.1) fun o => ob (asIter o) fun q => nextStr H a.1 q) none) none
def asIface (v : AV) : Option (TypeId × AV) := match v with | .iface t v => some (t, v) | _ => none
def isNili (v : AV) : Option Unit := match v with | .nili => some () | _ => none
def opAssert (e : Env) (H : Hp) (x : Operand) (t : TypeId) (ok : Bool) : Option OR :=
  ob (e x) fun v => ob (P.underlying t) fun d => iteB (notIface d)
    (orElseO (ob (asIface v) fun q => iteB (Nat.beq q.1 t) (valH H (found q.2 ok true)) (iteB ok (ob (zero P t) fun z => valH H (found z ok false)) none))
      (ob (isNili v) fun _ => iteB ok (ob (zero P t) fun z => valH H (found z ok false)) none)) none
def opExtract (e : Env) (H : Hp) (x : Operand) (i : Nat) : Option OR := ob (e x) fun v => ob v.asTup fun vs => ob (nth vs i) fun r => valH H r
def opDefer (c : Call) (e : Env) (H : Hp) : Option OR := ob (callA P c e H) fun r => match r with | .call f args => some (.dfr f args) | _ => none
def opPanic (e : Env) (x : Operand) : Option OR := ob (e x) fun v => ob (asIface v) fun _ => some (.pnc v)
def opMakeMap (H : Hp) (r : Option Operand) : Option OR := match r with | none => allocV H (.mapo [] 0) (.map H.next) | some _ => none
def opA (o : Op) (e : Env) (H : Hp) : Option OR :=
  match o with
  | .move x => opMove e H x
  | .assign x => opMove e H x
  | .pick c a b => opPick e H c a b
  | .alloc e => opAlloc P H e
  | .box _ x => opBox e H x
  | .build t ps => opBuild P e H t ps.toList
  | .buildSlice t len ps => opBuildSlice P e H t len ps.toList
  | .load t a => opLoad P e H t a
  | .store t a x => opStore P e H t a x
  | .nilCheck x => opNil e H x
  | .binOp op t x y _ => opBin P e H op t x y
  | .unOp op _ x => opUn e H op x
  | .convert s d x => ob (e x) fun v => convA P s d v H
  | .makeInterface t x => opIface P e H t x
  | .makeFunc fn first cap => opFunc e H fn first.toList cap.toList
  | .makeMap _ r => opMakeMap H r
  | .makeSlice t l c => opMakeSlice P e H t l c
  | .slice t x lo hi mx => opSlice P e H t x lo hi mx
  | .fieldAddr s x f => opFieldAddr P e H s x f
  | .field s x f => opField P e H s x f
  | .indexAddr t x i => opIndexAddr P e H t x i
  | .index t x i => opIndex P e H t x i
  | .lookup t x i ok => opLookup P e H t x i ok
  | .mapUpdate t m k x => opMapUpd P e H t m k x
  | .range t x => opRange P e H t x
  | .next x str => opNext e H x str
  | .typeAssert x _ t ok => opAssert P e H x t ok
  | .extract x i => opExtract e H x i
  | .call c => callA P c e H
  | .defer c => opDefer P c e H
  | .panic x => opPanic e x
  | _ => none

/-! ### Code -/
/-- What is known of a function: how many slots, which of them (a bit each) are read beyond their region. -/
structure FI where
  n : Nat
  mask : Nat
structure St where
  tm : Tm
  df : List (FuncId × List AV)
  H : Hp
inductive CR where
  | norm (s : St)
  | exit (id : Nat) (s : St)
  | ret (s : St)
  | pnc (v : AV) (s : St)
inductive KR where
  | ret (v : AV) (H : Hp)
  | pnc (v : AV) (H : Hp)
abbrev Loc := List (Nat × AV)
def assocL (L : Loc) (t : Nat) : Option AV := listRec (β := Option AV) none (fun p _ ih => iteB (Nat.beq p.1 t) (some p.2) ih) L
def isGlob (mask t : Nat) : Bool := Nat.beq (Nat.land (Nat.shiftRight mask t) 1) 1
def look (mask : Nat) (L : Loc) (tm : Tm) (t : Nat) : Option AV := iteB (isGlob mask t) (tm.get .any t) (assocL L t)
def envOf (mask : Nat) (L : Loc) (tm : Tm) (x : Operand) : Option AV :=
  match x with
  | .tmp t => look mask L tm t
  | .const v => cv v
  | .global _ => none
  | .func f => some (.func f [] [])
/-- Within a region. -/
structure RS where
  L : Loc
  s : St
def RS.env (fi : FI) (r : RS) : Env := envOf fi.mask r.L r.s.tm
def putAt (fi : FI) (L : Loc) (tm : Tm) (d : Nat) (v : AV) : Option (Loc × Tm) :=
  iteB (Nat.blt d fi.n) (iteB (isGlob fi.mask d) (ob (tm.set .any v d) fun tm => some (L, tm)) (some ((d, v) :: L, tm))) none
def putR (fi : FI) (r : RS) (dst : Option Tmp) (v : AV) (df : List (FuncId × List AV)) (H : Hp) : Option RS :=
  optRec (β := Option RS) (some ⟨r.L, ⟨r.s.tm, df, H⟩⟩) (fun d => ob (putAt fi r.L r.s.tm d v) fun q => some ⟨q.1, ⟨q.2, df, H⟩⟩) dst
def isB (v : AV) (want : Bool) : Option Bool := match v with | .bool b => some (b == want) | .undef => some false | _ => none
/-- The slot of a guard. -/
def guardSlot (ops : List Oper) (j : Nat) : Option Tmp := ob (nth ops j) fun o => o.dst
def wantedAt (ops : List Oper) (e : Env) (g : Nat × Bool) : Option Bool := ob (guardSlot ops g.1) fun d => ob (e (.tmp d)) fun v => isB v g.2
/-- Is an operation wanted? -/
def wanted (ops : List Oper) (o : Oper) (e : Env) : Option Bool := optRec (β := Option Bool) (some true) (fun g => wantedAt ops e g) o.guard
abbrev CallF := FuncId → List AV → Hp → Option KR
/-- What an operation leaves: the region goes on, or a panic. -/
inductive RR where
  | go (r : RS)
  | pnc (v : AV) (s : St)
def goRS (r : Option RS) : Option RR := ob r fun r => some (.go r)
def goCall (fi : FI) (r : RS) (dst : Option Tmp) (k : KR) : Option RR := match k with | .ret v H => goRS (putR fi r dst v r.s.df H) | .pnc v H => some (.pnc v ⟨r.s.tm, r.s.df, H⟩)
def goOp (fi : FI) (call : CallF) (r : RS) (dst : Option Tmp) (x : OR) : Option RR :=
  match x with
  | .val v H => goRS (putR fi r dst v r.s.df H)
  | .skip H => goRS (putR fi r dst .undef r.s.df H)
  | .call f args => ob (call f args r.s.H) (goCall fi r dst)
  | .dfr f args => goRS (putR fi r dst .undef ((f, args) :: r.s.df) r.s.H)
  | .pnc v => some (.pnc v r.s)
def oneOp (fi : FI) (call : CallF) (ops : List Oper) (o : Oper) (r : RS) : Option RR :=
  ob (wanted ops o (r.env fi)) fun w => iteB w (ob (opA P o.op (r.env fi) r.s.H) (goOp fi call r o.dst)) (goRS (putR fi r o.dst .undef r.s.df r.s.H))
def thenR (k : RS → Option CR) (x : RR) : Option CR := match x with | .go r => k r | .pnc v s => some (.pnc v s)
def opsA (fi : FI) (call : CallF) (ops : List Oper) (l : List Oper) : RS → Option CR :=
  listRec (β := RS → Option CR) (fun r => some (.norm r.s)) (fun o _ ih r => ob (oneOp P fi call ops o r) (thenR ih)) l
/-! ### Idle rounds -/
def andB (a b : Bool) : Bool := iteB a b false
mutual
def sameAV : AV → AV → Bool
  | .any, .any => true
  | .undef, .undef => true
  | .bool a, .bool b => a == b
  | .int k a, .int j b => kEq k j && intEq a b
  | .str a, .str b => strEq a b
  | .ptr a i, .ptr b j => Nat.beq a b && Nat.beq i j
  | .nilp, .nilp => true
  | .slice a i n (.fix k), .slice b j m (.fix l) => Nat.beq a b && (Nat.beq i j && (Nat.beq n m && Nat.beq k l))
  | .slice a i n (.opn k), .slice b j m (.opn l) => Nat.beq a b && (Nat.beq i j && (Nat.beq n m && Nat.beq k l))
  | .nils, .nils => true
  | .zsl, .zsl => true
  | .map a, .map b => Nat.beq a b
  | .nilm, .nilm => true
  | .func f a c, .func g b d => Nat.beq f g && (sameL a b && sameL c d)
  | .nilf, .nilf => true
  | .iface t a, .iface u b => Nat.beq t u && sameAV a b
  | .nili, .nili => true
  | .agg a, .agg b => sameL a b
  | .tup a, .tup b => sameL a b
  | _, _ => false
def sameL : List AV → List AV → Bool
  | [], [] => true
  | a :: x, b :: y => sameAV a b && sameL x y
  | _, _ => false
end
def subT {α : Type} (same : α → α → Bool) : T α → T α → Bool
  | .leaf, _ => true
  | .node v l r, .node v' l' r' => same v v' && (subT same l l' && subT same r r')
  | .node .., .leaf => false
def sameT {α : Type} (same : α → α → Bool) : T α → T α → Bool
  | .leaf, .leaf => true
  | .node v l r, .node v' l' r' => same v v' && (sameT same l l' && sameT same r r')
  | _, _ => false
def sameES : List Ent → List Ent → Bool
  | [], [] => true
  | (a, b, n) :: x, (c, d, m) :: y => sameAV a c && (sameAV b d && (Nat.beq n m && sameES x y))
  | _, _ => false
def sameAO : AO → AO → Bool
  | .dead, _ => true
  | .cells n d t, .cells m e u => Nat.beq n m && (sameAV d e && sameT sameAV t u)
  | .mapo es c, .mapo fs d => Nat.beq c d && sameES es fs
  | .siter s p, .siter u q => strEq s u && Nat.beq p q
  | _, _ => false
/-! ### Regions that draw their order -/
def binds (x : Edge) : Bool := match x.ground with | .textOnly _ => false | .gcOnly _ => false | _ => true
/-- The set of the operations ahead of one, out of the sets of those ahead of it in the text. -/
def befOne (l : List Edge) (ms : List Nat) : Nat :=
  l.foldl (fun s x => if binds x then Nat.lor s (Nat.lor (Nat.shiftLeft 1 x.on) ((nth ms x.on).getD 0)) else s) 0
def befAll : List Oper → List Nat → List Nat
  | [], ms => ms
  | o :: l, ms => befAll l (ms ++ [befOne o.after.toList ms])
inductive Kd where
  | pure | quiet | alloc | loud
instance : DecidableEq Kd := fun a b => by cases a <;> cases b <;> first | exact isTrue rfl | exact isFalse (fun h => by cases h)
def kindOf (o : Op) : Kd :=
  match o with
  | .move _ | .assign _ => .pure
  | .alloc _ | .box .. | .makeSlice .. | .buildSlice .. | .makeMap .. => .alloc
  | .pick .. | .load .. | .nilCheck _ | .binOp .. | .unOp .. | .makeInterface .. | .makeFunc .. | .slice .. | .fieldAddr .. | .field .. | .indexAddr .. | .index .. | .lookup .. | .extract .. | .build .. | .typeAssert .. => .quiet
  | .call ⟨.builtin .len, _, _⟩ | .call ⟨.builtin .min, _, _⟩ | .call ⟨.builtin .max, _, _⟩ => .quiet
  | _ => .loud
def slotsOf (ops : List Oper) (o : Oper) : List Tmp :=
  (o.op.operands.toList.filterMap fun | .tmp t => some t | _ => none) ++
  (match o.guard with | some (g, _) => ((nth ops g).bind (·.dst)).toList | none => [])
structure Step where
  i : Nat
  again : List Nat
  early : List Nat
/-- The first that is there, of such a kind, all ahead of it done. -/
def pickOf (ks : List Kd) (ms : List Nat) (want : Kd → Bool) (done : Nat) : List Nat → Option Nat
  | [] => none
  | i :: l => if want ((nth ks i).getD .loud) && Nat.land ((nth ms i).getD 0) done == (nth ms i).getD 0 then some i else pickOf ks ms want done l
def isQuiet (k : Kd) : Bool := match k with | .pure | .quiet => true | _ => false
def isLoud (k : Kd) : Bool := match k with | .loud => true | _ => false
def planFrom (ks : List Kd) (ms : List Nat) : Nat → Nat → List Nat → List Nat → Option (List Step)
  | 0, _, _, _ => none
  | _ + 1, _, [], _ => some []
  | f + 1, done, left, ahead =>
    match pickOf ks ms isQuiet done left with
    | some i => (planFrom ks ms f (Nat.lor done (Nat.shiftLeft 1 i)) (left.filter (· != i)) (i :: ahead)).bind fun r => some (⟨i, [], []⟩ :: r)
    | none => match (pickOf ks ms isLoud done left).orElse fun _ => pickOf ks ms (fun _ => true) done left with
      | some i => (planFrom ks ms f (Nat.lor done (Nat.shiftLeft 1 i)) (left.filter (· != i)) ahead).bind fun r =>
          some (⟨i, ahead.filter fun q => (nth ks q).getD .loud == .quiet && !Nat.testBit ((nth ms i).getD 0) q, left.filter fun j => j != i && ((nth ks j).getD .loud == .alloc && !Nat.testBit ((nth ms j).getD 0) i)⟩ :: r)
      | none => none
def planOf (ops : List Oper) : Option (List Step) :=
  planFrom (ops.map (kindOf ·.op)) (befAll ops []) (ops.length + 1) 0 (List.range ops.length) []
def dstOf (ops : List Oper) (k : Nat) : Option Tmp := (nth ops k).bind (·.dst)
def slotsAt (ops : List Oper) (q : Nat) : List Tmp := match nth ops q with | some o => slotsOf ops o | none => []
/-- Whoever of these writes a slot that q looks at stands ahead of q. -/
def againOK (ops : List Oper) (ms : List Nat) (l : List Nat) (q : Nat) : Bool :=
  (slotsAt ops q).all fun d => l.all fun k => dstOf ops k != some d || Nat.testBit ((nth ms q).getD 0) k
/-- None of these writes, ahead of j, a slot that j looks at. -/
def earlyOK (ops : List Oper) (ms : List Nat) (l : List Nat) (j : Nat) : Bool :=
  (slotsAt ops j).all fun d => l.all fun k => dstOf ops k != some d || !Nat.testBit ((nth ms j).getD 0) k
/-- What is asked of a plan. -/
def stepOK (ops : List Oper) (ks : List Kd) (ms : List Nat) (ahead : List Nat) (s : Step) (behind : List Nat) : Bool :=
  let m := (nth ms s.i).getD 0
  let k := (nth ks s.i).getD .loud
  decide (s.i < ops.length) &&
  -- all that stand ahead of it are done
  ((List.range ops.length).all fun j => !Nat.testBit m j || ahead.contains j) &&
  (match k with
   | .loud | .alloc => behind.all fun j => Nat.testBit ((nth ms j).getD 0) s.i || ((nth ks j).getD .loud == .alloc && (s.early.contains j && earlyOK ops ms (s.i :: behind) j)) || (nth ks j).getD .loud == .pure
   | _ => true) &&
  (match k with
   | .loud | .alloc => ahead.all fun q => (nth ks q).getD .loud != .quiet || Nat.testBit m q || (s.again.contains q && againOK ops ms (s.i :: ahead) q)
   | _ => true)
def stepsOK (ops : List Oper) (ks : List Kd) (ms : List Nat) : List Nat → List Step → Bool
  | _, [] => true
  | ahead, s :: l => !ahead.contains s.i && stepOK ops ks ms ahead s (l.map (·.i)) && stepsOK ops ks ms (s.i :: ahead) l
/-- Slots: each is written by one operation; who looks at it stands ahead of that one, or behind it. -/
def slotsOK (ops : List Oper) (ms : List Nat) : Bool :=
  let n := ops.length
  (List.range n).all fun i => match nth ops i with
    | none => false
    | some o => match o.dst with
      | none => true
      | some d => (List.range n).all fun j => i == j || match nth ops j with
        | none => false
        | some p => p.dst != some d && (!(slotsOf ops p).contains d || Nat.testBit ((nth ms j).getD 0) i || Nat.testBit ((nth ms i).getD 0) j)
/-- Edges go back in the text. -/
def edgesFrom : Nat → List Oper → Bool
  | _, [] => true
  | j, o :: l => (o.after.toList.all fun x => !binds x || Nat.blt x.on j) && edgesFrom (j + 1) l
def edgesOK (ops : List Oper) : Bool := edgesFrom 0 ops
def drawPlan (ops : List Oper) : Option (List Step) :=
  (planOf ops).bind fun l =>
    let ms := befAll ops []
    if stepsOK ops (ops.map (kindOf ·.op)) ms [] l && l.length == ops.length && slotsOK ops ms && edgesOK ops then some l else none

def valOf (x : OR) : Option AV := match x with | .val v _ => some v | _ => none
/-- An operation that was done gives the same once more. -/
def againOne (fi : FI) (ops : List Oper) (r : RS) (q : Nat) : Bool :=
  optRec (β := Bool) false (fun b => b) (ob (nth ops q) fun o => ob (wanted ops o (r.env fi)) fun w => iteB w
    (ob (opA P o.op (r.env fi) r.s.H) fun x => ob (valOf x) fun v => optRec (β := Option Bool) none (fun d => ob (r.env fi (.tmp d)) fun u => some (sameAV v u)) o.dst) (some true))
def againAll (fi : FI) (ops : List Oper) (r : RS) (l : List Nat) : Bool := listRec (β := Bool) true (fun q _ ih => iteB (againOne P fi ops r q) ih false) l
/-- No operation writes a slot that is read beyond the region. -/
def allLoc (mask : Nat) (ops : List Oper) : Bool := listRec (β := Bool) true (fun o _ ih => optRec (β := Bool) ih (fun d => iteB (isGlob mask d) false ih) o.dst) ops
def thenAgain (fi : FI) (ops : List Oper) (l : List Nat) (k : RS → Option CR) (x : RR) : Option CR :=
  match x with | .go r => iteB (againAll P fi ops r l) (k r) none | .pnc v s => iteB (allLoc fi.mask ops) (some (.pnc v s)) none
/-- An operation can be done already. -/
def earlyOne (fi : FI) (ops : List Oper) (r : RS) (q : Nat) : Bool :=
  optRec (β := Bool) false (fun b => b) (ob (nth ops q) fun o => ob (wanted ops o (r.env fi)) fun w => iteB w (ob (opA P o.op (r.env fi) r.s.H) fun _ => some true) (some true))
def earlyAll (fi : FI) (ops : List Oper) (r : RS) (l : List Nat) : Bool := listRec (β := Bool) true (fun q _ ih => iteB (earlyOne P fi ops r q) ih false) l
def drawOne (fi : FI) (call : CallF) (ops : List Oper) (q : Step) (k : RS → Option CR) (r : RS) : Option CR :=
  iteB (earlyAll P fi ops r q.early) (ob (nth ops q.i) fun o => ob (oneOp P fi call ops o r) (thenAgain P fi ops q.again k)) none
def drawA (fi : FI) (call : CallF) (ops : List Oper) (l : List Step) : RS → Option CR :=
  listRec (β := RS → Option CR) (fun r => some (.norm r.s)) (fun q _ ih r => drawOne P fi call ops q ih r) l
def regionA (fi : FI) (call : CallF) (ops : List Oper) (draw : Bool) (s : St) : Option CR :=
  iteB draw (ob (drawPlan ops) fun l => drawA P fi call ops l ⟨[], s⟩) (opsA P fi call ops ops ⟨[], s⟩)
/-- i, n and f are none of the others. -/
def apart (i n t f g d u : Nat) : Bool := i != t && i != g && i != d && i != u && i != n && n != t && n != g && n != d && n != u && f != t && f != g && f != d && f != u && f != i
structure Idle where
  (i n t f g d u x : Nat)
def idleShape : Code → Option Idle
  | .seq (.region _ ⟨[⟨some t, .binOp .lss _ (.tmp i) (.tmp n) _, _, _, _, none⟩]⟩ false)
      (.seq (.cond (.tmp t') .skip (.exit x)) (.seq (.block y (.region _ ⟨[⟨some g, .move (.tmp f), _, _, _, none⟩, ⟨some d, .call ⟨.value (.tmp g'), ⟨[]⟩, _⟩, _, _, _, none⟩]⟩ false))
        (.region _ ⟨[⟨some u, .binOp .add _ (.tmp i') (.const (.int .i64 1)) _, _, _, _, none⟩, ⟨some i'', .move (.tmp u'), _, _, _, none⟩]⟩ false))) =>
    if t = t' && g = g' && i = i' && i = i'' && u = u' && x ≠ y && apart i n t f g d u then some ⟨i, n, t, f, g, d, u, x⟩ else none
  | _ => none
def idleTm (q : Idle) (tm : Tm) (N : Nat) : Option Tm :=
  ob (tm.set .any .any q.t) fun tm => ob (tm.set .any .any q.g) fun tm => ob (tm.set .any .any q.d) fun tm =>
    ob (tm.set .any .any q.u) fun tm => tm.set .any (.int .i64 (.ofNat N)) q.i
def isUnit (v : AV) : Bool := match v with | .tup [] => true | _ => false
def idleEnd (q : Idle) (s : St) (N : Nat) (r : KR) : Option CR :=
  match r with
  | .ret v H1 => iteB (isUnit v) (iteB (subT sameAO s.H.t H1.t) (ob (idleTm q s.tm N) fun tm => some (.exit q.x ⟨tm, s.df, s.H⟩)) none) none
  | .pnc .. => none
def isI64 (k : IntKind) : Bool := match k with | .i64 => true | _ => false
/-- The slots lie in the frame; i, n and f are kept. -/
def idleIn (fi : FI) (q : Idle) : Bool := andB (Nat.blt q.i fi.n) (andB (Nat.blt q.t fi.n) (andB (Nat.blt q.g fi.n) (andB (Nat.blt q.d fi.n) (andB (Nat.blt q.u fi.n) (andB (isGlob fi.mask q.i) (andB (isGlob fi.mask q.n) (isGlob fi.mask q.f)))))))
/-- The rest of a counted loop whose rounds do nothing to what is there. -/
def idleQ (fi : FI) (hint : Nat → Bool) (call : CallF) (s : St) (q : Idle) : Option CR :=
  iteB (idleIn fi q) (ob (s.tm.get .any q.i) fun i => ob i.asInt fun c => ob (intNat c.2) fun c' => iteB (hint c') (ob (s.tm.get .any q.n) fun n => ob n.asInt fun m => ob (intNat m.2) fun N =>
    iteB (isI64 c.1) (iteB (isI64 m.1) (iteB (Nat.blt c' N) (iteB (Nat.blt N 9223372036854775807)
      (ob (s.tm.get .any q.f) fun fv => ob fv.asFunc fun g => iteB (enterOK P g.1) (iteB (Nat.beq (lenL g.2.1 0) 0) (ob (call g.1 g.2.2 s.H) fun r => idleEnd q s N r) none) none) none) none) none) none) none) none
def idle (fi : FI) (hint : Nat → Bool) (call : CallF) (a : Code) (s : St) : Option CR := ob (idleShape a) (idleQ P fi hint call s)

/-! ### Code -/
abbrev EvF := FI → Code → St → Option CR
def seqNext (fi : FI) (ih : EvF) (b : Code) (r : CR) : Option CR := match r with | .norm s => ih fi b s | .exit i s => some (.exit i s) | .ret s => some (.ret s) | .pnc v s => some (.pnc v s)
def blockEnd (id : Nat) (r : CR) : Option CR := match r with | .norm s => some (.norm s) | .exit i s => iteB (Nat.beq i id) (some (.norm s)) (some (.exit i s)) | .ret s => some (.ret s) | .pnc v s => some (.pnc v s)
def condA (fi : FI) (ih : EvF) (x : Operand) (a b : Code) (s : St) : Option CR := ob (envOf fi.mask [] s.tm x) fun v => ob v.asBool fun t => iteB t (ih fi a s) (ih fi b s)
def loopA (fi : FI) (hint : Nat → Bool) (ih : EvF) (call : CallF) (c a : Code) (s : St) : Option CR := orElseO (idle P fi hint call a s) (ob (ih fi a s) (seqNext fi ih c))
def seqA (fi : FI) (ih : EvF) (a b : Code) (s : St) : Option CR := ob (ih fi a s) (seqNext fi ih b)
def blockA (fi : FI) (ih : EvF) (id : Nat) (a : Code) (s : St) : Option CR := ob (ih fi a s) (blockEnd id)
def codeStep (hint : Nat → Bool) (ih : EvF) (call : CallF) (fi : FI) (c : Code) (s : St) : Option CR :=
  match c with
  | .skip => some (.norm s)
  | .label _ => some (.norm s)
  | .region _ ops d => regionA P fi call ops.toList d s
  | .seq a b => seqA fi ih a b s
  | .cond x a b => condA fi ih x a b s
  | .block id a => blockA fi ih id a s
  | .loop a => loopA P fi hint ih call c a s
  | .exit id => some (.exit id s)
  | .ret => some (.ret s)
  | .scope a => ih fi a s
  | _ => none
def resOne (fi : FI) (tm : Tm) (H : Hp) (r : ResultVar) : Option AV :=
  match r with
  | .tmp t => look fi.mask [] tm t
  | .cell a t => ob (tyA P t) fun ty => ob (look fi.mask [] tm a) fun p => ob p.asPtr fun q => loadAs H ty q
def resA (fi : FI) (tm : Tm) (H : Hp) (l : List ResultVar) : Option (List AV) := mapO (resOne P fi tm H) l
def resV (l : List AV) : AV := match l with | [v] => v | vs => .tup vs

/-! ### Calls -/
inductive Md where
  | ret
  | pan (v : AV) (recd : Bool)
abbrev Orc := FuncId → Option (List AV → Hp → Option KR)
def recMd (md : Md) : AV × Md := match md with | .pan v false => (v, .pan v true) | md => (.nili, md)
def putLT (fi : FI) (r : Loc × Tm) (dst : Option Tmp) (v : AV) : Option (Loc × Tm) := optRec (β := Option (Loc × Tm)) (some r) (fun d => putAt fi r.1 r.2 d v) dst
def opDs (fi : FI) (o : Oper) (r : Loc × Tm) (md : Md) : Option ((Loc × Tm) × Md) :=
  match o.guard with
  | some _ => none
  | none => match o.op with
    | .call ⟨.builtin .recover, ⟨[]⟩, _⟩ => ob (putLT fi r o.dst (recMd md).1) fun r => some (r, (recMd md).2)
    | .assign x => ob (envOf fi.mask r.1 r.2 x) fun v => ob (putLT fi r o.dst v) fun r => some (r, md)
    | .move x => ob (envOf fi.mask r.1 r.2 x) fun v => ob (putLT fi r o.dst v) fun r => some (r, md)
    | _ => none
/-- The region in which a deferred function recovers. -/
def opsD (fi : FI) (l : List Oper) : Loc × Tm → Md → Option ((Loc × Tm) × Md) :=
  listRec (β := Loc × Tm → Md → Option ((Loc × Tm) × Md)) (fun r md => some (r, md)) (fun o _ ih r md => ob (opDs fi o r md) fun q => ih q.1 q.2) l
def settleA (md : Md) : Md := match md with | .pan _ true => .ret | m => m
def splitD (c : Code) : Option (List Oper × Code) := match c with | .seq (.region _ ops false) rest => some (ops.toList, rest) | _ => none
def funcOf (f : FuncId) : Option (Func × Code) := ob (P.funcs[f]?) fun fn => ob fn.body fun c => some (fn, c)
def doneD (fn : Func) (md : Md) (r : CR) : Option (Md × Hp) :=
  match r with
  | .norm s => iteB (andB (Nat.beq (lenL s.df 0) 0) (Nat.beq (lenL fn.results.toList 0) 0)) (some (settleA md, s.H)) none
  | .ret s => iteB (andB (Nat.beq (lenL s.df 0) 0) (Nat.beq (lenL fn.results.toList 0) 0)) (some (settleA md, s.H)) none
  | _ => none
/-- The arguments lie in the first slots, which are read anywhere. -/
def mkTm (n mask : Nat) (args : List AV) : Option Tm := iteB (Nat.ble (lenL args 0) n) (storeT .any args .leaf 0) none
/-- A deferred call, made in a frame that is in such a mode. -/
def callD (msk : FuncId → Nat) (ev : EvF) (f : FuncId) (args : List AV) (md : Md) (H : Hp) : Option (Md × Hp) :=
  ob (funcOf P f) fun q => ob (splitD q.2) fun c => ob (mkTm q.1.ntmps (msk f) args) fun tm => ob (opsD ⟨q.1.ntmps, msk f⟩ c.1 ([], tm) md) fun r => ob (ev ⟨q.1.ntmps, msk f⟩ c.2 ⟨r.1.2, [], H⟩) fun e => doneD q.1 r.2 e
def leaveEnd (fi : FI) (fn : Func) (tm : Tm) (md : Md) (H : Hp) : Option KR :=
  match md with
  | .ret => ob (resA P fi tm H fn.results.toList) fun vs => some (.ret (resV vs) H)
  | .pan v b => iteB b none (some (.pnc v H))
def leaveA (msk : FuncId → Nat) (ev : EvF) (fi : FI) (fn : Func) (tm : Tm) (l : List (FuncId × List AV)) : Md → Hp → Option KR :=
  listRec (β := Md → Hp → Option KR) (fun md H => leaveEnd P fi fn tm md H) (fun d _ ih md H => ob (callD P msk ev d.1 d.2 md H) fun q => ih q.1 q.2) l
def leave (msk : FuncId → Nat) (ev : EvF) (fi : FI) (fn : Func) (r : CR) : Option KR :=
  match r with
  | .norm s => leaveA P msk ev fi fn s.tm s.df .ret s.H
  | .ret s => leaveA P msk ev fi fn s.tm s.df .ret s.H
  | .pnc v s => leaveA P msk ev fi fn s.tm s.df (.pan v false) s.H
  | .exit .. => none
def callFn (msk : FuncId → Nat) (ev : EvF) (f : FuncId) (args : List AV) (H : Hp) : Option KR :=
  ob (funcOf P f) fun q => ob (mkTm q.1.ntmps (msk f) args) fun tm => ob (ev ⟨q.1.ntmps, msk f⟩ q.2 ⟨tm, [], H⟩) (leave P msk ev ⟨q.1.ntmps, msk f⟩ q.1)
def callStep (msk : FuncId → Nat) (orc : Orc) (ev : EvF) (f : FuncId) (args : List AV) (H : Hp) : Option KR :=
  optRec (β := Option KR) (callFn P msk ev f args H) (fun g => orElseO (g args H) (callFn P msk ev f args H)) (orc f)
/-- The evaluation. -/
def ev (hint : Nat → Bool) (msk : FuncId → Nat) (orc : Orc) (n : Nat) : EvF :=
  natRec (β := EvF) (fun _ _ _ => none) (fun _ ih fi c s => codeStep P hint ih (callStep P msk orc ih) fi c s) n
end Go.Vex
end
noncomputable section
namespace Go.Vex
/-! ### An oracle for (*emit.Code).Ops -/
def asI64 (v : AV) : Option Nat := match v with | .int .i64 n => intNat n | _ => none
def entNat (e : Ent) : Option (Nat × Nat × Nat) := ob (asI64 e.1) fun a => ob (asI64 e.2.1) fun l => some (a, l, e.2.2)
def apartJ (x : Nat × Nat × Nat) (r : List (Nat × Nat × Nat)) : Bool :=
  listRec (β := Bool) true (fun y _ ih => iteB (Nat.beq x.1 y.1) false (iteB (Nat.beq x.2.2 y.2.2) false ih)) r
/-- No key and no stamp stands twice; no stamp is beyond the clock. -/
def jsOK (cl : Nat) (js : List (Nat × Nat × Nat)) : Bool :=
  listRec (β := Bool) true (fun x r ih => iteB (Nat.blt x.2.2 cl) (iteB (apartJ x r) ih false) false) js
def orcJ (ls : List AV) (ol : Nat) (js : List (Nat × Nat × Nat)) : AO → Option AO :=
  listRec (β := AO → Option AO) (fun o => some o) (fun x _ ih o => iteB (Nat.blt x.1 ol) (ob (nth ls x.2.1) fun v => ob v.asInt fun _ => ob (o.storeN (Nat.add (Nat.mul x.1 6) 5) [v]) ih) (ih o)) js
def slOf (v : AV) : Option (Nat × Nat × Nat) := match v with | .slice b o l _ => some (b, o, l) | _ => none
def arg0 (args : List AV) : Option AV := match args with | [p] => some p | _ => none
def orcOps (args : List AV) (H : Hp) : Option KR :=
  ob (arg0 args) fun p => ob p.asPtr fun q => ob (H.load1 q.1 q.2) fun ops => ob (H.load1 q.1 (Nat.add q.2 1)) fun labels => ob (H.load1 q.1 (Nat.add q.2 2)) fun jumps =>
  ob (slOf ops) fun so => ob (slOf labels) fun sl => ob jumps.asMap fun bm => ob (H.obj bm) fun om => ob (asMapo om) fun mq =>
  ob (mapO entNat mq.1) fun js => iteB (jsOK mq.2 js) (iteB (Nat.ble so.2.2 1048576) (iteB (Nat.blt H.next 1000000000000)
    (ob (H.loadN so.1 so.2.1 (Nat.mul so.2.2 6)) fun c => ob (H.loadN sl.1 sl.2.1 sl.2.2) fun ls => ob (ofList c) fun o => ob (orcJ ls so.2.2 js o) fun o' => ob (H.alloc o') fun H' =>
      some (.ret (.slice H.next 0 so.2.2 (.fix so.2.2)) H')) none) none) none
end Go.Vex
end
