/-
  A machine that runs the model with abstract blocks, and lemmas on it: whatever it answers of a call is what the model does (ProgOK, Base: the conditions).
-/
import GoSem.Step
noncomputable section
namespace Go.VmK

/-! A binary trie. -/
inductive Tr (α : Type) where
  | lf
  | nd (l : Tr α) (v : Option α) (r : Tr α)
  deriving Inhabited

def Tr.get {α : Type} (t : Tr α) (i : Nat) : Option α :=
  Tr.rec (motive := fun _ => Nat → Option α) (fun _ => none)
    (fun _ v _ gl gr i => Bool.rec (Bool.rec (gr (Nat.pred (Nat.div i 2))) (gl (Nat.div i 2)) (Nat.beq (Nat.mod i 2) 1)) v (Nat.beq i 0)) t i

def Tr.leafPut {α : Type} (x : Option α) (k : Nat) : Nat → Tr α :=
  Nat.rec (motive := fun _ => Nat → Tr α) (fun _ => .lf)
    (fun _ p i => Bool.rec (Bool.rec (.nd .lf none (p (Nat.pred (Nat.div i 2)))) (.nd (p (Nat.div i 2)) none .lf) (Nat.beq (Nat.mod i 2) 1)) (.nd .lf x .lf) (Nat.beq i 0)) k
def Tr.putF {α : Type} (t : Tr α) (i : Nat) (x : Option α) : Tr α :=
  Tr.rec (motive := fun _ => Nat → Tr α) (fun i => Tr.leafPut x (Nat.succ i) i)
    (fun l v r pl pr i => Bool.rec (Bool.rec (.nd l v (pr (Nat.pred (Nat.div i 2)))) (.nd (pl (Nat.div i 2)) v r) (Nat.beq (Nat.mod i 2) 1)) (.nd l x r) (Nat.beq i 0)) t i

def Tr.set {α : Type} (t : Tr α) (i : Nat) (v : α) : Tr α := Tr.putF t i (some v)
def Tr.del {α : Type} (t : Tr α) (i : Nat) : Tr α := Tr.putF t i none

/-- A list from an index on. -/
def Tr.setL {α : Type} (t : Tr α) (i : Nat) : List α → Tr α
  | [] => t
  | v :: vs => (t.set i v).setL (i + 1) vs

def Tr.getL {α : Type} (t : Tr α) (i : Nat) : Nat → Option (List α)
  | 0 => some []
  | n + 1 => match t.get i with
    | none => none
    | some v => match t.getL (i + 1) n with
      | none => none
      | some vs => some (v :: vs)

def Tr.ofL {α : Type} (l : List α) : Tr α := Tr.setL .lf 0 l

def evens {α : Type} : List α → List α
  | [] => []
  | [x] => [x]
  | x :: _ :: r => x :: evens r
def odds {α : Type} : List α → List α
  | [] => []
  | [_] => []
  | _ :: y :: r => y :: odds r
/-- A table, built in halves: entry 0 at the root, then the odd places to the left and the even ones to the right. -/
def Tr.build {α : Type} : Nat → List α → Tr α
  | 0, _ => .lf
  | _ + 1, [] => .lf
  | k + 1, x :: r => .nd (Tr.build k (evens r)) (some x) (Tr.build k (odds r))

inductive Cap where
  | lit (n : Nat)
  | var (b less : Nat)
  deriving DecidableEq, Repr, Inhabited

/-- Abstract values: blocks by abstract numbers. -/
inductive AV where
  | bool (b : Bool)
  | int (k : IntKind) (n : Int)
  | str (s : List UInt8)
  | nilp
  | ptr (b off : Nat)
  | gptr (g off : Nat)
  | nils
  | slice (b off len : Nat) (cap : Cap)
  | nilm
  | map (b : Nat)
  | func (f : FuncId) (first captured : List AV)
  | yield (l : Nat)
  | nilFunc
  | iface (t : TypeId) (v : AV)
  | nilIface
  | agg (cells : List AV)
  | tuple (vs : List AV)
  | sym (i : Nat)
  /-- a slice of no element that is not nil: the end of a row whose room is not known; where no room is left it stays at off, otherwise it stands at off' -/
  | slice0 (b off off' k less : Nat)
  /-- a text, its length, a whole number, that are handed from outside -/
  | symStr (i : Nat)
  | symLen (i : Nat)
  | symInt (k : IntKind) (i : Nat)
  /-- a value of one cell (a row, a map, ..) that is handed from outside -/
  | symC (i : Nat)
  deriving Inhabited

inductive Jump where
  | ret | exit (id : Nat) | goto (l : Nat)
  deriving DecidableEq, Repr, Inhabited

inductive AObj where
  /-- n cells are known by number (each known, if it is in the table); open: then the block goes on. fz: the cells that may be frozen, from .. to; mark: the block may bear the mark behind its end. -/
  | cells (t : Tr AV) (n : Nat) (elem : TypeId) (opn : Bool) (lo hi : Nat) (mark : Bool)
  | map (es : List (AV × AV × Nat)) (clock : Nat)
  | mapIter (m : Option Nat) (since : Nat) (seen : List Nat) (stepped : Nat)
  | striter (s : List UInt8) (pos : Nat)
  | loop (state : LoopState) (pending : Option Jump)
  | deferred (there : Bool)
  deriving Inhabited

structure Heap where
  objs : Tr AObj
  next : Nat
  deriving Inhabited

inductive AItem where
  | code (c : Code)
  | inBlock (id : Nat)
  | inLoop (body : Code)
  | inScope (body : Code)
  | endRangeFunc (l : Nat)
  | beginRound
  deriving Inhabited

/-- What stands still of a frame. -/
structure FInfo where
  fn : FuncId
  n : Nat
  defers : List Nat
  round : Option Nat
  /-- calls that the frame has deferred: the function, and what it is handed -/
  later : List (FuncId × List AV) := []
  deriving Inhabited

/-- What stands still of a loop over a function. -/
structure LoopInfo where
  id : Nat
  fn : FuncId
  n : Nat
  tmps : Tr AV
  params : List Tmp
  assign : Code
  body : Code
  defers : Nat
  deriving Inhabited

structure TI where
  und : TypeDesc
  size : Nat
  bytes : Nat
  zero : Option AV
  deriving Inhabited

structure FI where
  body : Option Code
  ntmps : Nat
  results : List ResultVar
  deriving Inhabited

inductive Ext where
  | same | mapsClone | other
  /-- bytealg's: how often a byte stands in a text; where first; how two rows of bytes stand -/
  | count | indexByte | compare
  /-- bytealg.MakeNoZero: a row of bytes of which nothing is known -/
  | makeNoZero (e : TypeId)
  deriving Inhabited, Repr

/-- functions that are taken by what is proved of them -/
inductive Con where
  /-- sorts a row of texts in its place -/
  | sort
  | crc
  /-- says yes or no of just this, which is handed from outside -/
  | flag (es : List AV)
  /-- says yes of just this -/
  | yes (es : List AV)
  /-- answers this of that -/
  | ans (rs : List (List AV × AV))
  /-- calls whose ends are known: what is handed, the memory, the ends -/
  | known (rs : List (List AV × Heap × List (AV × Heap)))
  /-- a law of its own: the memory, what is handed; the ends -/
  | fn (g : Heap → List AV → Option (List (AV × Heap)))
  deriving Inhabited

/-- how a method takes what stands in an interface: the pointer itself, or what lies there -/
inductive Recv where
  | ptr
  | load (elem : TypeId)
  deriving Inhabited
structure Ctx where
  types : Tr TI
  funcs : Tr FI
  exts : Tr Ext
  cons : Tr Con
  /-- functions whose several ends are handed on, not joined -/
  apart : List FuncId
  /-- types of keys that are rows or structs of plain data, and how deep -/
  keys : Tr Nat
  /-- functions that run in the part of the memory that is reached from what they are handed, so many steps deep -/
  frames : Tr Nat
  /-- comparisons of what is handed from outside, of which the answer is known -/
  facts : List (BinOp × AV × AV × AV)
  /-- operations on what is handed from outside, of which the answer is known -/
  ofacts : List ((Nat × Nat × Nat) × List AV × AV)
  /-- what is handed from outside -/
  base : Nat → Option Value
  /-- what lies outside -/
  mem : Nat → Nat → Option Value
  /-- the methods of a type -/
  meths : Tr (List (String × Option (FuncId × Recv)))
  deriving Inhabited

/-! Values -/
def mapO {α β : Type} (f : α → Option β) : List α → Option (List β)
  | [] => some []
  | x :: xs => match f x with
    | none => none
    | some y => match mapO f xs with
      | none => none
      | some ys => some (y :: ys)

def ofVal : Nat → Value → Option AV
  | 0, _ => none
  | k + 1, v => match v with
    | .bool b => some (.bool b)
    | .int k n => some (.int k n)
    | .string s => some (.str s.data.toList)
    | .pointer none => some .nilp
    | .slice none len cap => bif Nat.beq (len + cap) 0 then some .nils else none
    | .map none => some .nilm
    | .nilFunc => some .nilFunc
    | .nilIface => some .nilIface
    | .func (.func f) first captured => match mapO (ofVal k) first.toList, mapO (ofVal k) captured.toList with
      | some a, some b => some (.func f a b)
      | _, _ => none
    | .iface t v => (ofVal k v).map (.iface t)
    | .agg cs => (mapO (ofVal k) cs.toList).map .agg
    | .tuple cs => (mapO (ofVal k) cs.toList).map .tuple
    | _ => none

def AV.cells : AV → List AV
  | .agg cs => cs
  | v => [v]

def AV.oneCell : AV → Bool
  | .agg _ | .tuple _ | .sym _ => false
  | _ => true

def evC (v : Value) : Option AV :=
  Value.casesOn (motive_1 := fun _ => Option AV) v (fun b => some (.bool b)) (fun k n => some (.int k n)) (fun _ _ => none) (fun _ _ _ => none) (fun s => some (.str s.data.toList))
    (fun _ => ofVal 4 v) (fun _ _ _ => ofVal 4 v) (fun _ => ofVal 4 v) (fun _ => none) (fun _ _ _ => ofVal 4 v) (ofVal 4 v) (fun _ _ => ofVal 4 v) (ofVal 4 v) (fun _ => ofVal 4 v) (fun _ => ofVal 4 v)
def ev (tmps : Tr AV) (x : Operand) : Option AV :=
  Operand.casesOn (motive := fun _ => Option AV) x (fun t => tmps.get t) evC (fun g => some (.gptr g 0)) (fun f => some (.func f [] []))

def ti (C : Ctx) (t : TypeId) : Option TI := C.types.get t
def und (C : Ctx) (t : TypeId) : Option TypeDesc := (C.types.get t).map (·.und)

def isAggD : TypeDesc → Bool
  | .struct _ | .array _ _ => true
  | _ => false

/-! Ints -/
def leI64 (n : Int) : Bool := Int.casesOn n (fun m => Nat.ble m 9223372036854775807) (fun m => Nat.ble m 9223372036854775807)
def leNat (b : Nat) (n : Int) : Bool := Int.casesOn n (fun m => Nat.ble m b) (fun _ => false)
def wrapIf (c : Bool) (k : IntKind) (n : Int) : Int := Bool.casesOn c (IntKind.wrap k n) n
def wrapK (k : IntKind) (n : Int) : Int :=
  IntKind.casesOn k (IntKind.wrap .i8 n) (IntKind.wrap .i16 n) (IntKind.wrap .i32 n) (wrapIf (leI64 n) .i64 n) (wrapIf (leNat 255 n) .u8 n) (IntKind.wrap .u16 n) (wrapIf (leNat 4294967295 n) .u32 n)
    (wrapIf (leNat 18446744073709551615 n) .u64 n)
def kindNo (k : IntKind) : Nat := IntKind.casesOn k 0 1 2 3 4 5 6 7
def maxNat (k : IntKind) : Nat := IntKind.casesOn k 127 32767 2147483647 9223372036854775807 255 65535 4294967295 18446744073709551615
def ltI (x y : Int) : Bool := Int.casesOn x (fun a => Int.casesOn y (fun b => Nat.blt a b) (fun _ => false)) (fun a => Int.casesOn y (fun _ => true) (fun b => Nat.blt b a))
def eqI (x y : Int) : Bool := Int.casesOn x (fun a => Int.casesOn y (fun b => Nat.beq a b) (fun _ => false)) (fun a => Int.casesOn y (fun _ => false) (fun b => Nat.beq a b))
def notB (b : Bool) : Bool := Bool.casesOn b true false

/-- the slow way: the model's own -/
def bitSlow (op : BinOp) (k : IntKind) (x y : Int) : Option Int :=
  let a := BitVec.ofInt k.bits x
  let b := BitVec.ofInt k.bits y
  match op with
  | .and => some (IntKind.wrap k (a &&& b).toNat)
  | .or => some (IntKind.wrap k (a ||| b).toNat)
  | .xor => some (IntKind.wrap k (a ^^^ b).toNat)
  | .andNot => some (IntKind.wrap k (a &&& ~~~b).toNat)
  | _ => none
def bitGen (op : BinOp) (k : IntKind) (x y : Int) : Option AV := match bitSlow op k x y with | none => none | some n => some (.int k n)
def bitN (f : Nat → Nat → Nat) (op : BinOp) (k : IntKind) (a b : Nat) : Option AV :=
  Bool.casesOn (Nat.ble a (maxNat k)) (bitGen op k (.ofNat a) (.ofNat b)) (Bool.casesOn (Nat.ble b (maxNat k)) (bitGen op k (.ofNat a) (.ofNat b)) (some (.int k (.ofNat (f a b)))))
def bitOp (f : Nat → Nat → Nat) (op : BinOp) (k : IntKind) (x y : Int) : Option AV :=
  Int.casesOn x (fun a => Int.casesOn y (fun b => bitN f op k a b) (fun b => bitGen op k (.ofNat a) (.negSucc b))) (fun a => bitGen op k (.negSucc a) y)

def opAdd (k : IntKind) (x y : Int) : Option AV := some (.int k (wrapK k (Int.add x y)))
def opSub (k : IntKind) (x y : Int) : Option AV := some (.int k (wrapK k (Int.sub x y)))
def opMul (k : IntKind) (x y : Int) : Option AV := some (.int k (wrapK k (Int.mul x y)))
def opQuo (k : IntKind) (x y : Int) : Option AV := Bool.casesOn (eqI y 0) (some (.int k (wrapK k (Int.tdiv x y)))) none
def opRem (k : IntKind) (x y : Int) : Option AV := Bool.casesOn (eqI y 0) (some (.int k (Int.tmod x y))) none
def opShl (k : IntKind) (x y : Int) : Option AV := Bool.casesOn (ltI y 0) (some (.int k (wrapK k (Int.mul x (.ofNat (Nat.pow 2 (min y.toNat k.bits))))))) none
def opShr (k : IntKind) (x y : Int) : Option AV := Bool.casesOn (ltI y 0) (some (.int k (Int.fdiv x (.ofNat (Nat.pow 2 (min y.toNat k.bits)))))) none
def opB (b : Bool) : Option AV := some (.bool b)

def intOp (op : BinOp) (k : IntKind) (x y : Int) : Option AV :=
  BinOp.casesOn op (opAdd k x y) (opSub k x y) (opMul k x y) (opQuo k x y) (opRem k x y) (bitOp Nat.land .and k x y) (bitOp Nat.lor .or k x y) (bitOp Nat.xor .xor k x y) (opShl k x y) (opShr k x y) none
    (opB (eqI x y)) (opB (notB (eqI x y))) (opB (ltI x y)) (opB (notB (ltI y x))) (opB (ltI y x)) (opB (notB (ltI x y)))
def isShift (op : BinOp) : Bool := BinOp.casesOn op false false false false false false false false true true false false false false false false false
/-- kinds are alike, or it is a shift -/
def intOp2 (op : BinOp) (k : IntKind) (x : Int) (k' : IntKind) (y : Int) : Option AV :=
  Bool.casesOn (Nat.beq (kindNo k) (kindNo k')) (Bool.casesOn (isShift op) none (intOp op k x y)) (intOp op k x y)

def beqL : List UInt8 → List UInt8 → Bool
  | [], [] => true
  | a :: x, b :: y => bif Nat.beq a.toNat b.toNat then beqL x y else false
  | _, _ => false
def ltL : List UInt8 → List UInt8 → Bool
  | _, [] => false
  | [], _ :: _ => true
  | a :: x, b :: y => bif Nat.blt a.toNat b.toNat then true else bif Nat.beq a.toNat b.toNat then ltL x y else false

def strAdd (x y : List UInt8) : Option AV := Bool.casesOn (Nat.ble (x.length + y.length) 1099511627776) none (some (.str (x ++ y)))
def strOp (op : BinOp) (x y : List UInt8) : Option AV :=
  BinOp.casesOn op (strAdd x y) none none none none none none none none none none
    (opB (beqL x y)) (opB (notB (beqL x y))) (opB (ltL x y)) (opB (notB (ltL y x))) (opB (ltL y x)) (opB (notB (ltL x y)))

/-! Memory -/
def Heap.get (H : Heap) (b : Nat) : Option AObj := H.objs.get b
def Heap.put (H : Heap) (b : Nat) (o : AObj) : Heap := { H with objs := H.objs.set b o }
def Heap.kill (H : Heap) (b : Nat) : Heap := { H with objs := H.objs.del b }
def Heap.new (H : Heap) (o : AObj) : Heap := { objs := H.objs.set H.next o, next := H.next + 1 }

def load1 (H : Heap) (b off : Nat) : Option AV :=
  match H.get b with
  | some (.cells t n _ _ _ _ _) => bif Nat.blt off n then t.get off else none
  | _ => none
def loadN (H : Heap) (b off k : Nat) : Option (List AV) :=
  match H.get b with
  | some (.cells t n _ _ _ _ _) => bif Nat.ble (off + k) n then t.getL off k else none
  | _ => none
def storeL (H : Heap) (b off : Nat) (vs : List AV) : Option Heap :=
  match H.get b with
  | some (.cells t n e o lo hi mk) =>
    bif Nat.ble (off + vs.length) n && (Nat.ble hi off || Nat.ble (off + vs.length) lo) && vs.all AV.oneCell then some (H.put b (.cells (t.setL off vs) n e o lo hi mk)) else none
  | _ => none
def newCells (H : Heap) (e : TypeId) (vs : List AV) : Heap := H.new (.cells (Tr.ofL vs) vs.length e false 0 0 false)

def loadVar (C : Ctx) (H : Heap) (t : TypeId) (b off : Nat) : Option AV :=
  match ti C t with
  | none => none
  | some i => bif isAggD i.und then (loadN H b off i.size).map .agg else load1 H b off

def storeVar (C : Ctx) (H : Heap) (t : TypeId) (b off : Nat) (v : AV) : Option Heap :=
  match ti C t with
  | none => none
  | some i => bif Nat.beq v.cells.length i.size then storeL H b off v.cells else none

def capSub : Cap → Nat → Option Cap
  | .lit n, l => bif Nat.ble l n then some (.lit (n - l)) else none
  | .var b less, l => some (.var b (less + l))

/-- part of an aggregate -/
def part (C : Ctx) (t : TypeId) (cs : List AV) (off : Nat) : Option AV :=
  match ti C t with
  | none => none
  | some i => bif isAggD i.und then (bif Nat.ble (off + i.size) cs.length then some (.agg ((cs.drop off).take i.size)) else none) else cs[off]?

def asIdx : AV → Option Int
  | .int _ n => some n
  | _ => none

/-! Equality -/
def ptrEq (C : Ctx) (e : TypeId) (a i b j : Nat) : Option Bool :=
  match ti C e with
  | some te => bif Nat.beq te.size 0 then none else bif Nat.beq a b then some (Nat.beq i j) else none
  | none => none
def eqV (C : Ctx) (t : TypeId) (x y : AV) : Option Bool :=
  match und C t, x, y with
  | some .bool, .bool a, .bool b => some (a == b)
  | some (.pointer _), .nilp, .nilp => some true
  | some (.pointer _), .nilp, .ptr _ _ => some false
  | some (.pointer _), .ptr _ _, .nilp => some false
  | some (.pointer e), .ptr a i, .ptr b j => ptrEq C e a i b j
  | some (.interface _), .nilIface, .iface _ _ => some false
  | some (.interface _), .iface _ _, .nilIface => some false
  | some (.slice _), .nils, .nils => some true
  | some (.slice _), .nils, .slice _ _ _ _ => some false
  | some (.slice _), .slice _ _ _ _, .nils => some false
  | some (.map _ _), .nilm, .nilm => some true
  | some (.map _ _), .nilm, .map _ => some false
  | some (.map _ _), .map _, .nilm => some false
  | some (.func _ _ _), .nilFunc, .nilFunc => some true
  | some (.func _ _ _), .nilFunc, .func _ _ _ => some false
  | some (.func _ _ _), .func _ _ _, .nilFunc => some false
  | _, _, _ => none

def asBytes : List AV → Option (List UInt8)
  | [] => some []
  | .int .u8 n :: r => match asBytes r with
    | some l => bif leNat 255 n then some (UInt8.ofNat n.toNat :: l) else none
    | none => none
  | _ => none

mutual
def eqAV : AV → AV → Bool
  | .bool a, .bool b => a == b
  | .int j a, .int k b => j == k && a == b
  | .str a, .str b => beqL a b
  | .nilp, .nilp | .nils, .nils | .nilm, .nilm | .nilFunc, .nilFunc | .nilIface, .nilIface => true
  | .ptr a i, .ptr b j => Nat.beq a b && Nat.beq i j
  | .gptr a i, .gptr b j => Nat.beq a b && Nat.beq i j
  | .slice a i l c, .slice b j m d => Nat.beq a b && Nat.beq i j && Nat.beq l m && (c == d)
  | .map a, .map b => Nat.beq a b
  | .func f a b, .func g c d => Nat.beq f g && eqAVs a c && eqAVs b d
  | .yield a, .yield b => Nat.beq a b
  | .iface t a, .iface u b => Nat.beq t u && eqAV a b
  | .agg a, .agg b => eqAVs a b
  | .tuple a, .tuple b => eqAVs a b
  | .sym a, .sym b => Nat.beq a b
  | .slice0 a i j k l, .slice0 b m n o p => Nat.beq a b && Nat.beq i m && Nat.beq j n && Nat.beq k o && Nat.beq l p
  | .symStr a, .symStr b => Nat.beq a b
  | .symLen a, .symLen b => Nat.beq a b
  | .symInt j a, .symInt k b => j == k && Nat.beq a b
  | .symC a, .symC b => Nat.beq a b
  | _, _ => false
def eqAVs : List AV → List AV → Bool
  | [], [] => true
  | a :: x, b :: y => eqAV a b && eqAVs x y
  | _, _ => false
end

/-! Maps: keys of whole numbers, bools, texts; arrays and structs of them through eqlF -/
def keyKind (C : Ctx) (t : TypeId) : Option TypeDesc :=
  match und C t with
  | some (.int k) => some (.int k)
  | some .string => some .string
  | some .bool => some .bool
  | _ => none
def keyEq (u : TypeDesc) (x y : AV) : Option Bool :=
  match u, x, y with
  | .int _, .int k a, .int k' b => bif Nat.beq (kindNo k) (kindNo k') then some (eqI a b) else none
  | .string, .str a, .str b => some (beqL a b)
  | .bool, .bool a, .bool b => some (a == b)
  | _, _, _ => none
def binNo (op : BinOp) : Nat := BinOp.casesOn op 0 1 2 3 4 5 6 7 8 9 10 11 12 13 14 15 16
def factOf (op : BinOp) (a b : AV) : List (BinOp × AV × AV × AV) → Option AV
  | [] => none
  | (o, x, y, r) :: l => bif Nat.beq (binNo op) (binNo o) && eqAV a x && eqAV b y then some r else factOf op a b l
/-- are two keys alike, as far as it is told; texts from outside by the facts -/
def factEq (fs : List (BinOp × AV × AV × AV)) (x y : AV) : Option Bool := match factOf .eql x y fs with | some (.bool b) => some b | _ => none
def isText : AV → Bool
  | .str _ | .symStr _ => true
  | _ => false
def isStrT : TypeDesc → Bool
  | .string => true
  | _ => false
def keyEqF (fs : List (BinOp × AV × AV × AV)) (u : TypeDesc) (x y : AV) : Option Bool :=
  match keyEq u x y with
  | some b => some b
  | none => bif isStrT u && isText x && isText y then (bif eqAV x y then some true else factEq fs x y) else none
def findK (fs : List (BinOp × AV × AV × AV)) (u : TypeDesc) (k : AV) : List (AV × AV × Nat) → Nat → Option (Option (Nat × AV × Nat))
  | [], _ => some none
  | (k', v, born) :: r, i => match keyEqF fs u k k' with
    | none => none
    | some true => some (some (i, v, born))
    | some false => findK fs u k r (i + 1)
/-- plain letters of a key -/
inductive KL where
  | b (x : Bool)
  | i (k : IntKind) (n : Int)
  | s (l : List UInt8)
  /-- a text from outside -/
  | t (i : Nat)
  deriving Inhabited
def inKind (k : IntKind) (n : Int) : Bool := eqI (IntKind.wrap k n) n
/-- is it told of a text from outside that it is not too long? -/
def shortF (fs : List (BinOp × AV × AV × AV)) (j : Nat) : Bool := match factOf .leq (.symLen j) (.int .i64 1099511627776) fs with | some (.bool b) => b | _ => false
/-- what a plain key of some type is, in plain letters -/
def keyLitsV (C : Ctx) : Nat → TypeId → List AV → Option (List KL)
  | 0, _, _ => none
  | d + 1, t, cs => match ti C t with
    | none => none
    | some i => match i.und, cs with
      | .bool, [.bool b] => some [.b b]
      | .int q, [.int q' n] => bif Nat.beq (kindNo q) (kindNo q') && inKind q n then some [.i q n] else none
      | .string, [.str s] => bif Nat.ble s.length 1099511627776 then some [.s s] else none
      | .string, [.symStr j] => bif shortF C.facts j then some [.t j] else none
      | .array n e, cs => match ti C e with
        | none => none
        | some te => bif Nat.beq cs.length i.size then (mapO (fun j => keyLitsV C d e ((cs.drop (j * te.size)).take te.size)) (List.range n)).map List.flatten else none
      | .struct fs, cs => bif Nat.beq cs.length i.size then (mapO (fun f : Field => match ti C f.type with
          | none => none
          | some tf => keyLitsV C d f.type ((cs.drop f.offset).take tf.size)) fs.toList).map List.flatten else none
      | _, _ => none
def eqKL : KL → KL → Bool
  | .b a, .b b => a == b
  | .i j a, .i k b => Nat.beq (kindNo j) (kindNo k) && eqI a b
  | .s a, .s b => beqL a b
  | _, _ => false
def eqKLs : List KL → List KL → Bool
  | [], [] => true
  | a :: x, b :: y => eqKL a b && eqKLs x y
  | _, _ => false
def triKL (fs : List (BinOp × AV × AV × AV)) : KL → KL → Option Bool
  | .t i, .t j => bif Nat.beq i j then some true else factEq fs (.symStr i) (.symStr j)
  | .t i, .s l => factEq fs (.symStr i) (.str l)
  | .s l, .t i => factEq fs (.str l) (.symStr i)
  | .t _, _ => some false
  | _, .t _ => some false
  | a, b => some (eqKL a b)
/-- are two rows of letters alike, as far as it is told -/
def triKLs (fs : List (BinOp × AV × AV × AV)) : List KL → List KL → Option Bool
  | [], [] => some true
  | a :: x, b :: y => match triKL fs a b with
    | some false => some false
    | some true => triKLs fs x y
    | none => match triKLs fs x y with
      | some false => some false
      | _ => none
  | _, _ => some false
def isNo : Option Bool → Bool
  | some false => true
  | _ => false
def isFlat : AV → Bool
  | .bool _ | .int _ _ | .str _ | .symStr _ => true
  | _ => false
def litsOf (C : Ctx) (m : Nat) (t : TypeId) (k : AV) : Option (List KL) :=
  match k with
  | .agg cs => bif cs.all isFlat then keyLitsV C m t cs else none
  | _ => none
def findW (C : Ctx) (m : Nat) (t : TypeId) (k : AV) (L : List KL) : List (AV × AV × Nat) → Nat → Option (Option (Nat × AV × Nat))
  | [], _ => some none
  | (k', v, born) :: r, i => bif eqAV k k' then some (some (i, v, born)) else match litsOf C m t k' with
    | none => none
    | some L' => bif isNo (triKLs C.facts L L') then findW C m t k L r (i + 1) else none
def isWide : TypeDesc → Bool
  | .array _ _ | .struct _ => true
  | _ => false
/-- the place of a key -/
def findKey (C : Ctx) (kt : TypeId) (k : AV) (es : List (AV × AV × Nat)) : Option (Option (Nat × AV × Nat)) :=
  match C.keys.get kt with
  | some m => match und C kt with
    | some u => bif isWide u then (match litsOf C m kt k with
      | some L => findW C m kt k L es 0
      | none => none) else none
    | none => none
  | none => match keyKind C kt with
    | none => none
    | some u => findK C.facts u k es 0
def modL {α : Type} (f : α → α) : Nat → List α → List α
  | _, [] => []
  | 0, x :: r => f x :: r
  | i + 1, x :: r => x :: modL f i r
def delL {α : Type} : Nat → List α → List α
  | _, [] => []
  | 0, _ :: r => r
  | i + 1, x :: r => x :: delL i r

def mapUpdate (C : Ctx) (H : Heap) (t : TypeId) (m k v : AV) : Option Heap :=
  match und C t, m with
  | some (.map kt _), .map b => match H.get b with
    | some (.map es clock) => match findKey C kt k es with
      | some (some (i, _)) => some (H.put b (.map (modL (fun (_, _, born) => (k, v, born)) i es) clock))
      | some none => some (H.put b (.map (es ++ [(k, v, clock)]) (clock + 1)))
      | none => none
    | _ => none
  | _, _ => none
def mapLookup (C : Ctx) (H : Heap) (t : TypeId) (m k : AV) (ok : Bool) : Option AV :=
  match und C t with
  | some (.map kt et) => match m with
    | .map b => match H.get b with
     | some (.map es _) => match findKey C kt k es with
      | some (some (_, v, _)) => some (bif ok then .tuple [v, .bool true] else v)
      | some none => match ti C et with
        | some { zero := some z, .. } => some (bif ok then .tuple [z, .bool false] else z)
        | _ => none
      | none => none
     | _ => none
    | .nilm => match findKey C kt k [] with
      | some none => match ti C et with
        | some { zero := some z, .. } => some (bif ok then .tuple [z, .bool false] else z)
        | _ => none
      | _ => none
    | _ => none
  | _ => none
/-- m[k] op= v: the entry, with its stamp -/
def mapEntry (C : Ctx) (H : Heap) (t : TypeId) (m k : AV) : Option (AV × Heap) :=
  match und C t, m with
  | some (.map kt et), .map b => match H.get b with
    | some (.map es clock) => match findKey C kt k es with
      | some (some (i, v, born)) => some (.tuple [v, .int .i64 (Int.ofNat born)], H.put b (.map (modL (fun (_, v, born) => (k, v, born)) i es) clock))
      | some none => match ti C et with
        | some { zero := some z, .. } => some (.tuple [z, .int .i64 (Int.ofNat clock)], H.put b (.map (es ++ [(k, z, clock)]) (clock + 1)))
        | _ => none
      | none => none
    | _ => none
  | _, _ => none
def bornAt (n : Int) : List (AV × AV × Nat) → Nat → Option Nat
  | [], _ => none
  | (_, _, b) :: r, i => bif eqI (Int.ofNat b) n then some i else bornAt n r (i + 1)
def entryStore (H : Heap) (m stamp v : AV) : Option Heap :=
  match m, stamp with
  | .map b, .int _ n => match H.get b with
    | some (.map es clock) => match bornAt n es 0 with
      | some i => some (H.put b (.map (modL (fun (k, _, born) => (k, v, born)) i es) clock))
      | none => none
    | _ => none
  | _, _ => none
def mapDelete (C : Ctx) (H : Heap) (t : TypeId) (m k : AV) : Option Heap :=
  match und C t, m with
  | some (.map kt _), .nilm => (match keyKind C kt with | some _ => some H | none => none)
  | some (.map kt _), .map b => match H.get b with
    | some (.map es clock) => match findKey C kt k es with
      | some (some (i, _)) => some (H.put b (.map (delL i es) clock))
      | some none => some H
      | none => none
    | _ => none
  | _, _ => none


/-! Slices -/
def bytesAV (l : List UInt8) : List AV := l.map fun b => .int .u8 (Int.ofNat b.toNat)
/-- the cells that an append puts behind -/
def appCells (H : Heap) (size : Nat) : AV → Option (Nat × List AV)
  | .nils => some (0, [])
  | .slice0 _ _ _ _ _ => some (0, [])
  | .str s => bif Nat.beq size 1 then some (s.length, bytesAV s) else none
  | .slice b off len _ => (loadN H b off (len * size)).map fun l => (len, l)
  | _ => none

def newOpen (H : Heap) (e : TypeId) (vs : List AV) (len : Nat) : AV × Heap :=
  (.slice H.next 0 len (.var H.next 0), H.new (.cells (Tr.ofL vs) vs.length e true 0 0 false))

def roomOk (need bytes : Nat) : Bool := Nat.ble ((2 * need + 400) * bytes) 281474976710656

/-- a new row, laid by append -/
def appNew (H : Heap) (e : TypeId) (te : TI) (len : Nat) (vs : List AV) : Option (AV × Heap) :=
  match te.zero with
  | none => none
  | some z => bif Nat.beq z.cells.length te.size && roomOk len te.bytes && Nat.ble len 1099511627776 then some (newOpen H e vs len) else none
/-- in place -/
def appIn (H : Heap) (b off len n sz : Nat) (cap : Cap) (new : List AV) : Option (AV × Heap) :=
  match storeL H b (off + len * sz) new with
  | none => none
  | some H' => some (.slice b off (len + n) cap, H')
/-- the row is handed on: it lies where it lay, or anew; who still has the elder slice knows nothing of it any more -/
def handOn (H : Heap) (b m : Nat) (t : Tr AV) (e : TypeId) (lo hi : Nat) (mk : Bool) (len : Nat) (new : List AV) : AV × Heap :=
  (.slice H.next 0 len (.var H.next 0), { objs := (H.objs.del b).set H.next (.cells (t.setL m new) (m + new.length) e true lo hi mk), next := H.next + 1 })
def appOn (H : Heap) (b m : Nat) (t : Tr AV) (e : TypeId) (te : TI) (lo hi : Nat) (mk : Bool) (off len less n : Nat) (new : List AV) : Option (AV × Heap) :=
  match te.zero, t.getL 0 m with
  | some z, some _ =>
    bif notB mk && Nat.beq off 0 && Nat.beq less 0 && Nat.beq (len * te.size) m && Nat.ble hi m && new.all AV.oneCell && Nat.beq z.cells.length te.size && roomOk (len + n) te.bytes && Nat.ble (len + n) 1099511627776 then
      some (handOn H b m t e lo hi mk (len + n) new)
    else none
  | _, _ => none
def appVar (H : Heap) (e : TypeId) (te : TI) (b off len k less n : Nat) (new : List AV) : Option (AV × Heap) :=
  match H.get b with
  | some (.cells t m e' true lo hi mk) =>
    bif Nat.beq k b && Nat.beq off (less * te.size) && Nat.beq e e' then
      bif Nat.ble (off + (len + n) * te.size) m then appIn H b off len n te.size (.var k less) new
      else appOn H b m t e te lo hi mk off len less n new
    else none
  | _ => none
def appRow (H : Heap) (e : TypeId) (te : TI) (s : AV) (n : Nat) (new : List AV) : Option (AV × Heap) :=
  match s with
  | .nils => bif Nat.beq n 0 then some (.nils, H) else appNew H e te n new
  | .slice b off len (.lit c) =>
    bif Nat.ble (len + n) c then appIn H b off len n te.size (.lit c) new
    else match loadN H b off (len * te.size) with
      | some old => appNew H e te (len + n) (old ++ new)
      | none => none
  | .slice b off len (.var k less) => bif Nat.beq n 0 then some (s, H) else appVar H e te b off len k less n new
  | _ => none
def noInt (C : Ctx) (xT : Option TypeId) : Bool :=
  match xT with
  | none => true
  | some t => match und C t with
    | none => false
    | some (.int _) => false
    | some _ => true
def append (C : Ctx) (H : Heap) (sT : TypeId) (xT : Option TypeId) (s x : AV) : Option (AV × Heap) :=
  match und C sT with
  | some (.slice e) => match ti C e with
    | none => none
    | some te => match appCells H te.size x with
      | none => none
      | some (n, new) => bif noInt C xT && notB (Nat.beq te.size 0) then appRow H e te s n new else none
  | _ => none

def inTo (v : AV) (m : Nat) : Option Nat :=
  match asIdx v with
  | some i => bif decide (0 ≤ i) && Nat.ble i.toNat m then some i.toNat else none
  | none => none
def boundO (o : Option AV) (m d : Nat) : Option Nat :=
  match o with
  | none => some d
  | some v => inTo v m
/-- the bounds of a cut; top: what the upper one may be at most (the capacity; where it is not known, the length) -/
def sliceBounds (len top : Nat) (lo hi mx : Option AV) : Option (Nat × Nat × Option Nat) :=
  match mx with
  | none => match boundO hi top len with
    | none => none
    | some h => match boundO lo h 0 with
      | none => none
      | some l => some (l, h, none)
  | some vm => match inTo vm top with
    | none => none
    | some m => match hi with
      | none => none
      | some vh => match inTo vh m with
        | none => none
        | some h => match boundO lo h 0 with
          | none => none
          | some l => some (l, h, some m)

def slice1 (t : List UInt8) (lo hi mx : Option AV) : Option AV :=
  match mx, sliceBounds t.length t.length lo hi none with
  | none, some (l, h, _) => some (.str ((t.take h).drop l))
  | _, _ => none
def cutAt (b off sz l h m : Nat) : AV := .slice b (bif Nat.beq m l then off else off + l * sz) (h - l) (.lit (m - l))
def slice2 (sz b off len c : Nat) (lo hi mx : Option AV) : Option AV :=
  match sliceBounds len c lo hi mx with
  | some (l, h, mm) => some (cutAt b off sz l h (mm.getD c))
  | none => none
/-- how many elements a row whose room is not known surely has room for: those that its block is known to have -/
def roomOf (H : Heap) (e : TypeId) (sz b off len k less : Nat) : Nat :=
  match H.get b with
  | some (.cells _ m e' true _ _ _) =>
    bif Nat.beq k b && Nat.beq off (less * sz) && Nat.beq e e' && Nat.ble (off + len * sz) m then (m - off) / sz else len
  | _ => len
def slice3 (H : Heap) (e : TypeId) (sz b off len k less : Nat) (lo hi mx : Option AV) : Option (AV × Heap) :=
  match sliceBounds len (bif Nat.beq sz 0 then len else roomOf H e sz b off len k less) lo hi mx with
  | some (l, h, some m) => some (cutAt b off sz l h m, H)
  | some (l, h, none) =>
    -- l < len: then it is surely below the capacity
    bif Nat.blt l len || Nat.blt l h || Nat.beq l 0 then some (.slice b (off + l * sz) (h - l) (.var k (less + l)), H)
    else some (.slice0 b off (off + l * sz) k (less + l), H)
  | none => none
def sliceOp (C : Ctx) (H : Heap) (t : TypeId) (x : AV) (lo hi mx : Option AV) : Option (AV × Heap) :=
  match und C t, x with
  | some .string, .str s => (slice1 s lo hi mx).map fun v => (v, H)
  | some (.slice e), .nils => match ti C e, sliceBounds 0 0 lo hi mx with
    | some _, some _ => some (.nils, H)
    | _, _ => none
  | some (.slice e), .slice b off len (.lit c) => match ti C e with
    | some te => (slice2 te.size b off len c lo hi mx).map fun v => (v, H)
    | none => none
  | some (.slice e), .slice b off len (.var k less) => match ti C e with
    | some te => slice3 H e te.size b off len k less lo hi mx
    | none => none
  | some (.array n e), .ptr b off => match ti C e with
    | some te => (slice2 te.size b off n n lo hi mx).map fun v => (v, H)
    | none => none
  | _, _ => none

def indexAddr (C : Ctx) (t : TypeId) (x ix : AV) : Option AV :=
  match und C t, x, asIdx ix with
  | some (.array len e), .ptr b off, some i => match ti C e with
    | some te => bif decide (0 ≤ i) && Nat.blt i.toNat len then some (.ptr b (off + i.toNat * te.size)) else none
    | none => none
  | some (.slice e), .slice b off len _, some i => match ti C e with
    | some te => bif decide (0 ≤ i) && Nat.blt i.toNat len then some (.ptr b (off + i.toNat * te.size)) else none
    | none => none
  | _, _, _ => none

def indexOp (C : Ctx) (t : TypeId) (x ix : AV) : Option AV :=
  match und C t, x, asIdx ix with
  | some .string, .str s, some i => bif decide (0 ≤ i) then (match s[i.toNat]? with | some c => some (.int .u8 (Int.ofNat c.toNat)) | none => none) else none
  | some (.array len e), .agg cs, some i => match ti C e with
    | some te => bif decide (0 ≤ i) && Nat.blt i.toNat len then part C e cs (i.toNat * te.size) else none
    | none => none
  | _, _, _ => none

def fieldAddr (C : Ctx) (t : TypeId) (x : AV) (f : Nat) : Option AV :=
  match und C t, x with
  | some (.struct fs), .ptr b off => match fs[f]? with
    | some fd => match ti C fd.type with
      | some tf => bif Nat.beq tf.size 0 then none else some (.ptr b (off + fd.offset))
      | none => none
    | none => none
  | _, _ => none

def fieldOp (C : Ctx) (t : TypeId) (x : AV) (f : Nat) : Option AV :=
  match und C t, x with
  | some (.struct fs), .agg cs => match fs[f]? with
    | some fd => part C fd.type cs fd.offset
    | none => none
  | _, _ => none

def binEq (C : Ctx) (t : TypeId) (x y : AV) : Option AV := match eqV C t x y with | none => none | some b => some (.bool b)
def binNe (C : Ctx) (t : TypeId) (x y : AV) : Option AV := match eqV C t x y with | none => none | some b => some (.bool (notB b))
def binGen (C : Ctx) (op : BinOp) (t : TypeId) (x y : AV) : Option AV :=
  match op with
  | .eql => binEq C t x y
  | .neq => binNe C t x y
  | _ => none
def binInt (op : BinOp) (k : IntKind) (a : Int) (y : AV) : Option AV := match y with | .int k' b => intOp2 op k a k' b | _ => none
def binStr (op : BinOp) (a : List UInt8) (y : AV) : Option AV := match y with | .str b => strOp op a b | _ => none
def binOp (C : Ctx) (op : BinOp) (t : TypeId) (x y : AV) : Option AV :=
  match x with
  | .int k a => binInt op k a y
  | .str a => binStr op a y
  | _ => binGen C op t x y

def unMask (k : IntKind) : Int := IntKind.casesOn k (-1) (-1) (-1) (-1) 255 65535 4294967295 18446744073709551615
def unOp (op : UnOp) (x : AV) : Option AV :=
  match op, x with
  | .not, .bool b => some (.bool (notB b))
  | .xor, .int k n => bitOp Nat.xor .xor k (unMask k) n
  | .neg, .int k n => opSub k 0 n
  | _, _ => none

/-- fill a row of cells by parts -/
def fillL (place : Nat → Option (Nat × Nat)) (t : Tr AV) (n : Nat) : List (Nat × AV) → Option (Tr AV)
  | [] => some t
  | (i, v) :: r => match place i with
    | none => none
    | some (off, size) => bif Nat.beq v.cells.length size && Nat.ble (off + size) n && v.cells.all AV.oneCell then fillL place (t.setL off v.cells) n r else none

def repeatL {α : Type} (l : List α) : Nat → List α
  | 0 => []
  | n + 1 => l ++ repeatL l n

def placeOf (C : Ctx) (fs : Array Field) (i : Nat) : Option (Nat × Nat) :=
  match fs[i]? with
  | some f => match ti C f.type with
    | some tf => some (f.offset, tf.size)
    | none => none
  | none => none
def placesOk (C : Ctx) (fs : List Field) : Bool := fs.all fun f => (ti C f.type).isSome
def aggOf (tr : Tr AV) (n : Nat) : Option AV := match tr.getL 0 n with | none => none | some l => some (.agg l)
def buildS (C : Ctx) (fs : Array Field) (z : AV) (parts : List (Nat × AV)) : Option AV :=
  bif placesOk C fs.toList then
    match fillL (placeOf C fs) (Tr.ofL z.cells) z.cells.length parts with
    | some tr => aggOf tr z.cells.length
    | none => none
  else none
def buildA (C : Ctx) (e : TypeId) (z : AV) (parts : List (Nat × AV)) : Option AV :=
  match ti C e with
  | none => none
  | some te => match fillL (fun i => some (i * te.size, te.size)) (Tr.ofL z.cells) z.cells.length parts with
    | some tr => aggOf tr z.cells.length
    | none => none
def buildOp (C : Ctx) (t : TypeId) (parts : List (Nat × AV)) : Option AV :=
  match ti C t with
  | none => none
  | some i => match i.und, i.zero with
    | .struct fs, some z => buildS C fs z parts
    | .array _ e, some z => buildA C e z parts
    | _, _ => none

def rowOf (H : Heap) (e : TypeId) (z : AV) (size n len cap : Nat) (parts : List (Nat × AV)) : Option (AV × Heap) :=
  bif Nat.beq z.cells.length size then
    match fillL (fun i => some (i * size, size)) (Tr.ofL (repeatL z.cells n)) (n * size) parts with
    | some tr => some (.slice H.next 0 len (.lit cap), H.new (.cells tr (n * size) e false 0 0 false))
    | none => none
  else none
def buildSlice (C : Ctx) (H : Heap) (t : TypeId) (len : Nat) (parts : List (Nat × AV)) : Option (AV × Heap) :=
  match und C t with
  | some (.slice e) => match ti C e with
    | none => none
    | some te => match te.zero with
      | none => none
      | some z => bif Nat.ble (len * te.size) 65536 then rowOf H e z te.size len len len parts else none
  | _ => none
def makeRow (C : Ctx) (H : Heap) (e : TypeId) (l c : Nat) : Option (AV × Heap) :=
  match ti C e with
  | none => none
  | some te => match te.zero with
    | none => none
    | some z => bif Nat.ble l c && Nat.ble (c * te.bytes) 1048576 && Nat.ble c 1048576 then rowOf H e z te.size c l c [] else none
def makeSlice (C : Ctx) (H : Heap) (t : TypeId) (len cap : AV) : Option (AV × Heap) :=
  match und C t, len, cap with
  | some (.slice e), .int _ (.ofNat l), .int _ (.ofNat c) => makeRow C H e l c
  | _, _, _ => none

def ownSize (C : Ctx) (u n : Nat) : Bool := match ti C u with | some tu => Nat.beq tu.size n && notB (Nat.beq n 0) | none => false
def convertOp (C : Ctx) (H : Heap) (src dst : TypeId) (x : AV) : Option (AV × Heap) :=
  match und C src, und C dst, x with
  | some (.int _), some (.int k), .int _ n => some (.int k (wrapK k n), H)
  | some .string, some .string, .str _ => some (x, H)
  | some (.slice e), some .string, x => match und C e, x with
    | some (.int .u8), .nils => some (.str [], H)
    | some (.int .u8), .slice b off len _ => match loadN H b off len with
      | some l => (asBytes l).map fun s => (.str s, H)
      | none => none
    | _, _ => none
  | some (.pointer _), some .unsafePointer, .nilp => some (x, H)
  | some .unsafePointer, some (.pointer _), .nilp => some (x, H)
  | some (.pointer t), some .unsafePointer, .ptr b off => match ti C t, H.get b with
    | some tt, some (.cells _ n _ _ _ _ _) => bif Nat.beq tt.size 0 || Nat.ble n off then none else some (x, H)
    | _, _ => none
  | some .unsafePointer, some (.pointer u), .ptr b off => match H.get b with
    | some (.cells _ n e _ _ _ _) => bif Nat.beq u e && Nat.beq off 0 && ownSize C u n then some (x, H) else none
    | _ => none
  | _, _, _ => none

def rangeOp (C : Ctx) (H : Heap) (t : TypeId) (x : AV) : Option (AV × Heap) :=
  match und C t, x with
  | some .string, .str s => some (.ptr H.next 0, H.new (.striter s 0))
  | some (.map _ _), .nilm => some (.ptr H.next 0, H.new (.mapIter none 0 [] 0))
  | some (.map _ _), .map b => match H.get b with
    | some (.map _ clock) => some (.ptr H.next 0, H.new (.mapIter (some b) clock [] clock))
    | _ => none
  | _, _ => none

def elemN (l : List Nat) (n : Nat) : Bool := l.any (Nat.beq n)

def overOf (H : Heap) (old : List (AV × AV × Nat)) : List (AV × Heap) := match old with | [] => [(.tuple [.bool false], H)] | _ => []
def goneAll (seen : List Nat) (es : List (AV × AV × Nat)) (last : Nat) : Bool :=
  match seen, es with
  | [], _ => false
  | _, [] => false
  | _, es => es.all fun e => Nat.ble last e.2.2
def stepTo (H : Heap) (r m since clock : Nat) (seen : List Nat) (e : AV × AV × Nat) : AV × Heap :=
  (.tuple [.bool true, e.1, e.2.1], H.put r (.mapIter (some m) since (seen ++ [e.2.2]) clock))
/-- the ways of a step over a map -/
def nextMap (H : Heap) (r m since last : Nat) (seen : List Nat) : Option (List (AV × Heap)) :=
  match H.get m with
  | some (.map es clock) =>
    bif goneAll seen es last then none else
    let left := es.filter fun e => notB (elemN seen e.2.2)
    let old := left.filter fun e => Nat.blt e.2.2 since
    let new := left.filter fun e => Nat.ble since e.2.2
    some (overOf H old ++ (old ++ new).map (stepTo H r m since clock seen))
  | _ => none
def nextOp (H : Heap) (it : AV) (isString : Bool) : Option (List (AV × Heap)) :=
  match it, isString with
  | .ptr r 0, true => match H.get r with
    | some (.striter s p) => match s[p]? with
      | none => some [(.tuple [.bool false], H)]
      | some c => bif Nat.blt c.toNat 128 then some [(.tuple [.bool true, .int .i64 (Int.ofNat p), .int .i32 (Int.ofNat c.toNat)], H.put r (.striter s (p + 1)))] else none
    | _ => none
  | .ptr r 0, false => match H.get r with
    | some (.mapIter none _ _ _) => some [(.tuple [.bool false], H)]
    | some (.mapIter (some m) since seen last) => nextMap H r m since last seen
    | _ => none
  | _, _ => none

def lastL : List Nat → Option Nat
  | [] => none
  | [x] => some x
  | _ :: r => lastL r
def findBorn (s : Nat) : List (AV × AV × Nat) → Option (AV × AV)
  | [] => none
  | (k, v, b) :: r => bif Nat.beq b s then some (k, v) else findBorn s r
def entryOp (H : Heap) (it : AV) : Option AV :=
  match it with
  | .ptr r 0 => match H.get r with
    | some (.mapIter (some m) _ seen stepped) => match lastL seen, H.get m with
      | some s, some (.map es clock) => bif Nat.beq clock stepped then (findBorn s es).map fun (k, v) => .tuple [k, v] else none
      | _, _ => none
    | _ => none
  | _ => none

def typeAssertOp (C : Ctx) (x : AV) (asserted : TypeId) (ok : Bool) : Option AV :=
  match und C asserted, x with
  | some (.interface _), _ => none
  | some _, .iface t v =>
    bif Nat.beq t asserted then some (bif ok then .tuple [v, .bool true] else v)
    else none
  | _, _ => none

def lenOp (C : Ctx) (H : Heap) (t : TypeId) (x : AV) : Option AV :=
  match und C t, x with
  | some .string, .str s => some (.int .i64 (Int.ofNat s.length))
  | some .string, .symStr i => some (.symLen i)
  | some (.slice _), .nils => some (.int .i64 0)
  | some (.slice _), .slice0 _ _ _ _ _ => some (.int .i64 0)
  | some (.slice _), .slice _ _ len _ => some (.int .i64 (Int.ofNat len))
  | some (.map _ _), .nilm => some (.int .i64 0)
  | some (.map _ _), .map b => match H.get b with
    | some (.map es _) => some (.int .i64 (Int.ofNat es.length))
    | _ => none
  | _, _ => none
def min2 : AV → AV → Option AV
  | .int k x, .int _ y => some (.int k (if y < x then y else x))
  | _, _ => none
def max2 : AV → AV → Option AV
  | .int k x, .int _ y => some (.int k (if y > x then y else x))
  | _, _ => none
def foldO (f : AV → AV → Option AV) (x : AV) : List AV → Option AV
  | [] => some x
  | y :: r => match f x y with
    | some z => foldO f z r
    | none => none

def copyOp (C : Ctx) (H : Heap) (dT : TypeId) (dst src : AV) : Option (AV × Heap) :=
  match und C dT, dst, src with
  | some (.slice e), .slice _ _ _ _, .nils => match ti C e with
    | none => none
    | some _ => some (.int .i64 0, H)
  | some (.slice e), .slice b off dLen _, .str s => match ti C e with
    | none => none
    | some te => bif Nat.beq te.size 1 then (storeL H b off (bytesAV (s.take (Nat.min s.length dLen)))).map fun H' => (.int .i64 (Int.ofNat (Nat.min s.length dLen)), H') else none
  | _, _, _ => none

def freezeTo (H : Heap) (b : Nat) (t : Tr AV) (m : Nat) (e : TypeId) (o : Bool) (lo hi k : Nat) : Heap :=
  H.put b (.cells t m e o (bif Nat.ble hi lo then 0 else min lo 0) (bif Nat.ble hi lo then k else max hi k) false)
/-- unsafe.String over the head of a row of bytes -/
def unsafeRow (C : Ctx) (H : Heap) (u : TypeId) (b k : Nat) : Option (AV × Heap) :=
  match H.get b, ti C u with
  | some (.cells t m e o lo hi mk), some te =>
    bif notB mk && Nat.beq e u && Nat.beq te.size 1 && Nat.ble k m && Nat.ble k 1099511627776 then
      match t.getL 0 k with
      | none => none
      | some l => match asBytes l with
        | some s => some (.str s, freezeTo H b t m e o lo hi k)
        | none => none
    else none
  | _, _ => none
def unsafeN (C : Ctx) (H : Heap) (pT : TypeId) (p : AV) (k : Nat) : Option (AV × Heap) :=
  match p with
  | .nilp => bif Nat.beq k 0 then some (.str [], H) else none
  | .ptr b off => bif Nat.beq k 0 then some (.str [], H) else
    match und C pT with
    | some (.pointer u) => bif Nat.beq off 0 then unsafeRow C H u b k else none
    | _ => none
  | _ => none
def unsafeStr (C : Ctx) (H : Heap) (pT : TypeId) (p n : AV) : Option (AV × Heap) :=
  match n with
  | .int .i64 (.ofNat k) => unsafeN C H pT p k
  | _ => none

def unsafeSliceData (x : AV) : Option AV :=
  match x with
  | .nils => some .nilp
  | .slice b off _ (.lit c) => bif Nat.beq c 0 then none else some (.ptr b off)
  | .slice b off len (.var _ _) => bif Nat.beq len 0 then none else some (.ptr b off)
  | _ => none

inductive Out where
  | val (v : AV) (H : Heap)
  | skip (H : Heap)
  | enter (f : FuncId) (args : List AV)
  | round (l : Nat) (args : List AV)
  | ways (l : List (AV × Heap))

def pairO : Option (AV × Heap) → Option Out
  | some (v, H) => some (.val v H)
  | none => none

def capOp (C : Ctx) (t : TypeId) (x : AV) : Option AV :=
  match und C t, x with
  | some (.slice _), .nils => some (.int .i64 0)
  | some (.slice _), .slice _ _ _ (.lit c) => some (.int .i64 (Int.ofNat c))
  | _, _ => none
def clearOp (C : Ctx) (H : Heap) (t : TypeId) (x : AV) : Option Heap :=
  match und C t, x with
  | some (.slice _), .slice0 _ _ _ _ _ => some H
  | some (.slice _), .nils => some H
  | some (.slice e), .slice b off len _ => match ti C e with
    | some { zero := some z, size, .. } => bif Nat.beq z.cells.length size && Nat.ble len 4096 && notB (Nat.beq len 0) then storeL H b off (repeatL z.cells len) else none
    | _ => none
  | _, _ => none
def builtinOp (C : Ctx) (H : Heap) (b : Builtin) (argTypes : List TypeId) (args : List AV) : Option Out :=
  match b, argTypes, args with
  | .append, sT :: r, [s, x] => pairO (append C H sT r.head? s x)
  | .len, t :: _, [x] => (lenOp C H t x).map (.val · H)
  | .cap, t :: _, [x] => (capOp C t x).map (.val · H)
  | .clear, t :: _, [x] => (clearOp C H t x).map (.val (.tuple []))
  | .copy, t :: _, [d, s] => pairO (copyOp C H t d s)
  | .delete, t :: _, [m, k] => (mapDelete C H t m k).map (.val (.tuple []))
  | .min, _, x :: r => (foldO min2 x r).map (.val · H)
  | .max, _, x :: r => (foldO max2 x r).map (.val · H)
  | .unsafeString, [t, _], [p, n] => pairO (unsafeStr C H t p n)
  | .unsafeSliceData, _, [x] => (unsafeSliceData x).map (.val · H)
  | _, _, _ => none

def cntByte (c : Nat) : List UInt8 → Nat
  | [] => 0
  | b :: r => bif Nat.beq b.toNat c then Nat.succ (cntByte c r) else cntByte c r
def idxByte (c : Nat) : List UInt8 → Nat → Int
  | [], _ => Int.negSucc 0
  | b :: r, i => bif Nat.beq b.toNat c then Int.ofNat i else idxByte c r (i + 1)
def extOp (H : Heap) (e : Ext) (args : List AV) : Option Out :=
  match e, args with
  | .same, [x] => some (.val x H)
  | .mapsClone, [.iface t (.map b)] => match H.get b with
    | some (.map es clock) => some (.val (.iface t (.map H.next)) (H.new (.map es clock)))
    | _ => none
  | .makeNoZero e, [.int .i64 (.ofNat n)] => bif Nat.ble n 65536 then some (.val (.slice H.next 0 n (.var H.next 0)) (H.new (.cells .lf n e true 0 0 false))) else none
  | .count, [.str s, .int .u8 c] => some (.val (.int .i64 (Int.ofNat (cntByte (Nat.mod c.toNat 256) s))) H)
  | .indexByte, [.str s, .int .u8 c] => some (.val (.int .i64 (idxByte (Nat.mod c.toNat 256) s 0)) H)
  | .compare, [.str x, .str y] => some (.val (.int .i64 (bif ltL x y then Int.negSucc 0 else bif ltL y x then Int.ofNat 1 else Int.ofNat 0)) H)
  | _, _ => none


def callBody (f : FuncId) (args : List AV) (i : FI) : Option Out := match i.body with | none => none | some _ => some (.enter f args)
def callFn (C : Ctx) (H : Heap) (f : FuncId) (args : List AV) : Option Out :=
  match C.exts.get f with
  | some e => extOp H e args
  | none => match C.funcs.get f with
    | some i => callBody f args i
    | none => none
def callVal (C : Ctx) (H : Heap) (args : List AV) (v : AV) : Option Out :=
  match v with
  | .func g first captured => callFn C H g (first ++ args ++ captured)
  | .yield l => some (.round l args)
  | _ => none
def callO (C : Ctx) (H : Heap) (args : List AV) (o : Option AV) : Option Out := match o with | none => none | some v => callVal C H args v
def recvOf (C : Ctx) (H : Heap) (r : Recv) (v : AV) : Option AV :=
  match r with
  | .ptr => some v
  | .load e => match v with
    | .ptr b off => loadVar C H e b off
    | _ => none
def invokeFn (C : Ctx) (H : Heap) (args : List AV) (v : AV) (o : Option (String × Option (FuncId × Recv))) : Option Out :=
  match o with
  | some (_, some (f, r)) => match recvOf C H r v with
    | some x => callFn C H f (x :: args)
    | none => none
  | _ => none
def invokeOp (C : Ctx) (H : Heap) (name : String) (args : List AV) (o : Option AV) : Option Out :=
  match o with
  | some (.iface t v) => match C.meths.get t with
    | some l => invokeFn C H args v (l.find? fun m => m.1 == name)
    | none => none
  | _ => none
def callArgs (C : Ctx) (H : Heap) (tmps : Tr AV) (c : Call) (args : List AV) : Option Out :=
  match c.callee with
  | .builtin b => builtinOp C H b c.argTypes.toList args
  | .value f => callO C H args (ev tmps f)
  | .invoke r m => invokeOp C H m args (ev tmps r)
def callOp (C : Ctx) (H : Heap) (tmps : Tr AV) (c : Call) : Option Out :=
  match mapO (ev tmps) c.args.toList with
  | none => none
  | some args => callArgs C H tmps c args

/-! One operation -/
def valO (H : Heap) (o : Option AV) : Option Out := Option.casesOn o none (fun v => some (.val v H))
def skipO (o : Option Heap) : Option Out := Option.casesOn o none (fun H => some (.skip H))
def with1 (f : AV → Option Out) (o : Option AV) : Option Out := Option.casesOn o none f
def with2 (f : AV → AV → Option Out) (o p : Option AV) : Option Out := Option.casesOn o none (fun a => Option.casesOn p none (fun b => f a b))
def evO (tmps : Tr AV) : Option Operand → Option (Option AV)
  | none => some none
  | some x => match ev tmps x with
    | some v => some (some v)
    | none => none
def evParts (tmps : Tr AV) : List (Nat × Operand) → Option (List (Nat × AV))
  | [] => some []
  | (i, x) :: r => match ev tmps x with
    | none => none
    | some v => match evParts tmps r with
      | none => none
      | some l => some ((i, v) :: l)

def doPick (H : Heap) (tmps : Tr AV) (a b : Operand) (c : Option AV) : Option Out :=
  match c with
  | some (.bool true) => valO H (ev tmps a)
  | some (.bool false) => valO H (ev tmps b)
  | _ => none
def doAlloc (C : Ctx) (H : Heap) (t : TypeId) : Option Out :=
  match ti C t with
  | some i => match i.zero with
    | some z => some (.val (.ptr H.next 0) (newCells H t z.cells))
    | none => none
  | none => none
def doBox (H : Heap) (t : TypeId) (v : AV) : Option Out := match v with | .sym _ => none | _ => some (.val (.ptr H.next 0) (newCells H t v.cells))
def doBuild (C : Ctx) (H : Heap) (t : TypeId) (o : Option (List (Nat × AV))) : Option Out := match o with | none => none | some ps => valO H (buildOp C t ps)
def doBuildSlice (C : Ctx) (H : Heap) (t : TypeId) (len : Nat) (o : Option (List (Nat × AV))) : Option Out := match o with | none => none | some ps => pairO (buildSlice C H t len ps)
def doLoad (C : Ctx) (H : Heap) (t : TypeId) (a : AV) : Option Out := match a with | .ptr b off => valO H (loadVar C H t b off) | _ => none
def doStore (C : Ctx) (H : Heap) (t : TypeId) (a v : AV) : Option Out := match a with | .ptr b off => skipO (storeVar C H t b off v) | _ => none
def doNil (H : Heap) (a : AV) : Option Out :=
  match a with
  | .ptr _ _ => some (.val a H)
  | .func _ _ _ => some (.val a H)
  | .iface _ _ => some (.val a H)
  | _ => none
def isCmp (op : BinOp) : Bool := match op with | .eql | .neq | .lss | .leq | .gtr | .geq => true | _ => false
/-- of what kind is a whole number; is it from outside? -/
def numKind : AV → Option (IntKind × Bool)
  | .int k _ => some (k, false)
  | .symLen _ => some (.i64, true)
  | .symInt k _ => some (k, true)
  | _ => none
def txtKind : AV → Option Bool
  | .str _ => some false
  | .symStr _ => some true
  | _ => none
/-- a comparison that hangs on what is outside -/
def openCmp (op : BinOp) (a b : AV) : Bool :=
  isCmp op && (match numKind a, numKind b with
    | some (j, x), some (k, y) => (x || y) && j == k
    | _, _ => match txtKind a, txtKind b with
      | some x, some y => x || y
      | _, _ => false)
/-- == and != of rows and structs of plain data -/
def wideEq (C : Ctx) (t : TypeId) (a b : AV) : Option Bool :=
  match C.keys.get t with
  | some m => match und C t with
    | some u => bif isWide u then (match litsOf C m t a, litsOf C m t b with
      | some x, some y => triKLs C.facts x y
      | _, _ => none) else none
    | none => none
  | none => none
def binWide (C : Ctx) (op : BinOp) (t : TypeId) (a b : AV) : Option AV :=
  match op with
  | .eql => match wideEq C t a b with | some r => some (.bool r) | none => none
  | .neq => match wideEq C t a b with | some r => some (.bool (notB r)) | none => none
  | _ => none
def doBin (C : Ctx) (H : Heap) (op : BinOp) (t : TypeId) (a b : AV) : Option Out :=
  match binOp C op t a b with
  | some v => some (.val v H)
  | none => match binWide C op t a b with
    | some v => some (.val v H)
    | none => match factOf op a b C.facts with
      | some r => some (.val r H)
      | none => bif openCmp op a b then some (.ways [(.bool true, H), (.bool false, H)]) else none
def doUn (H : Heap) (op : UnOp) (a : AV) : Option Out := valO H (unOp op a)
def doConv (C : Ctx) (H : Heap) (s d : TypeId) (a : AV) : Option Out := pairO (convertOp C H s d a)
def doIface (C : Ctx) (H : Heap) (t : TypeId) (a : AV) : Option Out :=
  match und C t with
  | some (.interface _) => none
  | some _ => some (.val (.iface t a) H)
  | none => none
def doFunc (H : Heap) (tmps : Tr AV) (fn : Fn) (first captured : List Operand) : Option Out :=
  match fn with
  | .func f => match mapO (ev tmps) first with
    | none => none
    | some a => match mapO (ev tmps) captured with
      | none => none
      | some b => some (.val (.func f a b) H)
  | _ => none
def doMap (C : Ctx) (H : Heap) (tmps : Tr AV) (t : TypeId) (r : Option Operand) : Option Out :=
  match r with
  | none => some (.val (.map H.next) (H.new (.map [] 0)))
  | some r => match ev tmps r, und C t with
    | _, _ => none
def doMakeSlice (C : Ctx) (H : Heap) (t : TypeId) (a b : AV) : Option Out := pairO (makeSlice C H t a b)
def doSlice (C : Ctx) (H : Heap) (tmps : Tr AV) (t : TypeId) (lo hi mx : Option Operand) (a : AV) : Option Out :=
  match evO tmps lo with
  | none => none
  | some l => match evO tmps hi with
    | none => none
    | some h => match evO tmps mx with
      | none => none
      | some m => pairO (sliceOp C H t a l h m)
def doFieldAddr (C : Ctx) (H : Heap) (t : TypeId) (f : Nat) (a : AV) : Option Out := valO H (fieldAddr C t a f)
def doField (C : Ctx) (H : Heap) (t : TypeId) (f : Nat) (a : AV) : Option Out := valO H (fieldOp C t a f)
def doIndexAddr (C : Ctx) (H : Heap) (t : TypeId) (a b : AV) : Option Out := valO H (indexAddr C t a b)
def doIndex (C : Ctx) (H : Heap) (t : TypeId) (a b : AV) : Option Out := valO H (indexOp C t a b)
def doLookup (C : Ctx) (H : Heap) (t : TypeId) (ok : Bool) (a b : AV) : Option Out := valO H (mapLookup C H t a b ok)
def doUpdate (C : Ctx) (H : Heap) (tmps : Tr AV) (t : TypeId) (x : Operand) (a b : AV) : Option Out := match ev tmps x with | none => none | some c => skipO (mapUpdate C H t a b c)
def doEntryOf (C : Ctx) (H : Heap) (t : TypeId) (a b : AV) : Option Out := pairO (mapEntry C H t a b)
def doEntryStore (H : Heap) (tmps : Tr AV) (x : Operand) (a b : AV) : Option Out := match ev tmps x with | none => none | some c => skipO (entryStore H a b c)
def doRange (C : Ctx) (H : Heap) (t : TypeId) (a : AV) : Option Out := pairO (rangeOp C H t a)
def doNext (H : Heap) (s : Bool) (a : AV) : Option Out := match nextOp H a s with | none => none | some l => some (.ways l)
def doEntry (H : Heap) (a : AV) : Option Out := valO H (entryOp H a)
def doAssert (C : Ctx) (H : Heap) (t : TypeId) (ok : Bool) (a : AV) : Option Out := valO H (typeAssertOp C a t ok)
def doExtract (H : Heap) (i : Nat) (a : AV) : Option Out := match a with | .tuple vs => valO H vs[i]? | _ => none

def opStep0 (C : Ctx) (H : Heap) (tmps : Tr AV) (op : Op) : Option Out :=
  Op.casesOn (motive := fun _ => Option Out) op
    (fun x => valO H (ev tmps x)) -- move
    (fun x => valO H (ev tmps x)) -- assign
    (fun c a b => doPick H tmps a b (ev tmps c))
    (fun t => doAlloc C H t)
    (fun t x => with1 (doBox H t) (ev tmps x))
    (fun t ps => doBuild C H t (evParts tmps ps.toList))
    (fun t n ps => doBuildSlice C H t n (evParts tmps ps.toList))
    (fun t m k x => with2 (doUpdate C H tmps t x) (ev tmps m) (ev tmps k)) -- insert
    (fun t a => with1 (doLoad C H t) (ev tmps a))
    (fun t a x => with2 (doStore C H t) (ev tmps a) (ev tmps x))
    (fun _ => none) -- ready
    (fun _ => none) -- waits
    (fun x => with1 (doNil H) (ev tmps x))
    (fun op t x y _ => with2 (doBin C H op t) (ev tmps x) (ev tmps y))
    (fun op _ x => with1 (doUn H op) (ev tmps x))
    (fun s d x => with1 (doConv C H s d) (ev tmps x))
    (fun _ _ => none) -- sliceToArrayPointer
    (fun t x => with1 (doIface C H t) (ev tmps x))
    (fun fn a b => doFunc H tmps fn a.toList b.toList)
    (fun t r => doMap C H tmps t r)
    (fun _ _ => none) -- makeChan
    (fun t l c => with2 (doMakeSlice C H t) (ev tmps l) (ev tmps c))
    (fun t x lo hi mx => with1 (doSlice C H tmps t lo hi mx) (ev tmps x))
    (fun t x f => with1 (doFieldAddr C H t f) (ev tmps x))
    (fun t x f => with1 (doField C H t f) (ev tmps x))
    (fun t x i => with2 (doIndexAddr C H t) (ev tmps x) (ev tmps i))
    (fun t x i => with2 (doIndex C H t) (ev tmps x) (ev tmps i))
    (fun t x i ok => with2 (doLookup C H t ok) (ev tmps x) (ev tmps i))
    (fun t m k x => with2 (doUpdate C H tmps t x) (ev tmps m) (ev tmps k))
    (fun t m k => with2 (doEntryOf C H t) (ev tmps m) (ev tmps k)) -- mapEntry
    (fun _ m st x => with2 (doEntryStore H tmps x) (ev tmps m) (ev tmps st)) -- entryStore
    (fun t x => with1 (doRange C H t) (ev tmps x))
    (fun it s => with1 (doNext H s) (ev tmps it))
    (fun it => with1 (doEntry H) (ev tmps it))
    (fun x _ t ok => with1 (doAssert C H t ok) (ev tmps x))
    (fun x i => with1 (doExtract H i) (ev tmps x))
    (fun c => callOp C H tmps c)
    (fun _ => none) (fun _ => none) (fun _ => none) (fun _ _ => none) (fun _ _ _ => none) (fun _ _ => none)

/-! Operations on what is outside -/
def unNo (op : UnOp) : Nat := UnOp.casesOn op 0 1 2 3
def one01 {α : Type} (n : Nat) : Option α → Nat
  | none => 0
  | some _ => n
def okey (op : Op) : Option (Nat × Nat × Nat) :=
  match op with
  | .load t _ => some (1, t, 0)
  | .fieldAddr t _ f => some (2, t, f)
  | .field t _ f => some (3, t, f)
  | .indexAddr t _ _ => some (4, t, 0)
  | .index t _ _ => some (5, t, 0)
  | .slice t _ lo hi mx => some (6, t, one01 1 lo + one01 2 hi + one01 4 mx)
  | .convert a b _ => some (7, a, b)
  | .unOp op t _ => some (8, unNo op, t)
  | .binOp op t _ _ _ => some (9, binNo op, t)
  | .move _ => some (11, 0, 0)
  | .call c => match c.callee with
    | .builtin .min => some (12, 0, 0)
    | .builtin .max => some (12, 1, 0)
    | .builtin .len => some (12, 2, match c.argTypes.toList with | [t] => t | _ => 0)
    | _ => none
  | _ => none
def eqKey (a b : Nat × Nat × Nat) : Bool := Nat.beq a.1 b.1 && Nat.beq a.2.1 b.2.1 && Nat.beq a.2.2 b.2.2
def ofactOf (k : Nat × Nat × Nat) (xs : List AV) : List ((Nat × Nat × Nat) × List AV × AV) → Option AV
  | [] => none
  | (k', ys, r) :: l => bif eqKey k k' && eqAVs xs ys then some r else ofactOf k xs l
def opFact (C : Ctx) (tmps : Tr AV) (op : Op) : Option AV :=
  match okey op with
  | none => none
  | some k => match mapO (ev tmps) op.operands.toList with
    | none => none
    | some xs => ofactOf k xs C.ofacts
def orFact (C : Ctx) (H : Heap) (tmps : Tr AV) (op : Op) (o : Option Out) : Option Out :=
  match o with
  | some r => some r
  | none => match opFact C tmps op with
    | some v => some (.val v H)
    | none => none
def opStep (C : Ctx) (H : Heap) (tmps : Tr AV) (op : Op) : Option Out := orFact C H tmps op (opStep0 C H tmps op)

/-! Joining: what differs is forgotten -/
def joinTr {α : Type} (f : α → α → Option α) : Tr α → Tr α → Tr α
  | .nd l v r, .nd l' v' r' => .nd (joinTr f l l') (match v, v' with | some a, some b => f a b | _, _ => none) (joinTr f r r')
  | _, _ => .lf

def joinAV (a b : AV) : Option AV := bif eqAV a b then some a else none

def eqEs : List (AV × AV × Nat) → List (AV × AV × Nat) → Bool
  | [], [] => true
  | (a, b, c) :: x, (a', b', c') :: y => eqAV a a' && eqAV b b' && Nat.beq c c' && eqEs x y
  | _, _ => false
def eqNs : List Nat → List Nat → Bool
  | [], [] => true
  | a :: x, b :: y => Nat.beq a b && eqNs x y
  | _, _ => false

def joinObj : AObj → AObj → Option AObj
  | .cells t n e o lo hi mk, .cells t' n' e' o' lo' hi' mk' =>
    bif Nat.beq n n' && Nat.beq e e' && (o == o') && Nat.beq lo lo' && Nat.beq hi hi' && (mk == mk') then some (.cells (joinTr joinAV t t') n e o lo hi mk) else none
  | .map es c, .map es' c' => bif eqEs es es' && Nat.beq c c' then some (.map es c) else none
  | .mapIter m s l k, .mapIter m' s' l' k' => bif (m == m') && Nat.beq s s' && eqNs l l' && Nat.beq k k' then some (.mapIter m s l k) else none
  | .striter s p, .striter s' p' => bif beqL s s' && Nat.beq p p' then some (.striter s p) else none
  | .loop s p, .loop s' p' => bif (s == s') && (p == p') then some (.loop s p) else none
  | .deferred a, .deferred b => bif a == b then some (.deferred a) else none
  | _, _ => none

def joinHeap (a b : Heap) : Heap := { objs := joinTr joinObj a.objs b.objs, next := max a.next b.next }

def joinOuts : List (AV × Heap) → Option (AV × Heap)
  | [] => none
  | [x] => some x
  | (v, H) :: r => match joinOuts r with
    | some (v', H') => bif eqAV v v' then some (v, joinHeap H H') else none
    | none => none

/-! Control -/
abbrev Self := List LoopInfo → FInfo → List AItem → Tr AV → Heap → Option (List (AV × Heap))

def elemB (l : List Nat) (n : Nat) : Bool := l.any (Nat.beq n)

def exitTo (id : Nat) : List AItem → Option (List AItem)
  | .inBlock j :: k => bif Nat.beq j id then some k else exitTo id k
  | _ :: k => exitTo id k
  | [] => none
def gotoIn (l : Nat) : List AItem → Option (List AItem)
  | .inScope body :: k => match Go.findLabel body l with
    | some rest => some (.code rest :: .inScope body :: k)
    | none => gotoIn l k
  | _ :: k => gotoIn l k
  | [] => none

def setParams (n : Nat) (t : Tr AV) : List Tmp → List AV → Option (Tr AV)
  | [], [] => some t
  | p :: ps, v :: vs => bif Nat.blt p n then setParams n (t.set p v) ps vs else none
  | _, _ => none

def findLoop (l : Nat) : List LoopInfo → Option LoopInfo
  | [] => none
  | i :: r => bif Nat.beq i.id l then some i else findLoop l r

def Jump.code : Jump → Code
  | .ret => .ret
  | .exit id => .exit id
  | .goto l => .goto l

def bindL {α β : Type} (f : α → Option (List β)) : List α → Option (List β)
  | [] => some []
  | x :: xs => match f x with
    | none => none
    | some a => match bindL f xs with
      | none => none
      | some b => some (a ++ b)

def resultsOf (C : Ctx) (H : Heap) (tmps : Tr AV) : List ResultVar → Option (List AV)
  | [] => some []
  | .tmp t :: r => match tmps.get t with
    | none => none
    | some v => match resultsOf C H tmps r with
      | none => none
      | some l => some (v :: l)
  | .cell a t :: r => match tmps.get a with
    | some (.ptr b off) => match loadVar C H t b off with
      | none => none
      | some v => match resultsOf C H tmps r with
        | none => none
        | some l => some (v :: l)
    | _ => none

/-- a region's guard -/
def wantedG (ops : List Oper) (tmps : Tr AV) (o : Oper) : Option Bool :=
  match o.guard with
  | none => some true
  | some (j, want) => match ops[j]? with
    | some o' => match o'.dst with
      | some d => match tmps.get d with
        | some (.bool b) => some (b == want)
        | some (.tuple _) => some false
        | _ => none
      | none => none
    | none => none

def putO (n : Nat) (tmps : Tr AV) (d : Option Tmp) (v : AV) : Option (Tr AV) :=
  Option.casesOn d (some tmps) (fun t => Bool.casesOn (Nat.blt t n) none (some (tmps.set t v)))
def undefV : AV := .tuple []

/-! an operation to its end; K: what comes behind it -/
abbrev Knt (β : Type) := Tr AV → Heap → Option (List β)

def putK {β : Type} (n : Nat) (tmps : Tr AV) (d : Option Tmp) (K : Knt β) (v : AV) (H : Heap) : Option (List β) := Option.casesOn (putO n tmps d v) none (fun t => K t H)
def putP {β : Type} (n : Nat) (tmps : Tr AV) (d : Option Tmp) (K : Knt β) (p : AV × Heap) : Option (List β) := putK n tmps d K p.1 p.2
/-- behind a call: its ends are joined, but where they are to be kept apart -/
def afterCall {β : Type} (ap : Bool) (n : Nat) (tmps : Tr AV) (d : Option Tmp) (K : Knt β) (o : Option (List (AV × Heap))) : Option (List β) :=
  match o with
  | none => none
  | some [] => none
  | some [p] => putP n tmps d K p
  | some l => bif ap then bindL (putP n tmps d K) l else match joinOuts l with
    | some p => putP n tmps d K p
    | none => none
def frameOf (f : FuncId) (n : Nat) : FInfo := { fn := f, n := n, defers := [], round := none }
def enterK (self : Self) (E : List LoopInfo) (H : Heap) (f : FuncId) (args : List AV) (i : FI) : Option (List (AV × Heap)) :=
  match i.body with
  | none => none
  | some c => self E (frameOf f (max i.ntmps args.length)) [.code c] (Tr.ofL args) H
/-! what is taken by its contract -/
def strsOf : List AV → Option (List (List UInt8))
  | [] => some []
  | .str s :: r => match strsOf r with
    | none => none
    | some l => some (s :: l)
  | _ => none
def insertL (x : List UInt8) : List (List UInt8) → List (List UInt8)
  | [] => [x]
  | y :: r => bif ltL y x then y :: insertL x r else x :: y :: r
def sortL : List (List UInt8) → List (List UInt8)
  | [] => []
  | x :: r => insertL x (sortL r)
def crcBit (x : Nat) : Nat := Bool.casesOn (Nat.beq (Nat.mod x 2) 1) (Nat.div x 2) (Nat.xor (Nat.div x 2) 2197175160)
def crcByte (x b : Nat) : Nat := crcBit (crcBit (crcBit (crcBit (crcBit (crcBit (crcBit (crcBit (Nat.xor x b))))))))
def crcL : List UInt8 → Nat → Nat
  | [], x => x
  | b :: r, x => crcL r (crcByte x b.toNat)
def crcLL : List AV → Nat → Option Nat
  | [], x => some x
  | .str s :: r, x => crcLL r (crcL s x)
  | _, _ => none
def conSort (H : Heap) (b off len : Nat) : Option (AV × Heap) :=
  bif Nat.ble 1 len && Nat.ble len 4096 then match loadN H b off len with
    | none => none
    | some l => match strsOf l with
      | none => none
      | some ss => match storeL H b off ((sortL ss).map .str) with
        | none => none
        | some H' => some (.tuple [], H')
  else none
def isSym : AV → Bool
  | .sym _ => true
  | _ => false
def hasSym : AV → Bool
  | .sym _ => true
  | .agg cs => cs.any isSym
  | _ => false
def conOne (c : Con) (H : Heap) (args : List AV) : Option (AV × Heap) :=
  match c, args with
  | .sort, [.slice b off len _] => conSort H b off len
  | .crc, [.slice b off len _] => match loadN H b off len with
    | some l => match crcLL l 4294967295 with
      | some x => some (.int .u32 (Int.ofNat (Nat.xor x 4294967295)), H)
      | none => none
    | none => none
  | _, _ => none
def eqOp {α : Type} (f : α → α → Bool) : Option α → Option α → Bool
  | none, none => true
  | some a, some b => f a b
  | _, _ => false
def eqTr {α : Type} (f : α → α → Bool) : Tr α → Tr α → Bool
  | .lf, .lf => true
  | .nd l v r, .nd l' v' r' => eqOp f v v' && eqTr f l l' && eqTr f r r'
  | _, _ => false
def eqObj : AObj → AObj → Bool
  | .cells t n e o lo hi mk, .cells t' n' e' o' lo' hi' mk' => Nat.beq n n' && Nat.beq e e' && (o == o') && Nat.beq lo lo' && Nat.beq hi hi' && (mk == mk') && eqTr eqAV t t'
  | .map es c, .map es' c' => eqEs es es' && Nat.beq c c'
  | .mapIter m s l k, .mapIter m' s' l' k' => (m == m') && Nat.beq s s' && eqNs l l' && Nat.beq k k'
  | .striter s p, .striter s' p' => beqL s s' && Nat.beq p p'
  | .loop s p, .loop s' p' => (s == s') && (p == p')
  | .deferred a, .deferred b => a == b
  | _, _ => false
def eqHeap (H K : Heap) : Bool := Nat.beq H.next K.next && eqTr eqObj H.objs K.objs
def knownIn (H : Heap) (args : List AV) : List (List AV × Heap × List (AV × Heap)) → Option (List (AV × Heap))
  | [] => none
  | r :: rs => bif eqAVs args r.1 && eqHeap H r.2.1 then some r.2.2 else knownIn H args rs
def answerOf (args : List AV) : List (List AV × AV) → Option AV
  | [] => none
  | r :: l => bif eqAVs args r.1 then some r.2 else answerOf args l
def conRun (c : Con) (E : List LoopInfo) (H : Heap) (args : List AV) : Option (List (AV × Heap)) :=
  match c with
  | .known rs => match E with
    | [] => knownIn H args rs
    | _ => none
  | .flag es => bif eqAVs args es then some [(.bool true, H), (.bool false, H)] else none
  | .yes es => bif eqAVs args es then some [(.bool true, H)] else none
  | .fn g => g H args
  | .ans rs => match answerOf args rs with
    | some v => some [(v, H)]
    | none => none
  | c => match conOne c H args with
    | some p => some [p]
    | none => none
/-- answers this of a row that holds that -/
def rowFn (rs : List (List AV × AV)) (H : Heap) (args : List AV) : Option (List (AV × Heap)) :=
  match args with
  | [.slice b off len _] => match loadN H b off len with
    | some l => match answerOf l rs with
      | some v => some [(v, H)]
      | none => none
    | none => none
  | _ => none
def callFun (C : Ctx) (self : Self) (E : List LoopInfo) (H : Heap) (f : FuncId) (args : List AV) : Option (List (AV × Heap)) :=
  match C.funcs.get f with
  | none => none
  | some i => enterK self E H f args i
def callPlain (C : Ctx) (self : Self) (E : List LoopInfo) (H : Heap) (f : FuncId) (args : List AV) : Option (List (AV × Heap)) :=
  match C.cons.get f with
  | some c => match conRun c E H args with
    | none => callFun C self E H f args
    | some l => some l
  | none => callFun C self E H f args

/-! A call in a part of the memory -/
mutual
def idsAV : AV → List Nat → List Nat
  | .ptr b _, acc => b :: acc
  | .slice b _ _ _, acc => b :: acc
  | .map b, acc => b :: acc
  | .func _ a b, acc => idsAVs a (idsAVs b acc)
  | .iface _ v, acc => idsAV v acc
  | .agg l, acc => idsAVs l acc
  | .tuple l, acc => idsAVs l acc
  | _, acc => acc
def idsAVs : List AV → List Nat → List Nat
  | [], acc => acc
  | a :: r, acc => idsAV a (idsAVs r acc)
end
def idsTr : Tr AV → List Nat → List Nat
  | .lf, acc => acc
  | .nd l none r, acc => idsTr l (idsTr r acc)
  | .nd l (some v) r, acc => idsTr l (idsAV v (idsTr r acc))
def idsEs : List (AV × AV × Nat) → List Nat → List Nat
  | [], acc => acc
  | (k, v, _) :: r, acc => idsAV k (idsAV v (idsEs r acc))
def idsObj : AObj → List Nat → List Nat
  | .cells t _ _ _ _ _ _, acc => idsTr t acc
  | .map es _, acc => idsEs es acc
  | .mapIter (some m) _ _ _, acc => m :: acc
  | _, acc => acc
def levelUp (h : Tr AObj) : List Nat → Tr AObj → List Nat → Tr AObj × List Nat
  | [], acc, nx => (acc, nx)
  | i :: r, acc, nx => match acc.get i with
    | some _ => levelUp h r acc nx
    | none => match h.get i with
      | none => levelUp h r acc nx
      | some o => levelUp h r (acc.set i o) (idsObj o nx)
def reach (h : Tr AObj) : Nat → List Nat → Tr AObj → Tr AObj
  | 0, _, acc => acc
  | d + 1, ids, acc => match levelUp h ids acc [] with
    | (acc, []) => acc
    | (acc, nx) => reach h d nx acc
def lTr {α : Type} : Tr α → Tr α
  | .lf => .lf
  | .nd l _ _ => l
def rTr {α : Type} : Tr α → Tr α
  | .lf => .lf
  | .nd _ _ r => r
def vTr {α : Type} : Tr α → Option α
  | .lf => none
  | .nd _ v _ => v
/-- what stood in the part is what stands now in it; what is new is new; all else is as it was -/
def pickV {α : Type} (h s n : Option α) : Option α :=
  match s with
  | some _ => n
  | none => match n with
    | some v => some v
    | none => h
def isLf {α : Type} : Tr α → Bool
  | .lf => true
  | _ => false
def mergeTr {α : Type} : Tr α → Tr α → Tr α → Tr α
  | .lf, _, n => n
  | .nd l v r, s, n => bif isLf s && isLf n then .nd l v r else .nd (mergeTr l (lTr s) (lTr n)) (pickV v (vTr s) (vTr n)) (mergeTr r (rTr s) (rTr n))
def mergeH (H : Heap) (s : Tr AObj) (K : Heap) : Heap := { objs := mergeTr H.objs s K.objs, next := K.next }
/-- the numbers of a tree's places -/
def keysTr {α : Type} : Tr α → Nat → Nat → List Nat → List Nat
  | .lf, _, _, acc => acc
  | .nd l none r, a, b, acc => keysTr l (a + a) (a + b) (keysTr r (a + a) (a + a + b) acc)
  | .nd l (some _) r, a, b, acc => b :: keysTr l (a + a) (a + b) (keysTr r (a + a) (a + a + b) acc)
/-- what is reached from the answer and from what stood there is kept -/
def swept (s : Tr AObj) (p : AV × Heap) : AV × Heap := (p.1, { objs := reach p.2.objs 1000 (idsAV p.1 (keysTr s 1 0 [])) .lf, next := p.2.next })
def mergeP (H : Heap) (s : Tr AObj) (p : AV × Heap) : AV × Heap := (p.1, mergeH H s p.2)
def mergeAll (H : Heap) (s : Tr AObj) : List (AV × Heap) → List (AV × Heap)
  | [] => []
  | p :: r => mergeP H s (swept s p) :: mergeAll H s r
/-! What is new of an end is numbered as it is reached: so ends of several orders agree -/
def refsCap : Cap → List Nat → List Nat
  | .lit _, acc => acc
  | .var b _, acc => b :: acc
mutual
def refsAV : AV → List Nat → List Nat
  | .ptr b _, acc => b :: acc
  | .slice b _ _ c, acc => b :: refsCap c acc
  | .map b, acc => b :: acc
  | .func _ a b, acc => refsAVs a (refsAVs b acc)
  | .yield b, acc => b :: acc
  | .iface _ v, acc => refsAV v acc
  | .agg l, acc => refsAVs l acc
  | .tuple l, acc => refsAVs l acc
  | .sym i, acc => i :: acc
  | .slice0 b _ _ k _, acc => b :: k :: acc
  | .symStr i, acc => i :: acc
  | .symLen i, acc => i :: acc
  | .symInt _ i, acc => i :: acc
  | .symC i, acc => i :: acc
  | _, acc => acc
def refsAVs : List AV → List Nat → List Nat
  | [], acc => acc
  | a :: r, acc => refsAV a (refsAVs r acc)
end
def refsTr : Tr AV → List Nat → List Nat
  | .lf, acc => acc
  | .nd l none r, acc => refsTr l (refsTr r acc)
  | .nd l (some v) r, acc => refsTr l (refsAV v (refsTr r acc))
def refsEs : List (AV × AV × Nat) → List Nat → List Nat
  | [], acc => acc
  | (k, v, _) :: r, acc => refsAV k (refsAV v (refsEs r acc))
def refsObj : AObj → List Nat → List Nat
  | .cells t _ _ _ _ _ _, acc => refsTr t acc
  | .map es _, acc => refsEs es acc
  | .mapIter (some m) _ _ _, acc => m :: acc
  | _, acc => acc
/-- one level: what is seen, what is new and seen (the last first), what is next -/
def ordUp (b : Nat) (h : Tr AObj) : List Nat → Tr Bool → List Nat → List Nat → Tr Bool × List Nat × List Nat
  | [], seen, acc, nx => (seen, acc, nx)
  | i :: r, seen, acc, nx => match seen.get i with
    | some _ => ordUp b h r seen acc nx
    | none => ordUp b h r (seen.set i true) (bif Nat.ble b i then i :: acc else acc) (match h.get i with | none => nx | some o => refsObj o nx)
def order (b : Nat) (h : Tr AObj) : Nat → List Nat → Tr Bool → List Nat → List Nat
  | 0, _, _, acc => acc
  | d + 1, ids, seen, acc => match ordUp b h ids seen acc [] with
    | (_, acc, []) => acc
    | (seen, acc, nx) => order b h d nx seen acc
def posN : List Nat → Nat → Nat → Option Nat
  | [], _, _ => none
  | x :: r, j, k => bif Nat.beq x j then some k else posN r j (k + 1)
/-- l: the new ones; the number of what bore the number j -/
def renI (b : Nat) (l : List Nat) (j : Nat) : Option Nat := bif Nat.blt j b then some j else posN l j b
def renCap (b : Nat) (l : List Nat) : Cap → Option Cap
  | .lit n => some (.lit n)
  | .var i k => match renI b l i with | none => none | some i' => some (.var i' k)
mutual
def renAV (b : Nat) (l : List Nat) : AV → Option AV
  | .ptr i off => match renI b l i with | none => none | some i' => some (.ptr i' off)
  | .slice i off n c => match renI b l i, renCap b l c with | some i', some c' => some (.slice i' off n c') | _, _ => none
  | .map i => match renI b l i with | none => none | some i' => some (.map i')
  | .func f x y => match renAVs b l x, renAVs b l y with | some x', some y' => some (.func f x' y') | _, _ => none
  | .yield i => match renI b l i with | none => none | some i' => some (.yield i')
  | .iface t v => match renAV b l v with | none => none | some v' => some (.iface t v')
  | .agg x => match renAVs b l x with | none => none | some x' => some (.agg x')
  | .tuple x => match renAVs b l x with | none => none | some x' => some (.tuple x')
  | .sym i => match renI b l i with | none => none | some i' => some (.sym i')
  | .slice0 i off off' k less => match renI b l i, renI b l k with | some i', some k' => some (.slice0 i' off off' k' less) | _, _ => none
  | .symStr i => match renI b l i with | none => none | some i' => some (.symStr i')
  | .symLen i => match renI b l i with | none => none | some i' => some (.symLen i')
  | .symInt k i => match renI b l i with | none => none | some i' => some (.symInt k i')
  | .symC i => match renI b l i with | none => none | some i' => some (.symC i')
  | v => some v
def renAVs (b : Nat) (l : List Nat) : List AV → Option (List AV)
  | [] => some []
  | a :: r => match renAV b l a, renAVs b l r with | some a', some r' => some (a' :: r') | _, _ => none
end
def renTr (b : Nat) (l : List Nat) : Tr AV → Option (Tr AV)
  | .lf => some .lf
  | .nd x v y => match renTr b l x, renTr b l y with
    | some x', some y' => match v with
      | none => some (.nd x' none y')
      | some u => match renAV b l u with | none => none | some u' => some (.nd x' (some u') y')
    | _, _ => none
def renEs (b : Nat) (l : List Nat) : List (AV × AV × Nat) → Option (List (AV × AV × Nat))
  | [] => some []
  | (k, v, n) :: r => match renAV b l k, renAV b l v, renEs b l r with | some k', some v', some r' => some ((k', v', n) :: r') | _, _, _ => none
def renObj (b : Nat) (l : List Nat) : AObj → Option AObj
  | .cells t n e o lo hi mk => match renTr b l t with | none => none | some t' => some (.cells t' n e o lo hi mk)
  | .map es c => match renEs b l es with | none => none | some es' => some (.map es' c)
  | .mapIter none s x st => some (.mapIter none s x st)
  | .mapIter (some m) s x st => match renI b l m with | none => none | some m' => some (.mapIter (some m') s x st)
  | o => some o
/-- the objects of some numbers, under their new numbers; what has none is left out -/
def renObjs (b : Nat) (l : List Nat) (h : Tr AObj) : List Nat → Tr AObj → Option (Tr AObj)
  | [], acc => some acc
  | i :: r, acc => match h.get i with
    | none => renObjs b l h r acc
    | some o => match renI b l i with
      | none => renObjs b l h r acc
      | some i' => match renObj b l o with
        | none => none
        | some o' => renObjs b l h r (acc.set i' o')
def renEnd (b : Nat) (l : List Nat) (p : AV × Heap) : Option (AV × Heap) :=
  match renAV b l p.1 with
  | none => none
  | some v => match renObjs b l p.2.objs (keysTr p.2.objs 1 0 []) .lf with
    | none => none
    | some t => some (v, { objs := t, next := b + l.length })
/-- s: what stood there; its next number -/
def tidy (s : Heap) (p : AV × Heap) : AV × Heap :=
  match renEnd s.next (order s.next p.2.objs 1000 (refsAV p.1 (keysTr s.objs 1 0 [])) .lf []).reverse p with
  | some q => q
  | none => p
def tidyAll (s : Heap) : List (AV × Heap) → List (AV × Heap)
  | [] => []
  | p :: r => tidy s p :: tidyAll s r
def tidyMany (s : Heap) (l : List (AV × Heap)) : List (AV × Heap) :=
  match l with
  | [] => []
  | [p] => [p]
  | _ => tidyAll s l
def framed (H : Heap) (s : Tr AObj) (o : Option (List (AV × Heap))) : Option (List (AV × Heap)) :=
  match o with
  | none => none
  | some l => match joinOuts (tidyMany { objs := s, next := H.next } l) with
    | some p => some [mergeP H s (swept s p)]
    | none => some (mergeAll H s l)
def frameRun (C : Ctx) (self : Self) (H : Heap) (f : FuncId) (args : List AV) (s : Tr AObj) : Option (List (AV × Heap)) :=
  framed H s (callPlain C self [] { objs := s, next := H.next } f args)
def callIn (C : Ctx) (self : Self) (E : List LoopInfo) (H : Heap) (f : FuncId) (args : List AV) : Option (List (AV × Heap)) :=
  match C.frames.get f with
  | none => callPlain C self E H f args
  | some d => match E with
    | [] => frameRun C self H f args (reach H.objs d (idsAVs args []) .lf)
    | _ :: _ => callPlain C self E H f args
def roundOf (i : LoopInfo) : FInfo := { fn := i.fn, n := i.n, defers := [], round := some i.id }
def roundIn (self : Self) (E : List LoopInfo) (H : Heap) (l : Nat) (args : List AV) : Option (List (AV × Heap)) :=
  match findLoop l E with
  | none => none
  | some i => match H.get l with
    | some (.loop _ _) => match setParams i.n i.tmps i.params args with
      | none => none
      | some t => self E (roundOf i) [.code i.assign, .beginRound, .code i.body] t H
    | _ => none

def outK {β : Type} (C : Ctx) (self : Self) (E : List LoopInfo) (n : Nat) (H : Heap) (tmps : Tr AV) (d : Option Tmp) (K : Knt β) (o : Out) : Option (List β) :=
  Out.casesOn (motive := fun _ => Option (List β)) o
    (fun v H' => putK n tmps d K v H')
    (fun H' => putK n tmps d K undefV H')
    (fun f args => afterCall (elemB C.apart f) n tmps d K (callIn C self E H f args))
    (fun l args => afterCall true n tmps d K (roundIn self E H l args))
    (fun l => bindL (putP n tmps d K) l)
def operK {β : Type} (C : Ctx) (self : Self) (E : List LoopInfo) (n : Nat) (H : Heap) (tmps : Tr AV) (o : Oper) (K : Knt β) : Option (List β) :=
  Option.casesOn (opStep C H tmps o.op) none (fun out => outK C self E n H tmps o.dst K out)
def guardK {β : Type} (C : Ctx) (self : Self) (E : List LoopInfo) (n : Nat) (ops : List Oper) (H : Heap) (tmps : Tr AV) (o : Oper) (K : Knt β) (g : Option (Nat × Bool)) : Option (List β) :=
  Option.casesOn g (operK C self E n H tmps o K) (fun _ => match wantedG ops tmps o with
    | none => none
    | some true => operK C self E n H tmps o K
    | some false => putK n tmps o.dst K undefV H)
/-- a region in the text's order -/
def regGo {β : Type} (C : Ctx) (self : Self) (E : List LoopInfo) (n : Nat) (ops : List Oper) (K : Knt β) : List Oper → Knt β
  | [], tmps, H => K tmps H
  | o :: r, tmps, H => guardK C self E n ops H tmps o (regGo C self E n ops K r) o.guard

/-! Regions that draw their order -/
def bindsAny (e : Edge) : Bool := match e.ground with | .textOnly _ | .gcOnly _ => false | _ => true
/-- the masks of what stands surely ahead -/
def masks : List Oper → List Nat → List Nat
  | [], acc => acc
  | o :: r, acc => masks r (acc ++ [o.after.toList.foldl (fun s e => bif bindsAny e then s ||| 2 ^ e.on ||| acc.getD e.on 0 else s) 0])
def opTmps (o : Oper) : List Nat :=
  o.op.operands.toList.filterMap fun | .tmp t => some t | _ => none
/-- what an operation reads: its operands and its guard -/
def useTmps (ops : List Oper) (o : Oper) : List Nat :=
  match o.guard with
  | none => opTmps o
  | some (j, _) => match ops[j]? with
    | none => opTmps o
    | some o' => match o'.dst with
      | none => opTmps o
      | some d => d :: opTmps o

inductive Kin where
  | pure | read | alloc | cut | loud
  deriving DecidableEq
/-- what an operation is to its neighbours -/
def kinConv : Option TypeDesc → Option TypeDesc → Kin
  | some (.int _), some (.int _) => .pure
  | some .string, some .string => .pure
  | some .string, some (.slice _) => .alloc
  | some (.slice _), some .string => .read
  | _, _ => .loud
def kin (C : Ctx) (op : Op) : Kin :=
  match op with
  | .move _ | .assign _ | .pick .. | .nilCheck _ | .unOp .. | .makeFunc .. | .makeInterface .. | .fieldAddr .. | .field .. | .indexAddr .. | .index .. | .extract .. | .build .. => .pure
  | .binOp .. => .pure
  | .slice .. => .cut
  | .convert src dst _ => kinConv (und C src) (und C dst)
  | .load .. | .lookup .. => .read
  | .alloc _ | .box .. | .buildSlice .. | .makeMap _ none => .alloc
  | .call c => match c.callee with
    | .builtin .len | .builtin .cap | .builtin .min | .builtin .max | .builtin .unsafeSliceData => .read
    | _ => .loud
  | _ => .loud
/-- what was made, but does not yet stand in memory: the operation's number, the block's, the block -/
abbrev Made := List (Nat × Nat × AObj)
def madeIn (m : Nat) (D : Made) : Bool := D.any fun d => Nat.testBit m d.1
def outStays (H : Heap) (o : Option Out) : Bool := match o with | some (.val _ H') => Nat.beq H'.next H.next | _ => false
def kinOk (C : Ctx) (H : Heap) (tmps : Tr AV) (m : Nat) (D : Made) (o : Oper) : Bool :=
  match kin C o.op with
  | .pure | .alloc => true
  | .cut => outStays H (opStep C H tmps o.op)
  | .read => notB (madeIn m D)
  | .loud => false
/-- may this operation, of a region whose order is open, be taken at once? (pend: what is not yet done) -/
def apart1 (ops : List Oper) (ms : List Nat) (i d : Nat) (p : Oper × Nat) : Bool :=
  match p.1.dst with
  | none => notB (elemB (useTmps ops p.1) d) || Nat.testBit (ms.getD p.2 0) i
  | some d' => notB (Nat.beq d' d) && (notB (elemB (useTmps ops p.1) d) || Nat.testBit (ms.getD p.2 0) i)
def apart2 (ts : List Nat) (p : Oper × Nat) : Bool := match p.1.dst with | none => true | some d => notB (elemB ts d)
def silent (ops : List Oper) (ms : List Nat) (pend : List (Oper × Nat)) (o : Oper) (i : Nat) : Bool :=
  (match o.dst with
    | none => true
    | some d => notB (elemB (useTmps ops o) d) && pend.all fun (p : Oper × Nat) => Nat.beq p.2 i || apart1 ops ms i d p) &&
  (pend.all fun (p : Oper × Nat) => Nat.beq p.2 i || apart2 (useTmps ops o) p)

def readyIn (A : Nat) (o : Oper) : Bool := o.after.toList.all fun e => !bindsAny e || Nat.testBit A e.on

def findSilent (C : Ctx) (ops : List Oper) (ms : List Nat) (A : Nat) (pend : List (Oper × Nat)) (D : Made) (tmps : Tr AV) (H : Heap) : List (Oper × Nat) → Option (Oper × Nat)
  | [] => none
  | (o, i) :: r => bif readyIn A o && kinOk C H tmps (ms.getD i 0) D o && silent ops ms pend o i then some (o, i) else findSilent C ops ms A pend D tmps H r

def dropI (i : Nat) (l : List (Oper × Nat)) : List (Oper × Nat) := l.filter fun p => !Nat.beq p.2 i

def isCall : Op → Bool
  | .call { callee := .value _, .. } => true
  | .call { callee := .invoke _ _, .. } => true
  | _ => false
def nextTo (H : Heap) (n : Nat) : Heap := { H with next := n }
def outV {β : Type} (n : Nat) (tmps : Tr AV) (d : Option Tmp) (K : Knt β) (o : Out) : Option (List β) :=
  match o with
  | .val v H' => putK n tmps d K v H'
  | .skip H' => putK n tmps d K undefV H'
  | .ways l => bindL (putP n tmps d K) l
  | _ => none
def operV {β : Type} (C : Ctx) (n : Nat) (H : Heap) (tmps : Tr AV) (o : Oper) (K : Knt β) : Option (List β) :=
  match opStep C H tmps o.op with
  | none => none
  | some out => outV n tmps o.dst K out
def guardV {β : Type} (C : Ctx) (n : Nat) (ops : List Oper) (H : Heap) (tmps : Tr AV) (o : Oper) (K : Knt β) : Option (List β) :=
  match wantedG ops tmps o with
  | none => none
  | some true => operV C n H tmps o K
  | some false => putK n tmps o.dst K undefV H
/-- an operation of a region whose order is open: what it makes bears the operation's own number, in whichever order -/
def drawOp {β : Type} (C : Ctx) (self : Self) (E : List LoopInfo) (n : Nat) (ops : List Oper) (H : Heap) (tmps : Tr AV) (id : Nat) (o : Oper) (K : Knt β) : Option (List β) :=
  bif isCall o.op then guardK C self E n ops H tmps o K o.guard
  else guardV C n ops (nextTo H id) tmps o (fun t H' => K t (nextTo H' H.next))

/-- what was read ahead of its time -/
abbrev Reads := List (Oper × Nat)
/-- an operation that is taken at once: it changes nothing; K takes what it makes beside it, and what it has read -/
def silentOp {β : Type} (C : Ctx) (n : Nat) (ops : List Oper) (H : Heap) (tmps : Tr AV) (id i : Nat) (o : Oper) (K : Made → Reads → Knt β) (D : Made) (L : Reads) : Option (List β) :=
  match wantedG ops tmps o with
  | none => none
  | some false => putK n tmps o.dst (K D L) undefV H
  | some true =>
    match kin C o.op with
    | .read => match opStep C H tmps o.op with
      | some (.val v _) => putK n tmps o.dst (K D ((o, i) :: L)) v H
      | _ => none
    | _ => match opStep C { objs := .lf, next := id } tmps o.op with
      | some (.val v H') => match H'.get id with
        | some ob => putK n tmps o.dst (K ((i, id, ob) :: D) L) v H
        | none => putK n tmps o.dst (K D L) v H
      | _ => none

def commit (m : Nat) (H : Heap) : Made → Heap
  | [] => H
  | (i, id, ob) :: r => bif Nat.testBit m i then (commit m H r).put id ob else commit m H r
def still (m : Nat) (D : Made) : Made := D.filter fun d => notB (Nat.testBit m d.1)

/-- what was read would be read still -/
def reread (C : Ctx) (tmps : Tr AV) (H : Heap) (p : Oper × Nat) : Bool :=
  match opStep C H tmps p.1.op with
  | some (.val v _) => match p.1.dst with
    | none => true
    | some d => match tmps.get d with
      | some v' => eqAV v v'
      | none => false
  | _ => false
def later (m : Nat) (L : Reads) : Reads := L.filter fun p => notB (Nat.testBit m p.2)
def rereadK {β : Type} (C : Ctx) (L : Reads) (K : Knt β) (tmps : Tr AV) (H : Heap) : Option (List β) := bif L.all (reread C tmps H) then K tmps H else none

/-- a region whose order is open: every order -/
def drawGo (C : Ctx) (self : Self) (E : List LoopInfo) (n base : Nat) (ops : List Oper) (ms : List Nat) : Nat → Nat → List (Oper × Nat) → Made → Reads → Tr AV → Heap → Option (List (Tr AV × Heap))
  | 0, _, _, _, _, _, _ => none
  | k + 1, A, pend, D, L, tmps, H =>
    match pend with
    | [] => some [(tmps, commit A H D)]
    | _ =>
      match findSilent C ops ms A pend D tmps H pend with
      | some (o, i) => silentOp C n ops H tmps (base + i) i o (drawGo C self E n base ops ms k (A ||| 2 ^ i) (dropI i pend)) D L
      | none => match (pend.filter fun p => readyIn A p.1) with
        | [] => none
        | cands => bindL (fun (p : Oper × Nat) =>
          let m := ms.getD p.2 0
          drawOp C self E n ops (commit m H D) tmps (base + p.2) p.1 (rereadK C (later m L) (drawGo C self E n base ops ms k (A ||| 2 ^ p.2) (dropI p.2 pend) (still m D) (later m L)))) cands

def numb : List Oper → Nat → List (Oper × Nat)
  | [], _ => []
  | o :: r, i => (o, i) :: numb r (i + 1)

def takeDefers (H : Heap) : List Nat → Option Heap
  | [] => some H
  | d :: r => match H.get d with
    | some (.deferred true) => takeDefers (H.put d (.deferred false)) r
    | _ => none

def one (v : AV) (H : Heap) : Option (List (AV × Heap)) := some [(v, H)]
def retVals (H : Heap) : Option (List AV) → Option (List (AV × Heap))
  | none => none
  | some [v] => one v H
  | some vs => one (.tuple vs) H
def leaveFn (C : Ctx) (fn : FuncId) (tmps : Tr AV) (H : Heap) : Option (List (AV × Heap)) :=
  match C.funcs.get fn with
  | none => none
  | some fi => retVals H (resultsOf C H tmps fi.results)
def leaveRound (H : Heap) (l : Nat) (j : Option Jump) : Option (List (AV × Heap)) :=
  match H.get l with
  | some (.loop _ _) => one (.bool j.isNone) (H.put l (.loop (if j.isNone then .ready else .done) j))
  | _ => none
/-- the deferred calls, one by one -/
def runLater (C : Ctx) (self : Self) (E : List LoopInfo) : List (FuncId × List AV) → Heap → Option (List Heap)
  | [], H => some [H]
  | (f, a) :: r, H => match callFun C self E H f a with
    | none => none
    | some l => bindL (fun p => runLater C self E r p.2) l
def leaveAll (C : Ctx) (fn : FuncId) (tmps : Tr AV) (o : Option (List Heap)) : Option (List (AV × Heap)) :=
  match o with
  | none => none
  | some hs => bindL (leaveFn C fn tmps) hs
def leave (C : Ctx) (self : Self) (E : List LoopInfo) (I : FInfo) (tmps : Tr AV) (H : Heap) (j : Option Jump) : Option (List (AV × Heap)) :=
  match I.round with
  | none => match j with
    | none | some .ret => match takeDefers H I.defers with
      | none => none
      | some H' => match I.later with
        | [] => leaveFn C I.fn tmps H'
        | later => leaveAll C I.fn tmps (runLater C self E later H')
    | _ => none
  | some l => match I.defers, I.later with
    | [], [] => leaveRound H l j
    | _, _ => none

def doCond (self : Self) (E : List LoopInfo) (I : FInfo) (k : List AItem) (tmps : Tr AV) (H : Heap) (thn els : Code) (v : Option AV) : Option (List (AV × Heap)) :=
  match v with
  | some (.bool b) => self E I (.code (Bool.casesOn b els thn) :: k) tmps H
  | _ => none
def doExit (C : Ctx) (self : Self) (E : List LoopInfo) (I : FInfo) (tmps : Tr AV) (H : Heap) (j : Jump) (o : Option (List AItem)) : Option (List (AV × Heap)) :=
  match o with
  | some k' => self E I k' tmps H
  | none => leave C self E I tmps H (some j)
def joinRegs : List (Tr AV × Heap) → Option (Tr AV × Heap)
  | [] => none
  | [x] => some x
  | (v, H) :: r => match joinRegs r with
    | some (v', H') => some (joinTr joinAV v v', joinHeap H H')
    | none => none
def behindDraw (self : Self) (E : List LoopInfo) (I : FInfo) (k : List AItem) (o : Option (List (Tr AV × Heap))) : Option (List (AV × Heap)) :=
  match o with
  | none => none
  | some l => match joinRegs l with
    | some (t, H') => self E I k t H'
    | none => none
def opDefer (o : Op) : Bool := match o with | .defer _ => true | _ => false
/-- does a region's last operation defer a call? -/
def endsDefer : List Oper → Bool
  | [] => false
  | [o] => opDefer o.op
  | _ :: o' :: r => endsDefer (o' :: r)
/-- a region whose last operation defers a call: the others, and that call -/
def lastDefer : List Oper → Option (List Oper × Call)
  | [] => none
  | [o] => match o.op, o.guard, o.dst with
    | .defer c, none, none => some ([], c)
    | _, _, _ => none
  | o :: o' :: r => match lastDefer (o' :: r) with
    | some (l, c) => some (o :: l, c)
    | none => none
def deferOf (tmps : Tr AV) (c : Call) : Option (FuncId × List AV) :=
  match c.callee with
  | .value f => match ev tmps f, mapO (ev tmps) c.args.toList with
    | some (.func g first captured), some args => some (g, first ++ args ++ captured)
    | _, _ => none
  | _ => none
def pushLater (self : Self) (E : List LoopInfo) (I : FInfo) (k : List AItem) (c : Call) (tmps : Tr AV) (H : Heap) : Option (List (AV × Heap)) :=
  match deferOf tmps c with
  | none => none
  | some d => self E { I with later := d :: I.later } k tmps H
def deferRegion (C : Ctx) (self : Self) (E : List LoopInfo) (I : FInfo) (k : List AItem) (tmps : Tr AV) (H : Heap) (ops : List Oper) : Option (List (AV × Heap)) :=
  match lastDefer ops with
  | none => none
  | some (pre, c) => match I.round, I.defers with
    | none, [] => regGo C self E I.n ops (pushLater self E I k c) pre tmps H
    | _, _ => none
def plainRegion (C : Ctx) (self : Self) (E : List LoopInfo) (I : FInfo) (k : List AItem) (tmps : Tr AV) (H : Heap) (ops : List Oper) : Option (List (AV × Heap)) :=
  Bool.casesOn (endsDefer ops) (regGo C self E I.n ops (self E I k) ops tmps H) (deferRegion C self E I k tmps H ops)
def doRegion (C : Ctx) (self : Self) (E : List LoopInfo) (I : FInfo) (k : List AItem) (tmps : Tr AV) (H : Heap) (ops : List Oper) (draw : Bool) : Option (List (AV × Heap)) :=
  Bool.casesOn draw (plainRegion C self E I k tmps H ops)
    (behindDraw self E I k (drawGo C self E I.n H.next ops (masks ops []) (ops.length + 1) 0 (numb ops 0) [] [] tmps (nextTo H (H.next + ops.length))))
def rangeIn (C : Ctx) (self : Self) (E : List LoopInfo) (I : FInfo) (k : List AItem) (tmps : Tr AV) (f : Operand) (params : List Tmp) (assign body : Code) (d : Nat) (defers : List Nat) (H : Heap) : Option (List (AV × Heap)) :=
  let l := H.next
  let E' := { id := l, fn := I.fn, n := I.n, tmps := tmps, params := params, assign := assign, body := body, defers := d : LoopInfo } :: E
  match ev tmps f with
  | some (.func g first captured) => match callFun C self E' (H.new (.loop .ready none)) g (first ++ [.yield l] ++ captured) with
    | none => none
    | some outs => bindL (fun p => self E' { I with defers := defers } (.endRangeFunc l :: k) tmps p.2) outs
  | _ => none
def doRangeFunc (C : Ctx) (self : Self) (E : List LoopInfo) (I : FInfo) (k : List AItem) (tmps : Tr AV) (H : Heap) (f : Operand) (params : List Tmp) (assign body : Code) : Option (List (AV × Heap)) :=
  match I.round with
  | none => rangeIn C self E I k tmps f params assign body H.next (H.next :: I.defers) (H.new (.deferred true))
  | some l => match findLoop l E with
    | some i => match H.get l with
      | some (.loop _ _) => rangeIn C self E I k tmps f params assign body i.defers I.defers H
      | _ => none
    | none => none
def stepC (C : Ctx) (self : Self) (E : List LoopInfo) (I : FInfo) (k : List AItem) (tmps : Tr AV) (H : Heap) (c : Code) : Option (List (AV × Heap)) :=
  Code.casesOn (motive := fun _ => Option (List (AV × Heap))) c
    (self E I k tmps H)
    (fun _ ops draw => doRegion C self E I k tmps H ops.toList draw)
    (fun a b => self E I (.code a :: .code b :: k) tmps H)
    (fun x thn els => doCond self E I k tmps H thn els (ev tmps x))
    (fun id body => self E I (.code body :: .inBlock id :: k) tmps H)
    (fun body => self E I (.code body :: .inLoop body :: k) tmps H)
    (fun f params assign body => doRangeFunc C self E I k tmps H f params.toList assign body)
    (fun id => doExit C self E I tmps H (.exit id) (exitTo id k))
    (fun body => self E I (.code body :: .inScope body :: k) tmps H)
    (fun _ => self E I k tmps H)
    (fun l => doExit C self E I tmps H (.goto l) (gotoIn l k))
    (leave C self E I tmps H (some .ret))
    (fun _ => none)
def doBegin (self : Self) (E : List LoopInfo) (I : FInfo) (k : List AItem) (tmps : Tr AV) (H : Heap) : Option (List (AV × Heap)) :=
  match I.round with
  | none => none
  | some l => match H.get l with
    | some (.loop .ready p) => self E I k tmps (H.put l (.loop .busy p))
    | _ => none
def behindLoop (k : List AItem) (p : Option Jump) : List AItem := match p with | none => k | some j => .code j.code :: k
def doEnd (self : Self) (E : List LoopInfo) (I : FInfo) (k : List AItem) (tmps : Tr AV) (H : Heap) (l : Nat) : Option (List (AV × Heap)) :=
  match H.get l with
  | some (.loop s p) => match s with
    | .busy => none
    | _ => self E I (behindLoop k p) tmps (H.put l (.loop .exhausted p))
  | _ => none
def stepI (C : Ctx) (self : Self) (E : List LoopInfo) (I : FInfo) (k : List AItem) (tmps : Tr AV) (H : Heap) (it : AItem) : Option (List (AV × Heap)) :=
  AItem.casesOn (motive := fun _ => Option (List (AV × Heap))) it
    (fun c => stepC C self E I k tmps H c)
    (fun _ => self E I k tmps H)
    (fun body => self E I (.code body :: .inLoop body :: k) tmps H)
    (fun _ => self E I k tmps H)
    (fun l => doEnd self E I k tmps H l)
    (doBegin self E I k tmps H)
def step (C : Ctx) (self : Self) : Self := fun E I todo tmps H =>
  List.casesOn (motive := fun _ => Option (List (AV × Heap))) todo (leave C self E I tmps H none) (fun it k => stepI C self E I k tmps H it)
def exec (C : Ctx) : Nat → Self
  | 0, _, _, _, _, _ => none
  | k + 1, E, I, todo, tmps, H => step C (exec C k) E I todo tmps H

/-! Memory out of numbers: what a run begins with, or ends in, written short -/
def digs : Nat → Nat → List Nat → List Nat
  | 0, _, r => r
  | k + 1, n, r => Nat.mod n 65536 :: digs k (Nat.div n 65536) r
def stream : List Nat → List Nat
  | [] => []
  | c :: cs => digs 256 c (stream cs)
def hd : List Nat → Nat
  | [] => 0
  | a :: _ => a
def tl : List Nat → List Nat
  | [] => []
  | _ :: r => r
def pBig (r : List Nat) : Nat × List Nat :=
  (hd r + 65536 * (hd (tl r) + 65536 * (hd (tl (tl r)) + 65536 * (hd (tl (tl (tl r))) + 65536 * hd (tl (tl (tl (tl r))))))), tl (tl (tl (tl (tl r)))))
def pNat (r : List Nat) : Nat × List Nat := bif Nat.beq (hd r) 65535 then pBig (tl r) else (hd r, tl r)
def pMany {α : Type} (p : List Nat → α × List Nat) : Nat → List Nat → List α × List Nat
  | 0, r => ([], r)
  | n + 1, r => match p r with
    | (a, r) => match pMany p n r with
      | (l, r) => (a :: l, r)
def pKind (n : Nat) : IntKind :=
  bif Nat.beq n 0 then .i8 else bif Nat.beq n 1 then .i16 else bif Nat.beq n 2 then .i32 else bif Nat.beq n 3 then .i64 else bif Nat.beq n 4 then .u8 else bif Nat.beq n 5 then .u16 else bif Nat.beq n 6 then .u32 else .u64
def pInt (r : List Nat) : Int × List Nat :=
  match pNat (tl r) with
  | (n, q) => (bif Nat.beq (hd r) 0 then Int.ofNat n else Int.negSucc n, q)
def pByte (r : List Nat) : UInt8 × List Nat := (UInt8.ofNat (hd r), tl r)
def pStr (r : List Nat) : List UInt8 × List Nat := match pNat r with | (n, r) => pMany pByte n r
def pCap (r : List Nat) : Cap × List Nat :=
  match pNat (tl r) with
  | (a, q) => bif Nat.beq (hd r) 0 then (.lit a, q) else match pNat q with | (b, q) => (.var a b, q)
def pAV : Nat → List Nat → AV × List Nat
  | 0, r => (.nilp, r)
  | k + 1, r =>
    let t := hd r
    let q := tl r
    bif Nat.beq t 0 then (.bool (Nat.beq (hd q) 1), tl q)
    else bif Nat.beq t 1 then (match pInt (tl q) with | (n, z) => (.int (pKind (hd q)) n, z))
    else bif Nat.beq t 2 then (match pStr q with | (s, z) => (.str s, z))
    else bif Nat.beq t 3 then (.nilp, q)
    else bif Nat.beq t 4 then (match pNat q with | (b, z) => match pNat z with | (o, z) => (.ptr b o, z))
    else bif Nat.beq t 5 then (match pNat q with | (b, z) => match pNat z with | (o, z) => (.gptr b o, z))
    else bif Nat.beq t 6 then (.nils, q)
    else bif Nat.beq t 7 then (match pNat q with | (b, z) => match pNat z with | (o, z) => match pNat z with | (l, z) => match pCap z with | (c, z) => (.slice b o l c, z))
    else bif Nat.beq t 8 then (.nilm, q)
    else bif Nat.beq t 9 then (match pNat q with | (b, z) => (.map b, z))
    else bif Nat.beq t 10 then (match pNat q with | (f, z) => match pNat z with | (n, z) => match pMany (pAV k) n z with | (a, z) => match pNat z with | (m, z) => match pMany (pAV k) m z with | (b, z) => (.func f a b, z))
    else bif Nat.beq t 11 then (match pNat q with | (b, z) => (.yield b, z))
    else bif Nat.beq t 12 then (.nilFunc, q)
    else bif Nat.beq t 13 then (match pNat q with | (b, z) => match pAV k z with | (v, z) => (.iface b v, z))
    else bif Nat.beq t 14 then (.nilIface, q)
    else bif Nat.beq t 15 then (match pNat q with | (n, z) => match pMany (pAV k) n z with | (a, z) => (.agg a, z))
    else bif Nat.beq t 16 then (match pNat q with | (n, z) => match pMany (pAV k) n z with | (a, z) => (.tuple a, z))
    else bif Nat.beq t 17 then (match pNat q with | (b, z) => (.sym b, z))
    else bif Nat.beq t 18 then (match pNat q with | (b, z) => match pNat z with | (i, z) => match pNat z with | (j, z) => match pNat z with | (k, z) => match pNat z with | (l, z) => (.slice0 b i j k l, z))
    else bif Nat.beq t 19 then (match pNat q with | (b, z) => (.symStr b, z))
    else bif Nat.beq t 20 then (match pNat q with | (b, z) => (.symLen b, z))
    else bif Nat.beq t 22 then (match pNat q with | (b, z) => (.symC b, z))
    else (match pNat (tl q) with | (b, z) => (.symInt (pKind (hd q)) b, z))
def pTr {α : Type} (p : List Nat → α × List Nat) : Nat → List Nat → Tr α × List Nat
  | 0, r => (.lf, r)
  | k + 1, r =>
    bif Nat.beq (hd r) 0 then (.lf, tl r)
    else bif Nat.beq (hd r) 1 then (match pTr p k (tl r) with | (a, z) => match pTr p k z with | (b, z) => (.nd a none b, z))
    else (match p (tl r) with | (v, z) => match pTr p k z with | (a, z) => match pTr p k z with | (b, z) => (.nd a (some v) b, z))
def pEnt (r : List Nat) : (AV × AV × Nat) × List Nat := match pAV 8 r with | (k, z) => match pAV 8 z with | (v, z) => match pNat z with | (n, z) => ((k, v, n), z)
def pState (n : Nat) : LoopState := bif Nat.beq n 0 then .ready else bif Nat.beq n 1 then .busy else bif Nat.beq n 2 then .done else .exhausted
def pJump (r : List Nat) : Option Jump × List Nat :=
  bif Nat.beq (hd r) 0 then (none, tl r) else bif Nat.beq (hd r) 1 then (some .ret, tl r) else match pNat (tl r) with | (n, z) => (some (bif Nat.beq (hd r) 2 then .exit n else .goto n), z)
def pObj (r : List Nat) : AObj × List Nat :=
  let t := hd r
  let q := tl r
  bif Nat.beq t 0 then (match pTr (pAV 8) 40 q with | (a, z) => match pNat z with | (n, z) => match pNat z with | (e, z) => match pNat z with | (o, z) => match pNat z with | (lo, z) => match pNat z with | (h, z) => match pNat z with | (m, z) => (.cells a n e (Nat.beq o 1) lo h (Nat.beq m 1), z))
  else bif Nat.beq t 1 then (match pNat q with | (n, z) => match pMany pEnt n z with | (es, z) => match pNat z with | (c, z) => (.map es c, z))
  else bif Nat.beq t 2 then (match pNat (tl q) with | (m, z) => match pNat z with | (s, z) => match pNat z with | (n, z) => match pMany pNat n z with | (l, z) => match pNat z with | (st, z) => (.mapIter (bif Nat.beq (hd q) 0 then none else some m) s l st, z))
  else bif Nat.beq t 3 then (match pStr q with | (s, z) => match pNat z with | (n, z) => (.striter s n, z))
  else bif Nat.beq t 4 then (match pJump (tl q) with | (j, z) => (.loop (pState (hd q)) j, z))
  else (.deferred (Nat.beq (hd q) 1), tl q)
def heapOf (l : List Nat) : Heap := match pTr pObj 40 (stream l) with | (t, z) => { objs := t, next := (pNat z).1 }
def avOf (l : List Nat) : AV := (pAV 8 (stream l)).1

/-! The tables of a program -/
def mkTI (P : Program) (t : TypeInfo) : TI :=
  { und := match t.desc with | .named _ u => ((P.types[u]?).map (·.desc)).getD .invalid | d => d,
    size := t.size, bytes := t.bytes, zero := t.zero.bind (ofVal 4) }
def mkMeth (t : TypeInfo) : List (String × Option (FuncId × Recv)) := t.methods.toList.map fun m =>
  (m.name, match t.desc, m.func, m.path.isEmpty with
    | .pointer _, some (f, true), true => some (f, .ptr)
    | .pointer e, some (f, false), true => some (f, .load e)
    | _, _, _ => none)
def mkFI (f : Func) : FI := { body := f.body, ntmps := f.ntmps, results := f.results.toList }
def mkCtx (P : Program) (exts : List (FuncId × Ext)) (cons : List (FuncId × Con)) (apart : List FuncId) (keys : List (TypeId × Nat) := []) (frames : List (FuncId × Nat) := []) : Ctx :=
  { types := Tr.build 12 (P.types.toList.map (mkTI P)), funcs := Tr.build 12 (P.funcs.toList.map mkFI), exts := exts.foldl (fun t (f, e) => t.set f e) .lf, cons := cons.foldl (fun t (f, e) => t.set f e) .lf, apart, keys := keys.foldl (fun t (f, e) => t.set f e) .lf, meths := Tr.build 12 (P.types.toList.map mkMeth), frames := frames.foldl (fun t (f, e) => t.set f e) .lf, facts := [], ofacts := [], base := fun _ => none, mem := fun _ _ => none }

def runCall (C : Ctx) (fuel : Nat) (f : FuncId) (args : List AV) (H : Heap) : Option (List (AV × Heap)) := callIn C (exec C fuel) [] H f args

end Go.VmK
end
