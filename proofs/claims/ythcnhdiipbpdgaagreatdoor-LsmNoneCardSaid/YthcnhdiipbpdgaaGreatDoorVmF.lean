/-
  A machine that runs the model with abstract blocks, and lemmas on it: whatever it answers of a call is what the model does (ProgOK, Base: the conditions).
-/
import Derived.Test.YthcnhdiipbpdgaaGreatDoorVmK
/-! The machine once more, typed so that the kernel copies less: each function is proved to be the first one's equal. -/
namespace Go.VmK

noncomputable def evCF (v : Value) : Option AV :=
  Value.rec (motive_1 := fun _ => Value → Option AV) (motive_2 := fun _ => Unit) (motive_3 := fun _ => Unit)
    (fun b _ => some (.bool b)) (fun k n _ => some (.int k n)) (fun _ _ _ => none) (fun _ _ _ _ => none) (fun s _ => some (.str s.data.toList))
    (fun _ v => ofVal 4 v) (fun _ _ _ v => ofVal 4 v) (fun _ v => ofVal 4 v) (fun _ _ => none) (fun _ _ _ _ _ v => ofVal 4 v) (fun v => ofVal 4 v) (fun _ _ _ v => ofVal 4 v) (fun v => ofVal 4 v) (fun _ _ v => ofVal 4 v) (fun _ _ v => ofVal 4 v)
    (fun _ _ => ()) () (fun _ _ _ _ => ()) v v
theorem evCF_eq : evCF = evC := by funext v; cases v <;> rfl
noncomputable def evF (tmps : Tr AV) (x : Operand) : Option AV :=
  Operand.rec (motive := fun _ => Tr AV → Option AV) (fun t tmps => Tr.get tmps t) (fun v _ => evCF v) (fun g _ => some (.gptr g 0)) (fun f _ => some (.func f [] [])) x tmps
theorem evF_eq : evF = ev := by funext t x; cases x <;> first | rfl | (simp only [evF, evCF_eq]; rfl)
noncomputable def valF (H : Heap) (o : Option AV) : Option Out := Option.rec (motive := fun _ => Heap → Option Out) (fun _ => none) (fun v H => some (.val v H)) o H
theorem valF_eq : valF = valO := by funext H o; cases o <;> rfl
noncomputable def skipF (o : Option Heap) : Option Out := Option.rec (motive := fun _ => Option Out) none (fun H => some (.skip H)) o
theorem skipF_eq : skipF = skipO := by funext o; cases o <;> rfl
noncomputable def w1F (f : AV → Option Out) (o : Option AV) : Option Out := Option.rec (motive := fun _ => (AV → Option Out) → Option Out) (fun _ => none) (fun a f => f a) o f
theorem w1F_eq : w1F = with1 := by funext f o; cases o <;> rfl
noncomputable def w2F (f : AV → AV → Option Out) (o p : Option AV) : Option Out := Option.rec (motive := fun _ => (AV → AV → Option Out) → Option AV → Option Out) (fun _ _ => none) (fun a f p => w1F (f a) p) o f p
theorem w2F_eq : w2F = with2 := by funext f o p; cases o <;> cases p <;> rfl
noncomputable def putOF (n : Nat) (tmps : Tr AV) (d : Option Tmp) (v : AV) : Option (Tr AV) :=
  Option.rec (motive := fun _ => Nat → Tr AV → AV → Option (Tr AV)) (fun _ tmps _ => some tmps) (fun t n tmps v => Bool.rec (motive := fun _ => Option (Tr AV)) none (some (tmps.set t v)) (Nat.blt t n)) d n tmps v
theorem putOF_eq : putOF = putO := by
  funext n t d v
  cases d with
  | none => rfl
  | some d => show Bool.rec (motive := fun _ => Option (Tr AV)) _ _ _ = Bool.casesOn (motive := fun _ => Option (Tr AV)) _ _ _; cases Nat.blt d n <;> rfl
noncomputable def putKF {β : Type} (n : Nat) (tmps : Tr AV) (d : Option Tmp) (K : Knt β) (v : AV) (H : Heap) : Option (List β) := Option.rec (motive := fun _ => Knt β → Heap → Option (List β)) (fun _ _ => none) (fun t K H => K t H) (putOF n tmps d v) K H
theorem putKF_eq {β : Type} : @putKF β = @putK β := by
  funext n t d K v H
  unfold putKF putK
  rw [putOF_eq]
  cases putO n t d v <;> rfl
noncomputable def putPF {β : Type} (n : Nat) (tmps : Tr AV) (d : Option Tmp) (K : Knt β) (p : AV × Heap) : Option (List β) := putKF n tmps d K p.1 p.2
theorem putPF_eq {β : Type} : @putPF β = @putP β := by funext n t d K p; unfold putPF putP; rw [putKF_eq]

noncomputable def asPtr (v : AV) : Option (Nat × Nat) := AV.rec (motive_1 := fun _ => Option (Nat × Nat)) (motive_2 := fun _ => Unit) (fun _ => none) (fun _ _ => none) (fun _ => none) none (fun a0 a1 => some (a0, a1)) (fun _ _ => none) none (fun _ _ _ _ => none) none (fun _ => none) (fun _ _ _ _ _ => none) (fun _ => none) none (fun _ _ _ => none) none (fun _ _ => none) (fun _ _ => none) (fun _ => none) (fun _ _ _ _ _ => none) (fun _ => none) (fun _ => none) (fun _ _ => none) () (fun _ _ _ _ => ()) v
noncomputable def asInt (v : AV) : Option (IntKind × Int) := AV.rec (motive_1 := fun _ => Option (IntKind × Int)) (motive_2 := fun _ => Unit) (fun _ => none) (fun a0 a1 => some (a0, a1)) (fun _ => none) none (fun _ _ => none) (fun _ _ => none) none (fun _ _ _ _ => none) none (fun _ => none) (fun _ _ _ _ _ => none) (fun _ => none) none (fun _ _ _ => none) none (fun _ _ => none) (fun _ _ => none) (fun _ => none) (fun _ _ _ _ _ => none) (fun _ => none) (fun _ => none) (fun _ _ => none) () (fun _ _ _ _ => ()) v
noncomputable def asSlice (v : AV) : Option (Nat × Nat × Nat) := AV.rec (motive_1 := fun _ => Option (Nat × Nat × Nat)) (motive_2 := fun _ => Unit) (fun _ => none) (fun _ _ => none) (fun _ => none) none (fun _ _ => none) (fun _ _ => none) none (fun a0 a1 a2 _a3 => some (a0, a1, a2)) none (fun _ => none) (fun _ _ _ _ _ => none) (fun _ => none) none (fun _ _ _ => none) none (fun _ _ => none) (fun _ _ => none) (fun _ => none) (fun _ _ _ _ _ => none) (fun _ => none) (fun _ => none) (fun _ _ => none) () (fun _ _ _ _ => ()) v
noncomputable def aggD (u : TypeDesc) : Bool := TypeDesc.rec (motive := fun _ => Bool) false false (fun _ => false) (fun _ => false) (fun _ => false) false false (fun _ => false) (fun _ => false) (fun _a0 _a1 => true) (fun _ _ => false) (fun _ _ => false) (fun _a0 => true) (fun _ _ _ => false) (fun _ => false) (fun _ => false) (fun _ _ => false) u
theorem aggD_eq (u : TypeDesc) : aggD u = isAggD u := by cases u <;> rfl
noncomputable def fieldsD (u : TypeDesc) : Option (Array Field) := TypeDesc.rec (motive := fun _ => Option (Array Field)) none none (fun _ => none) (fun _ => none) (fun _ => none) none none (fun _ => none) (fun _ => none) (fun _ _ => none) (fun _ _ => none) (fun _ _ => none) (fun a0 => some a0) (fun _ _ _ => none) (fun _ => none) (fun _ => none) (fun _ _ => none) u
noncomputable def elemD (u : TypeDesc) : Option (Option Nat × TypeId) := TypeDesc.rec (motive := fun _ => Option (Option Nat × TypeId)) none none (fun _ => none) (fun _ => none) (fun _ => none) none none (fun _ => none) (fun a0 => some (none, a0)) (fun a0 a1 => some (some a0, a1)) (fun _ _ => none) (fun _ _ => none) (fun _ => none) (fun _ _ _ => none) (fun _ => none) (fun _ => none) (fun _ _ => none) u
noncomputable def cellsO (o : AObj) : Option (Tr AV × Nat) := AObj.rec (motive := fun _ => Option (Tr AV × Nat)) (fun t n _ _ _ _ _ => some (t, n)) (fun _ _ => none) (fun _ _ _ _ => none) (fun _ _ => none) (fun _ _ => none) (fun _ => none) o
noncomputable def bindF {α β : Type} (o : Option α) (f : α → Option β) : Option β := Option.rec (motive := fun _ => (α → Option β) → Option β) (fun _ => none) (fun a f => f a) o f
noncomputable def iteF {α : Type} (b : Bool) (x y : α) : α := Bool.rec (motive := fun _ => α → α → α) (fun _ y => y) (fun x _ => x) b x y
noncomputable def load1F (H : Heap) (b off : Nat) : Option AV := bindF (H.get b) fun o => bindF (cellsO o) fun p => iteF (Nat.blt off p.2) (p.1.get off) none
theorem load1F_eq : load1F = load1 := by
  funext H b off
  unfold load1F load1
  cases H.get b with
  | none => rfl
  | some o => cases o <;> first | rfl | (simp only [bindF, cellsO, iteF]; cases Nat.blt off _ <;> rfl)
noncomputable def loadVarF (C : Ctx) (H : Heap) (t : TypeId) (b off : Nat) : Option AV :=
  bindF (C.types.get t) fun i => iteF (aggD i.und) ((loadN H b off i.size).map .agg) (load1F H b off)
theorem loadVarF_eq : loadVarF = loadVar := by
  funext C H t b off
  unfold loadVarF loadVar ti
  cases C.types.get t with
  | none => rfl
  | some i => simp only [bindF, iteF, aggD_eq, load1F_eq]; cases isAggD i.und <;> rfl
noncomputable def doLoadF (C : Ctx) (H : Heap) (t : TypeId) (a : AV) : Option Out := bindF (asPtr a) fun p => valF H (loadVarF C H t p.1 p.2)
theorem doLoadF_eq : doLoadF = doLoad := by funext C H t a; cases a <;> first | rfl | (simp only [doLoadF, doLoad, valF_eq, loadVarF_eq]; rfl)
noncomputable def doStoreF (C : Ctx) (H : Heap) (t : TypeId) (a v : AV) : Option Out := bindF (asPtr a) fun p => skipF (storeVar C H t p.1 p.2 v)
theorem doStoreF_eq : doStoreF = doStore := by funext C H t a v; cases a <;> first | rfl | (simp only [doStoreF, doStore, skipF_eq]; rfl)
noncomputable def fieldAddrF (C : Ctx) (t : TypeId) (x : AV) (f : Nat) : Option AV :=
  bindF (C.types.get t) fun i => bindF (fieldsD i.und) fun fs => bindF (asPtr x) fun p => bindF fs[f]? fun fd => bindF (C.types.get fd.type) fun tf => iteF (Nat.beq tf.size 0) none (some (.ptr p.1 (p.2 + fd.offset)))
theorem fieldAddrF_eq : fieldAddrF = fieldAddr := by
  funext C t x f
  unfold fieldAddrF fieldAddr und ti
  cases C.types.get t with
  | none => rfl
  | some i =>
    obtain ⟨u, a, b, c⟩ := i
    cases u with
    | struct fs =>
      cases x with
      | ptr b off =>
        simp only [bindF, fieldsD, asPtr, Option.map_some]
        cases fs[f]? with
        | none => rfl
        | some fd =>
          simp only
          cases C.types.get fd.type with
          | none => rfl
          | some tf => simp only [iteF]; cases Nat.beq tf.size 0 <;> rfl
      | _ => rfl
    | _ => cases x <;> rfl
noncomputable def doFieldAddrF (C : Ctx) (H : Heap) (t : TypeId) (f : Nat) (a : AV) : Option Out := valF H (fieldAddrF C t a f)
theorem doFieldAddrF_eq : doFieldAddrF = doFieldAddr := by funext C H t f a; unfold doFieldAddrF doFieldAddr; rw [valF_eq, fieldAddrF_eq]
noncomputable def opMulK (k : IntKind) (x y : Int) : Option AV := opMul k x y
noncomputable def intOpF (op : BinOp) (k : IntKind) (x y : Int) : Option AV :=
  BinOp.rec (motive := fun _ => IntKind → Int → Int → Option AV) opAdd opSub opMul opQuo opRem (bitOp Nat.land .and) (bitOp Nat.lor .or) (bitOp Nat.xor .xor) opShl opShr (fun _ _ _ => none)
    (fun _ x y => opB (eqI x y)) (fun _ x y => opB (notB (eqI x y))) (fun _ x y => opB (ltI x y)) (fun _ x y => opB (notB (ltI y x))) (fun _ x y => opB (ltI y x)) (fun _ x y => opB (notB (ltI x y))) op k x y
theorem intOpF_eq : intOpF = intOp := by funext op k x y; cases op <;> rfl
noncomputable def kindNoF (k : IntKind) : Nat := IntKind.rec 0 1 2 3 4 5 6 7 k
theorem kindNoF_eq (k : IntKind) : kindNoF k = kindNo k := by cases k <;> rfl
noncomputable def isShiftF (op : BinOp) : Bool := BinOp.rec (motive := fun _ => Bool) false false false false false false false false true true false false false false false false false op
theorem isShiftF_eq (op : BinOp) : isShiftF op = isShift op := by cases op <;> rfl
noncomputable def intOp2F (op : BinOp) (k : IntKind) (x : Int) (k' : IntKind) (y : Int) : Option AV :=
  iteF (Nat.beq (kindNoF k) (kindNoF k')) (intOpF op k x y) (iteF (isShiftF op) (intOpF op k x y) none)
theorem intOp2F_eq : intOp2F = intOp2 := by
  funext op k x k' y
  unfold intOp2F intOp2
  rw [kindNoF_eq, kindNoF_eq, isShiftF_eq, intOpF_eq]
  cases Nat.beq (kindNo k) (kindNo k') <;> cases isShift op <;> rfl
noncomputable def binOpF (C : Ctx) (op : BinOp) (t : TypeId) (x y : AV) : Option AV :=
  Option.rec (motive := fun _ => Ctx → BinOp → TypeId → AV → AV → Option AV) (fun C op t x y => binOp C op t x y)
    (fun p _C op _t _x y => bindF (asInt y) fun q => intOp2F op p.1 p.2 q.1 q.2) (asInt x) C op t x y
theorem binOpF_eq : binOpF = binOp := by
  funext C op t x y
  cases x with
  | int k a => cases y <;> first | rfl | (simp only [binOpF, asInt, bindF, intOp2F_eq]; rfl)
  | _ => rfl
noncomputable def doBinF (C : Ctx) (H : Heap) (op : BinOp) (t : TypeId) (a b : AV) : Option Out :=
  Option.rec (motive := fun _ => Ctx → Heap → BinOp → TypeId → AV → AV → Option Out) (fun C H op t a b => doBin C H op t a b) (fun v _ H _ _ _ _ => some (.val v H)) (binOpF C op t a b) C H op t a b
theorem doBinF_eq : doBinF = doBin := by
  funext C H op t a b
  unfold doBinF
  rw [binOpF_eq]
  cases h : binOp C op t a b with
  | none => rfl
  | some v => simp only [doBin, h]
noncomputable def indexAddrF (C : Ctx) (t : TypeId) (x ix : AV) : Option AV :=
  Option.rec (motive := fun _ => Ctx → TypeId → AV → AV → Option AV) (fun C t x ix => indexAddr C t x ix)
    (fun s C t _x ix => bindF (C.types.get t) fun i => bindF (elemD i.und) fun e => bindF (asInt ix) fun j => Option.rec (motive := fun _ => Option AV)
      (bindF (C.types.get e.2) fun te => iteF (decide (0 ≤ j.2) && Nat.blt j.2.toNat s.2.2) (some (.ptr s.1 (s.2.1 + j.2.toNat * te.size))) none) (fun _ => none) e.1) (asSlice x) C t x ix
theorem indexAddrF_eq : indexAddrF = indexAddr := by
  funext C t x ix
  cases x with
  | slice b off len cap =>
    simp only [indexAddrF, asSlice, bindF]
    unfold indexAddr und ti
    cases C.types.get t with
    | none => rfl
    | some i =>
      obtain ⟨u, a, b', c⟩ := i
      cases u <;> cases ix <;> first | rfl | skip
      rename_i e k j
      simp only [elemD, asInt, asIdx, Option.map_some]
      cases C.types.get e with
      | none => rfl
      | some te =>
        simp only [iteF]
        cases hb : (decide (0 ≤ j) && Nat.blt j.toNat len) <;> rfl
  | _ => rfl
noncomputable def doIndexAddrF (C : Ctx) (H : Heap) (t : TypeId) (a b : AV) : Option Out := valF H (indexAddrF C t a b)
theorem doIndexAddrF_eq : doIndexAddrF = doIndexAddr := by funext C H t a b; unfold doIndexAddrF doIndexAddr; rw [valF_eq, indexAddrF_eq]
noncomputable def opStepF (C : Ctx) (H : Heap) (tmps : Tr AV) (op : Op) : Option Out :=
  Op.rec (motive := fun _ => Ctx → Heap → Tr AV → Option Out)
    (fun x _C H tmps => valF H (evF tmps x)) -- move
    (fun x _C H tmps => valF H (evF tmps x)) -- assign
    (fun c a b _C H tmps => doPick H tmps a b (evF tmps c))
    (fun t C H _tmps => doAlloc C H t)
    (fun t x _C H tmps => w1F (doBox H t) (evF tmps x))
    (fun t ps C H tmps => doBuild C H t (evParts tmps ps.toList))
    (fun t n ps C H tmps => doBuildSlice C H t n (evParts tmps ps.toList))
    (fun t m k x C H tmps => w2F (doUpdate C H tmps t x) (evF tmps m) (evF tmps k)) -- insert
    (fun t a C H tmps => w1F (doLoadF C H t) (evF tmps a))
    (fun t a x C H tmps => w2F (doStoreF C H t) (evF tmps a) (evF tmps x))
    (fun _ _C _H _tmps => none) -- ready
    (fun _ _C _H _tmps => none) -- waits
    (fun x _C H tmps => w1F (doNil H) (evF tmps x))
    (fun op t x y _ C H tmps => w2F (doBinF C H op t) (evF tmps x) (evF tmps y))
    (fun op _ x _C H tmps => w1F (doUn H op) (evF tmps x))
    (fun s d x C H tmps => w1F (doConv C H s d) (evF tmps x))
    (fun _ _ _C _H _tmps => none) -- sliceToArrayPointer
    (fun t x C H tmps => w1F (doIface C H t) (evF tmps x))
    (fun fn a b _C H tmps => doFunc H tmps fn a.toList b.toList)
    (fun t r C H tmps => doMap C H tmps t r)
    (fun _ _ _C _H _tmps => none) -- makeChan
    (fun t l c C H tmps => w2F (doMakeSlice C H t) (evF tmps l) (evF tmps c))
    (fun t x lo hi mx C H tmps => w1F (doSlice C H tmps t lo hi mx) (evF tmps x))
    (fun t x f C H tmps => w1F (doFieldAddrF C H t f) (evF tmps x))
    (fun t x f C H tmps => w1F (doField C H t f) (evF tmps x))
    (fun t x i C H tmps => w2F (doIndexAddrF C H t) (evF tmps x) (evF tmps i))
    (fun t x i C H tmps => w2F (doIndex C H t) (evF tmps x) (evF tmps i))
    (fun t x i ok C H tmps => w2F (doLookup C H t ok) (evF tmps x) (evF tmps i))
    (fun t m k x C H tmps => w2F (doUpdate C H tmps t x) (evF tmps m) (evF tmps k))
    (fun t m k C H tmps => w2F (doEntryOf C H t) (evF tmps m) (evF tmps k)) -- mapEntry
    (fun _ m st x _C H tmps => w2F (doEntryStore H tmps x) (evF tmps m) (evF tmps st)) -- entryStore
    (fun t x C H tmps => w1F (doRange C H t) (evF tmps x))
    (fun it s _C H tmps => w1F (doNext H s) (evF tmps it))
    (fun it _C H tmps => w1F (doEntry H) (evF tmps it))
    (fun x _ t ok C H tmps => w1F (doAssert C H t ok) (evF tmps x))
    (fun x i _C H tmps => w1F (doExtract H i) (evF tmps x))
    (fun c C H tmps => callOp C H tmps c)
    (fun _ _C _H _tmps => none) (fun _ _C _H _tmps => none) (fun _ _C _H _tmps => none) (fun _ _ _C _H _tmps => none) (fun _ _ _ _C _H _tmps => none) (fun _ _ _C _H _tmps => none) op C H tmps
theorem opStepF_eq : opStepF = opStep := by
  funext C H tmps op
  cases op <;> simp only [opStepF, evF_eq, valF_eq, w1F_eq, w2F_eq, doLoadF_eq, doStoreF_eq, doFieldAddrF_eq, doBinF_eq, doIndexAddrF_eq] <;> rfl
noncomputable def outF {β : Type} (C : Ctx) (self : Self) (E : List LoopInfo) (n : Nat) (H : Heap) (tmps : Tr AV) (d : Option Tmp) (K : Knt β) (o : Out) : Option (List β) :=
  Out.rec (motive := fun _ => Ctx → Self → List LoopInfo → Nat → Heap → Tr AV → Option Tmp → Knt β → Option (List β))
    (fun v H' _ _ _ n _ tmps d K => putKF n tmps d K v H')
    (fun H' _ _ _ n _ tmps d K => putKF n tmps d K undefV H')
    (fun f args C self E n H tmps d K => afterCall (elemB C.apart f) n tmps d K (callIn C self E H f args))
    (fun l args _ self E n H tmps d K => afterCall true n tmps d K (roundIn self E H l args))
    (fun l _ _ _ n _ tmps d K => bindL (putP n tmps d K) l) o C self E n H tmps d K
theorem outF_eq {β : Type} : @outF β = @outK β := by
  funext C self E n H tmps d K o
  cases o <;> simp only [outF, outK, putKF_eq]
noncomputable def operF {β : Type} (C : Ctx) (self : Self) (E : List LoopInfo) (n : Nat) (H : Heap) (tmps : Tr AV) (o : Oper) (K : Knt β) : Option (List β) :=
  Option.rec (motive := fun _ => Ctx → Self → List LoopInfo → Nat → Heap → Tr AV → Oper → Knt β → Option (List β)) (fun _ _ _ _ _ _ _ _ => none) (fun out C self E n H tmps o K => outF C self E n H tmps o.dst K out) (opStepF C H tmps o.op) C self E n H tmps o K
theorem operF_eq {β : Type} : @operF β = @operK β := by
  funext C self E n H tmps o K
  unfold operF operK
  rw [opStepF_eq]
  cases opStep C H tmps o.op with
  | none => rfl
  | some out => simp only [outF_eq]
noncomputable def guardF {β : Type} (C : Ctx) (self : Self) (E : List LoopInfo) (n : Nat) (ops : List Oper) (H : Heap) (tmps : Tr AV) (o : Oper) (K : Knt β) (g : Option (Nat × Bool)) : Option (List β) :=
  Option.rec (motive := fun _ => Ctx → Self → List LoopInfo → Nat → List Oper → Heap → Tr AV → Oper → Knt β → Option (List β)) (fun C self E n _ H tmps o K => operF C self E n H tmps o K)
    (fun _g C self E n ops H tmps o K => bindF (wantedG ops tmps o) fun b => iteF b (operF C self E n H tmps o K) (putKF n tmps o.dst K undefV H)) g C self E n ops H tmps o K
theorem guardF_eq {β : Type} : @guardF β = @guardK β := by
  funext C self E n ops H tmps o K g
  cases g with
  | none => simp only [guardF, operF_eq]; rfl
  | some g =>
    simp only [guardF, guardK, operF_eq, putKF_eq]
    cases wantedG ops tmps o with
    | none => rfl
    | some b => cases b <;> rfl
noncomputable def regF {β : Type} (C : Ctx) (self : Self) (E : List LoopInfo) (n : Nat) (ops : List Oper) (K : Knt β) (l : List Oper) : Knt β :=
  List.rec (motive := fun _ => Knt β) K (fun o _ ih tmps H => guardF C self E n ops H tmps o ih o.guard) l
theorem regF_eq {β : Type} : @regF β = @regGo β := by
  funext C self E n ops K l tmps H
  induction l generalizing tmps H with
  | nil => rfl
  | cons o r ih =>
    have h : regF C self E n ops K r = regGo C self E n ops K r := by funext t h; exact ih t h
    show guardF C self E n ops H tmps o (regF C self E n ops K r) o.guard = regGo C self E n ops K (o :: r) tmps H
    rw [h, guardF_eq]
    rfl
noncomputable def regionF (C : Ctx) (self : Self) (E : List LoopInfo) (I : FInfo) (k : List AItem) (tmps : Tr AV) (H : Heap) (ops : List Oper) (draw : Bool) : Option (List (AV × Heap)) :=
  Bool.rec (motive := fun _ => Ctx → Self → List LoopInfo → FInfo → List AItem → Tr AV → Heap → List Oper → Option (List (AV × Heap))) (fun C self E I k tmps H ops => regF C self E I.n ops (self E I k) ops tmps H)
    (fun C self E I k tmps H ops => doRegion C self E I k tmps H ops true) draw C self E I k tmps H ops
theorem regionF_eq : regionF = doRegion := by
  funext C self E I k tmps H ops draw
  cases draw with
  | false => simp only [regionF, regF_eq]; rfl
  | true => rfl
noncomputable def codeF (C : Ctx) (self : Self) (E : List LoopInfo) (I : FInfo) (k : List AItem) (tmps : Tr AV) (H : Heap) (c : Code) : Option (List (AV × Heap)) :=
  Code.rec (motive := fun _ => Ctx → Self → List LoopInfo → FInfo → List AItem → Tr AV → Heap → Option (List (AV × Heap)))
    (fun _ self E I k tmps H => self E I k tmps H)
    (fun _ ops draw C self E I k tmps H => regionF C self E I k tmps H ops.toList draw)
    (fun a b _ _ _ self E I k tmps H => self E I (.code a :: .code b :: k) tmps H)
    (fun x thn els _ _ _ self E I k tmps H => doCond self E I k tmps H thn els (evF tmps x))
    (fun id body _ _ self E I k tmps H => self E I (.code body :: .inBlock id :: k) tmps H)
    (fun body _ _ self E I k tmps H => self E I (.code body :: .inLoop body :: k) tmps H)
    (fun f params assign body _ _ C self E I k tmps H => doRangeFunc C self E I k tmps H f params.toList assign body)
    (fun id C self E I k tmps H => doExit C self E I tmps H (.exit id) (exitTo id k))
    (fun body _ _ self E I k tmps H => self E I (.code body :: .inScope body :: k) tmps H)
    (fun _ _ self E I k tmps H => self E I k tmps H)
    (fun l C self E I k tmps H => doExit C self E I tmps H (.goto l) (gotoIn l k))
    (fun C _ _ I _ tmps H => leave C I tmps H (some .ret))
    (fun _ _ _ _ _ _ _ _ => none) c C self E I k tmps H
theorem codeF_eq : codeF = stepC := by
  funext C self E I k tmps H c
  cases c <;> simp only [codeF, regionF_eq, evF_eq] <;> rfl
noncomputable def itemF (C : Ctx) (self : Self) (E : List LoopInfo) (I : FInfo) (k : List AItem) (tmps : Tr AV) (H : Heap) (it : AItem) : Option (List (AV × Heap)) :=
  AItem.rec (motive := fun _ => Ctx → Self → List LoopInfo → FInfo → List AItem → Tr AV → Heap → Option (List (AV × Heap)))
    (fun c C self E I k tmps H => codeF C self E I k tmps H c)
    (fun _ _ self E I k tmps H => self E I k tmps H)
    (fun body _ self E I k tmps H => self E I (.code body :: .inLoop body :: k) tmps H)
    (fun _ _ self E I k tmps H => self E I k tmps H)
    (fun l _ self E I k tmps H => doEnd self E I k tmps H l)
    (fun _ self E I k tmps H => doBegin self E I k tmps H) it C self E I k tmps H
theorem itemF_eq : itemF = stepI := by
  funext C self E I k tmps H it
  cases it <;> simp only [itemF, codeF_eq] <;> rfl
noncomputable def stepF (C : Ctx) (self : Self) : Self := fun E I todo tmps H =>
  List.rec (motive := fun _ => Ctx → Self → List LoopInfo → FInfo → Tr AV → Heap → Option (List (AV × Heap))) (fun C _ _ I tmps H => leave C I tmps H none) (fun it k _ C self E I tmps H => itemF C self E I k tmps H it) todo C self E I tmps H
theorem stepF_eq : stepF = step := by
  funext C self E I todo tmps H
  cases todo <;> simp only [stepF, itemF_eq] <;> rfl
noncomputable def execF (C : Ctx) (n : Nat) : Self := Nat.rec (motive := fun _ => Self) (fun _ _ _ _ _ => none) (fun _ ih => stepF C ih) n
theorem execF_eq (C : Ctx) (n : Nat) : execF C n = exec C n := by
  induction n with
  | zero => rfl
  | succ n ih =>
    show stepF C (execF C n) = exec C (n + 1)
    rw [ih, stepF_eq]
    rfl
noncomputable def runF (C : Ctx) (fuel : Nat) (f : FuncId) (args : List AV) (H : Heap) : Option (List (AV × Heap)) := callIn C (execF C fuel) [] H f args
theorem runF_eq : runF = runCall := by
  funext C n f args H
  unfold runF runCall
  rw [execF_eq]
end Go.VmK
