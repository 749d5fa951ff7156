/-
  The abstract machine 'AM' over the model: a deterministic evaluator of Go.Code on abstract values and an abstract heap. No theorem here. (Written for the kernel: small bodies, recursors.)
-/
import GoSem.Dispatch
namespace Go.AM
set_option linter.unusedVariables false

/-- An abstract value: as Go.Value, but with abstract block ids; 'slice': its capacity is known; 'oslice': it lies in a growable row, its capacity is not known. -/
inductive AV where
  | bool (b : Bool)
  | int (k : IntKind) (n : Int)
  | str (s : List Nat)
  | ptr (id off : Nat)
  | nilp
  | slice (id off len cap : Nat)
  | oslice (id off len : Nat)
  | nils
  | map (id : Nat)
  | nilm
  | func (f : FuncId) (first cap : List AV)
  | yield (l : Nat)
  | nilf
  | iface (t : TypeId) (v : AV)
  | nili
  | agg (vs : List AV)
  | tup (vs : List AV)
  deriving Inhabited

/-- A binary tree by numbers. -/
inductive Tr (α : Type) where
  | e
  | n (l : Tr α) (v : Option α) (r : Tr α)
  deriving Inhabited

noncomputable def Tr.get {α : Type} (t : Tr α) : Nat → Option α :=
  @Tr.rec α (fun _ => Nat → Option α) (fun _ => none) (fun _ v _ ihl ihr i =>
    @Bool.rec (fun _ => Option α) (@Bool.rec (fun _ => Option α) (ihr (Nat.pred (Nat.div i 2))) (ihl (Nat.div i 2)) (Nat.beq (Nat.mod i 2) 1)) v (Nat.beq i 0)) t

/-- A new path down to a place. -/
noncomputable def Tr.path {α : Type} (x : α) (f i : Nat) : Tr α :=
  @Nat.rec (fun _ => Nat → Tr α) (fun _ => .n .e (some x) .e) (fun _ ih i =>
    @Bool.rec (fun _ => Tr α) (@Bool.rec (fun _ => Tr α) (.n .e none (ih (Nat.pred (Nat.div i 2)))) (.n (ih (Nat.div i 2)) none .e) (Nat.beq (Nat.mod i 2) 1)) (.n .e (some x) .e) (Nat.beq i 0)) f i

/-- A place is written; what comes of it is handed on. -/
noncomputable def Tr.setK {α β : Type} (x : α) (t : Tr α) : Nat → (Tr α → β) → β :=
  @Tr.rec α (fun _ => Nat → (Tr α → β) → β) (fun i k => k (Tr.path x i i)) (fun l v r ihl ihr i k =>
    @Bool.rec (fun _ => β) (@Bool.rec (fun _ => β) (ihr (Nat.pred (Nat.div i 2)) fun r' => k (.n l v r')) (ihl (Nat.div i 2) fun l' => k (.n l' v r)) (Nat.beq (Nat.mod i 2) 1)) (k (.n l (some x) r)) (Nat.beq i 0)) t
noncomputable def Tr.set {α : Type} (t : Tr α) (i : Nat) (x : α) : Tr α := Tr.setK x t i fun t => t

/-- Fill a tree from a list, from place i on. -/
noncomputable def Tr.fill {α : Type} (t : Tr α) (i : Nat) (l : List α) : Tr α :=
  List.rec (fun t _ => t) (fun x _ ih t i => ih (t.set i x) (Nat.succ i)) l t i

def undefA : AV := .tup []

/-- Four things. -/
inductive N4 (α : Type) where
  | mk (a b c d : α)

noncomputable def N4.get {α : Type} (t : N4 α) (i : Nat) : α :=
  @N4.rec α (fun _ => α) (fun a b c d => @Nat.rec (fun _ => α) a (fun i _ => @Nat.rec (fun _ => α) b (fun i _ => @Nat.rec (fun _ => α) c (fun _ _ => d) i) i) i) t

noncomputable def N4.put {α : Type} (t : N4 α) (i : Nat) (x : α) : N4 α :=
  @N4.rec α (fun _ => N4 α) (fun a b c d => @Nat.rec (fun _ => N4 α) (.mk x b c d) (fun i _ => @Nat.rec (fun _ => N4 α) (.mk a x c d) (fun i _ => @Nat.rec (fun _ => N4 α) (.mk a b x d) (fun _ _ => .mk a b c x) i) i) i) t

def N4.all {α : Type} (x : α) : N4 α := .mk x x x x

/-- The temporaries of a frame: 256 at most. -/
abbrev Tm := N4 (N4 (N4 (N4 AV)))
def Tm.none : Tm := N4.all (N4.all (N4.all (N4.all undefA)))
noncomputable def Tm.get (t : Tm) (i : Nat) : AV := N4.get (N4.get (N4.get (N4.get t (Nat.div i 64)) (Nat.mod (Nat.div i 16) 4)) (Nat.mod (Nat.div i 4) 4)) (Nat.mod i 4)
noncomputable def Tm.put (t : Tm) (i : Nat) (v : AV) : Tm :=
  N4.put t (Nat.div i 64) (N4.put (N4.get t (Nat.div i 64)) (Nat.mod (Nat.div i 16) 4) (N4.put (N4.get (N4.get t (Nat.div i 64)) (Nat.mod (Nat.div i 16) 4)) (Nat.mod (Nat.div i 4) 4)
    (N4.put (N4.get (N4.get (N4.get t (Nat.div i 64)) (Nat.mod (Nat.div i 16) 4)) (Nat.mod (Nat.div i 4) 4)) (Nat.mod i 4) v)))

inductive AObj where
  | row (t : Tr AV) (lo hi : Nat) (z : List AV) (g : Nat)
  | map (es : List (AV × AV × Nat)) (clock : Nat)
  | miter (m : Option Nat) (since : Nat) (seen : List Nat) (stepped : Nat)
  | loop (st : LoopState) (pending : Option Code) (fn : FuncId) (tm : Tm) (sz : Nat) (params : List Tmp) (assign body : Code) (defers : Nat)
  | defr (taken : Bool)
  | dead
  deriving Inhabited

structure Heap where
  objs : Tr AObj
  next : Nat
  deriving Inhabited

noncomputable def Heap.get (H : Heap) (id : Nat) : Option AObj := H.objs.get id
noncomputable def Heap.put (H : Heap) (id : Nat) (o : AObj) : Heap := ⟨H.objs.set id o, H.next⟩
noncomputable def Heap.add (H : Heap) (o : AObj) : Heap := ⟨H.objs.set H.next o, Nat.succ H.next⟩

noncomputable def lget {α : Type} (l : List α) (i : Nat) : Option α :=
  List.rec (fun _ => none) (fun x _ ih i => cond (Nat.beq i 0) (some x) (ih (Nat.pred i))) l i


def ofV1 : Value → Option AV
  | .bool b => some (.bool b)
  | .int k n => some (.int k n)
  | .string s => some (.str (s.data.toList.map (·.toNat)))
  | .pointer none => some .nilp
  | .slice none 0 0 => some .nils
  | .map none => some .nilm
  | .nilFunc => some .nilf
  | .nilIface => some .nili
  | _ => none

def omap2 {α β : Type} (f : α → Option β) : List α → Option (List β)
  | [] => some []
  | v :: vs => (f v).bind fun a => (omap2 f vs).bind fun as => some (a :: as)

def ofV : Value → Option AV
  | .agg cs => (omap2 ofV1 cs.toList).bind fun l => some (.agg l)
  | .tuple cs => (omap2 ofV1 cs.toList).bind fun l => some (.tup l)
  | v => ofV1 v

def AV.cells : AV → List AV
  | .agg cs => cs
  | v => [v]

def AV.one : AV → Bool
  | .agg _ | .tup _ => false
  | _ => true

noncomputable def allOne (l : List AV) : Bool := List.rec true (fun x _ ih => cond x.one ih false) l
noncomputable def llen {α : Type} (l : List α) : Nat := List.rec 0 (fun _ _ ih => Nat.succ ih) l

noncomputable def zAt (z : List AV) (i : Nat) : Option AV → Option AV := fun o => Option.casesOn o (lget z (Nat.mod i (llen z))) some

noncomputable def rowAt (t : Tr AV) (lo hi : Nat) (z : List AV) (i : Nat) : Option AV :=
  cond (Nat.ble lo i) (cond (Nat.ble (Nat.succ i) hi) (zAt z i (t.get i)) none) none

noncomputable def cellsFrom (t : Tr AV) (lo hi : Nat) (z : List AV) (i n : Nat) : Option (List AV) :=
  Nat.rec (fun _ => some []) (fun _ ih i => (rowAt t lo hi z i).bind fun v => (ih (Nat.succ i)).bind fun vs => some (v :: vs)) n i

noncomputable def rowOf (o : AObj) {α : Type} (k : Tr AV → Nat → Nat → List AV → Nat → Option α) : Option α :=
  AObj.casesOn o k (fun _ _ => none) (fun _ _ _ _ => none) (fun _ _ _ _ _ _ _ _ _ => none) (fun _ => none) none

noncomputable def loadN (H : Heap) (id off n : Nat) : Option (List AV) :=
  (H.get id).bind fun o => rowOf o fun t lo hi z _ => cellsFrom t lo hi z off n

/-- The mark of a row that is only read (one of the caller's). -/
def roG : Nat := 1099511627777

noncomputable def storeIn (H : Heap) (id off : Nat) (vs : List AV) (t : Tr AV) (lo hi : Nat) (z : List AV) (g : Nat) : Option Heap :=
  cond (Nat.beq g roG) none (cond (Nat.ble lo off) (cond (Nat.ble (Nat.add off (llen vs)) hi) (cond (allOne vs) (some (H.put id (.row (t.fill off vs) lo hi z g))) none) none) none)

noncomputable def storeN (H : Heap) (id off : Nat) (vs : List AV) : Option Heap :=
  (H.get id).bind fun o => rowOf o fun t lo hi z g => storeIn H id off vs t lo hi z g

variable (P : Program)

def und (t : TypeId) : Option TypeDesc := P.underlying t
def szOf (t : TypeId) : Option Nat := (P.info? t).bind fun i => some i.size
def byOf (t : TypeId) : Option Nat := (P.info? t).bind fun i => some i.bytes
def zeroOf (t : TypeId) : Option AV := (P.info? t).bind fun i => i.zero.bind ofV
def isAggD : TypeDesc → Bool
  | .struct _ | .array _ _ => true
  | _ => false
def aggO (t : TypeId) : Option Bool := (und P t).bind fun u => some (isAggD u)

noncomputable def ldrop {α : Type} (n : Nat) (l : List α) : List α :=
  List.rec (fun _ => []) (fun x xs ih n => cond (Nat.beq n 0) (x :: xs) (ih (Nat.pred n))) l n
noncomputable def ltake {α : Type} (n : Nat) (l : List α) : List α :=
  List.rec (fun _ => []) (fun x _ ih n => cond (Nat.beq n 0) [] (x :: ih (Nat.pred n))) l n

noncomputable def partA (t : TypeId) (cs : List AV) (off : Nat) : Option AV :=
  (aggO P t).bind fun b => cond b ((szOf P t).bind fun n => some (.agg (ltake n (ldrop off cs)))) (lget cs off)

abbrev Eqs := TypeId → AV → AV → Option Bool

noncomputable def eqAnd (b : Bool) (r : Option Bool) : Option Bool := cond b r (some false)

noncomputable def eqFields (eq : Eqs) (xs ys : List AV) (fs : List Field) : Option Bool :=
  List.rec (some true) (fun f _ ih => cond (f.name == "_") ih
    ((partA P f.type xs f.offset).bind fun a => (partA P f.type ys f.offset).bind fun b => (eq f.type a b).bind fun r => eqAnd r ih)) fs

noncomputable def eqElems (eq : Eqs) (elem : TypeId) (n : Nat) (xs ys : List AV) (m i : Nat) : Option Bool :=
  Nat.rec (fun _ => some true) (fun _ ih i =>
    (partA P elem xs (Nat.mul i n)).bind fun a => (partA P elem ys (Nat.mul i n)).bind fun b => (eq elem a b).bind fun r => eqAnd r (ih (Nat.succ i))) m i

def intEq (x y : Int) : Bool := match x, y with
  | .ofNat a, .ofNat b => Nat.beq a b
  | .negSucc a, .negSucc b => Nat.beq a b
  | _, _ => false
def intLt (x y : Int) : Bool := match x, y with
  | .ofNat a, .ofNat b => Nat.blt a b
  | .negSucc a, .negSucc b => Nat.blt b a
  | .negSucc _, .ofNat _ => true
  | .ofNat _, .negSucc _ => false
def intLe (x y : Int) : Bool := !intLt y x

noncomputable def natsEq (x : List Nat) : List Nat → Bool :=
  List.rec (fun y => List.casesOn y true fun _ _ => false) (fun a _ ih y => List.casesOn y false fun b r => cond (Nat.beq a b) (ih r) false) x

def eqInt (x y : AV) : Option Bool := match x, y with
  | .int k a, .int k' b => cond (k == k') (some (intEq a b)) none
  | _, _ => none
def eqBool (x y : AV) : Option Bool := match x, y with
  | .bool a, .bool b => some (a == b)
  | _, _ => none
noncomputable def eqStr (x y : AV) : Option Bool := match x, y with
  | .str a, .str b => some (natsEq a b)
  | _, _ => none
def eqPtr (x y : AV) : Option Bool := match x, y with
  | .nilp, .nilp => some true
  | .nilp, .ptr _ _ => some false
  | .ptr _ _, .nilp => some false
  | _, _ => none
def eqIface (x y : AV) : Option Bool := match x, y with
  | .nili, .iface _ _ => some false
  | .iface _ _, .nili => some false
  | _, _ => none
def eqSlice (x y : AV) : Option Bool := match x, y with
  | .nils, .nils => some true
  | .nils, .slice _ _ _ _ => some false
  | .nils, .oslice _ _ _ => some false
  | .slice _ _ _ _, .nils => some false
  | .oslice _ _ _, .nils => some false
  | _, _ => none
def eqMap (x y : AV) : Option Bool := match x, y with
  | .nilm, .nilm => some true
  | .nilm, .map _ => some false
  | .map _, .nilm => some false
  | _, _ => none
def eqFunc (x y : AV) : Option Bool := match x, y with
  | .nilf, .nilf => some true
  | .nilf, .func _ _ _ => some false
  | .func _ _ _, .nilf => some false
  | _, _ => none
noncomputable def eqStruct (eq : Eqs) (t : TypeId) (fs : Array Field) (x y : AV) : Option Bool := match x, y with
  | .agg xs, .agg ys => cond (P.stoodInHeld t || P.eqGuardType P.depth t) none (eqFields P eq xs ys fs.toList)
  | _, _ => none
noncomputable def eqArray (eq : Eqs) (t : TypeId) (len : Nat) (elem : TypeId) (x y : AV) : Option Bool := match x, y with
  | .agg xs, .agg ys => cond (P.eqGuardType P.depth t) none ((szOf P elem).bind fun n => eqElems P eq elem n xs ys len 0)
  | _, _ => none

noncomputable def eqBy (eq : Eqs) (t : TypeId) (d : TypeDesc) (x y : AV) : Option Bool := match d with
  | .bool => eqBool x y
  | .int _ => eqInt x y
  | .string => eqStr x y
  | .pointer _ => eqPtr x y
  | .interface _ => eqIface x y
  | .slice _ => eqSlice x y
  | .map _ _ => eqMap x y
  | .func _ _ _ => eqFunc x y
  | .struct fs => eqStruct P eq t fs x y
  | .array n e => eqArray P eq t n e x y
  | _ => none

/-- '==' of two abstract values of a type. -/
noncomputable def eqA (d : Nat) : Eqs := Nat.rec (fun _ _ _ => none) (fun _ ih t x y => (und P t).bind fun u => eqBy P ih t u x y) d

noncomputable def bitsA (f : (n : Nat) → BitVec n → BitVec n → BitVec n) (k : IntKind) (x y : Int) : Option AV :=
  some (.int k (k.wrap (f k.bits (BitVec.ofInt k.bits x) (BitVec.ofInt k.bits y)).toNat))

noncomputable def intBin (op : BinOp) (k : IntKind) (x y : Int) : Option AV :=
  match op with
  | .add => some (.int k (k.wrap (Int.add x y)))
  | .sub => some (.int k (k.wrap (Int.sub x y)))
  | .mul => some (.int k (k.wrap (Int.mul x y)))
  | .quo => cond (intEq y 0) none (some (.int k (k.wrap (x.tdiv y))))
  | .rem => cond (intEq y 0) none (some (.int k (x.tmod y)))
  | .and => bitsA (fun _ a b => a &&& b) k x y
  | .or => bitsA (fun _ a b => a ||| b) k x y
  | .xor => bitsA (fun _ a b => a ^^^ b) k x y
  | .andNot => bitsA (fun _ a b => a &&& ~~~b) k x y
  | .eql => some (.bool (intEq x y))
  | .neq => some (.bool (!intEq x y))
  | .lss => some (.bool (intLt x y))
  | .leq => some (.bool (intLe x y))
  | .gtr => some (.bool (intLt y x))
  | .geq => some (.bool (intLe y x))
  | _ => none

def shiftA (op : BinOp) (k : IntKind) (x y : Int) : Option AV :=
  cond (intLt y 0) none (match op with
  | .shl => some (.int k (k.wrap (x * 2 ^ (min y.toNat k.bits))))
  | .shr => some (.int k (x.fdiv (2 ^ (min y.toNat k.bits))))
  | _ => none)

noncomputable def strBin (op : BinOp) (x y : List Nat) : Option AV :=
  match op with
  | .add => cond (Nat.ble (Nat.add (llen x) (llen y)) 4611686018427387904) (some (.str (x ++ y))) none
  | .eql => some (.bool (natsEq x y))
  | .neq => some (.bool !(natsEq x y))
  | _ => none

def isShift : BinOp → Bool
  | .shl | .shr => true
  | _ => false

noncomputable def binInt (op : BinOp) (k k' : IntKind) (a b : Int) : Option AV :=
  cond (isShift op) (shiftA op k a b) (cond (k == k') (intBin op k a b) none)

noncomputable def binEq (op : BinOp) (t : TypeId) (x y : AV) : Option AV :=
  match op with
  | .eql => (eqA P 100 t x y).bind fun b => some (.bool b)
  | .neq => (eqA P 100 t x y).bind fun b => some (.bool (!b))
  | _ => none

noncomputable def binA (op : BinOp) (t : TypeId) (x y : AV) : Option AV :=
  match x with
  | .int k a => (match y with | .int k' b => binInt op k k' a b | _ => none)
  | .str a => (match y with | .str b => strBin op a b | _ => none)
  | _ => binEq P op t x y

noncomputable def unA (op : UnOp) (x : AV) : Option AV :=
  match x with
  | .int k n => (match op with
    | .neg => intBin .sub k 0 n
    | .xor => intBin .xor k (if k.signed then -1 else k.max) n
    | _ => none)
  | .bool b => (match op with | .not => some (.bool (!b)) | _ => none)
  | _ => none

/-- A part of an aggregate is laid over its cells. -/
noncomputable def lput (cs : List AV) (off : Nat) (vs : List AV) : List AV := ltake off cs ++ vs ++ ldrop (Nat.add off (llen vs)) cs

noncomputable def fillOne (cells : List AV) (v : List AV) (ih : List AV → Option (List AV)) (off size : Nat) : Option (List AV) :=
  cond (Nat.beq (llen v) size) (cond (Nat.ble (Nat.add off size) (llen cells)) (ih (lput cells off v)) none) none

noncomputable def fillA (place : Nat → Option (Nat × Nat)) (ps : List (Nat × AV)) (cells : List AV) : Option (List AV) :=
  List.rec (fun cells => some cells) (fun p _ ih cells => (place p.1).bind fun q => fillOne cells p.2.cells ih q.1 q.2) ps cells

abbrev Env := Operand → Option AV

noncomputable def partsA (ρ : Env) (l : List (Nat × Operand)) : Option (List (Nat × AV)) :=
  List.rec (some []) (fun p _ ih => (ρ p.2).bind fun v => ih.bind fun vs => some ((p.1, v) :: vs)) l

noncomputable def argsA (ρ : Env) (l : List Operand) : Option (List AV) :=
  List.rec (some []) (fun p _ ih => (ρ p).bind fun v => ih.bind fun vs => some (v :: vs)) l

noncomputable def placesA (l : List Field) : Option (List (Nat × Nat)) :=
  List.rec (some []) (fun f _ ih => (szOf P f.type).bind fun n => ih.bind fun ps => some ((f.offset, n) :: ps)) l

noncomputable def placeOf (t : TypeId) : Option (Nat → Option (Nat × Nat)) :=
  (und P t).bind fun u => match u with
    | .struct fields => (placesA P fields.toList).bind fun ps => some (lget ps)
    | .array _ elem => (szOf P elem).bind fun s => some fun i => some (Nat.mul i s, s)
    | _ => none

noncomputable def buildA (t : TypeId) (parts : List (Nat × AV)) : Option AV :=
  (zeroOf P t).bind fun z => (placeOf P t).bind fun pl => (fillA pl parts z.cells).bind fun cs => some (.agg cs)

def minA (x y : AV) : Option AV := match x, y with
  | .int k x, .int _ y => some (.int k (cond (intLt y x) y x))
  | _, _ => none
def maxA (x y : AV) : Option AV := match x, y with
  | .int k x, .int _ y => some (.int k (cond (intLt x y) y x))
  | _, _ => none
noncomputable def foldA (f : AV → AV → Option AV) (l : List AV) (x : AV) : Option AV :=
  List.rec (fun x => some x) (fun y _ ih x => (f x y).bind ih) l x

def goI (n : Nat) : AV := .int .i64 (Int.ofNat n)

def lenSl (x : AV) : Option AV := match x with
  | .nils => some (goI 0)
  | .slice _ _ n _ => some (goI n)
  | .oslice _ _ n => some (goI n)
  | _ => none
noncomputable def lenStr (x : AV) : Option AV := match x with
  | .str s => some (goI (llen s))
  | _ => none
noncomputable def mapOf (H : Heap) (id : Nat) {α : Type} (k : List (AV × AV × Nat) → Nat → Option α) : Option α :=
  (H.get id).bind fun o => AObj.casesOn o (fun _ _ _ _ _ => none) k (fun _ _ _ _ => none) (fun _ _ _ _ _ _ _ _ _ => none) (fun _ => none) none
noncomputable def lenMap (H : Heap) (x : AV) : Option AV := match x with
  | .nilm => some (goI 0)
  | .map id => mapOf H id fun es _ => some (goI (llen es))
  | _ => none

noncomputable def lenA (H : Heap) (u : TypeDesc) (x : AV) : Option AV :=
  match u with
  | .string => lenStr x
  | .array n _ => some (goI n)
  | .slice _ => lenSl x
  | .map _ _ => lenMap H x
  | _ => none

def capA (u : TypeDesc) (x : AV) : Option AV :=
  match u with
  | .array n _ => some (goI n)
  | .slice _ => (match x with | .nils => some (goI 0) | .slice _ _ _ c => some (goI c) | _ => none)
  | _ => none

def asPtr (x : AV) {α : Type} (k : Nat → Nat → Option α) : Option α := match x with
  | .ptr id off => k id off
  | _ => none
def asI (x : AV) {α : Type} (k : Int → Option α) : Option α := match x with
  | .int _ n => k n
  | _ => none
def asB (x : AV) {α : Type} (k : Bool → Option α) : Option α := match x with
  | .bool b => k b
  | _ => none
def asAg (x : AV) {α : Type} (k : List AV → Option α) : Option α := match x with
  | .agg l => k l
  | _ => none
def asTup (x : AV) {α : Type} (k : List AV → Option α) : Option α := match x with
  | .tup l => k l
  | _ => none
def asStruct (u : TypeDesc) {α : Type} (k : Array Field → Option α) : Option α := match u with
  | .struct fs => k fs
  | _ => none
def asSlice (u : TypeDesc) {α : Type} (k : TypeId → Option α) : Option α := match u with
  | .slice e => k e
  | _ => none
def asMapT (u : TypeDesc) {α : Type} (k : TypeId → TypeId → Option α) : Option α := match u with
  | .map a b => k a b
  | _ => none

abbrev R := Option (AV × Heap)
noncomputable def ret (H : Heap) (x : Option AV) : R := x.bind fun v => some (v, H)

noncomputable def oPick (ρ : Env) (c a b : Operand) : Option AV :=
  (ρ c).bind fun c => (ρ a).bind fun a => (ρ b).bind fun b => asB c fun c => some (cond c a b)

def nilChk (x : AV) : Option AV := match x with
  | .ptr id off => some (.ptr id off)
  | .func f a b => some (.func f a b)
  | .yield l => some (.yield l)
  | _ => none

noncomputable def convInt (k : IntKind) (x : AV) : Option AV := asI x fun n => some (.int k (k.wrap n))
def convStr (x : AV) : Option AV := match x with
  | .str s => some (.str s)
  | _ => none
def isU8 (e : TypeId) : Bool := match und P e with
  | some (.int .u8) => true
  | _ => false

noncomputable def u8s (l : List AV) : Option (List Nat) :=
  List.rec (some []) (fun v _ ih => (match v with
    | .int .u8 n => cond (intLt n 0) none (cond (intLt n 256) (ih.bind fun r => some (n.toNat :: r)) none)
    | _ => none)) l

def asSl (x : AV) {α : Type} (nil : Option α) (k : Nat → Nat → Nat → Option α) : Option α := match x with
  | .nils => nil
  | .slice id off len _ => k id off len
  | .oslice id off len => k id off len
  | _ => none

noncomputable def strOfBytes (H : Heap) (x : AV) : Option AV :=
  asSl x (some (.str [])) fun id off len => (loadN H id off len).bind fun vs => (u8s vs).bind fun l => some (.str l)

noncomputable def bytesCells (s : List Nat) : List AV := s.map fun b => .int .u8 (Int.ofNat b)

noncomputable def bytesOfStr (H : Heap) (x : AV) : R := match x with
  | .str s => some (.oslice H.next 0 (llen s), H.add (.row ((Tr.e).fill 0 (bytesCells s)) 0 (llen s) [] 1))
  | _ => none

noncomputable def sameSl (H : Heap) (same : Bool) (x : AV) : Option AV := cond same (match x with
  | .slice id off len cap => (H.get id).bind fun o => rowOf o fun _ _ _ _ g => cond (Nat.beq g roG) none (some (.slice id off len cap))
  | .oslice id off len => (H.get id).bind fun o => rowOf o fun _ _ _ _ g => cond (Nat.beq g roG) none (some (.oslice id off len))
  | _ => none) none

noncomputable def oConvert (H : Heap) (src dst : TypeId) (us ud : TypeDesc) (x : AV) : R :=
  match ud with
  | .int k => ret H (convInt k x)
  | .string => (match us with
    | .slice e => cond (isU8 P e) (ret H (strOfBytes H x)) none
    | .string => ret H (convStr x)
    | _ => none)
  | .slice e => (match us with
    | .string => cond (isU8 P e) (bytesOfStr H x) none
    | .slice _ => cond (isU8 P e) (ret H (sameSl H (Nat.beq src dst) x)) none
    | _ => none)
  | _ => none

def s2ap (n : Nat) (x : AV) : Option AV := match x with
  | .slice id off len _ => cond (Nat.ble n len) (some (.ptr id off)) none
  | .oslice id off len => cond (Nat.ble n len) (some (.ptr id off)) none
  | _ => none

def mkIf (t : TypeId) (u : TypeDesc) (v : AV) : Option AV := match u with
  | .interface _ => none
  | _ => some (.iface t v)

noncomputable def mkFn (ρ : Env) (fn : Fn) (a b : List Operand) : Option AV := match fn with
  | .func f => (argsA ρ a).bind fun a => (argsA ρ b).bind fun b => some (.func f a b)
  | _ => none

noncomputable def fAddr (fields : Array Field) (f id off : Nat) : Option AV :=
  (lget fields.toList f).bind fun fd => (szOf P fd.type).bind fun n => cond (Nat.beq n 0) none (some (.ptr id (Nat.add off fd.offset)))

noncomputable def inRange (i : Int) (len : Nat) {α : Type} (k : Nat → Option α) : Option α :=
  match i with
  | .ofNat n => cond (Nat.ble (Nat.succ n) len) (k n) none
  | .negSucc _ => none

noncomputable def oIndexAddr (u : TypeDesc) (x : AV) (i : Int) : Option AV :=
  match u with
  | .array len elem => (szOf P elem).bind fun s => asPtr x fun id off => inRange i len fun n => some (.ptr id (Nat.add off (Nat.mul n s)))
  | .slice elem => (szOf P elem).bind fun s => asSl x none fun id off len => inRange i len fun n => some (.ptr id (Nat.add off (Nat.mul n s)))
  | _ => none

noncomputable def oIndex (u : TypeDesc) (x : AV) (i : Int) : Option AV :=
  match u with
  | .array len elem => (szOf P elem).bind fun s => asAg x fun cs => inRange i len fun n => partA P elem cs (Nat.mul n s)
  | .string => (match x with
    | .str s => inRange i (llen s) fun n => (lget s n).bind fun b => some (.int .u8 (Int.ofNat b))
    | _ => none)
  | _ => none

noncomputable def findA (t : TypeId) (k : AV) (es : List (AV × AV × Nat)) (i : Nat) : Option (Option (Nat × AV)) :=
  List.rec (fun _ => some none) (fun e _ ih i => (eqA P 100 t k e.1).bind fun b => cond b (some (some (i, e.2.1))) (ih (Nat.succ i))) es i

def plainD (u : Option TypeDesc) : Bool := match u with
  | some .bool | some (.int _) | some .string => true
  | _ => false

noncomputable def keyFields (n : Nat) (fs : List Field) : Bool :=
  List.rec true (fun f _ ih => cond (f.name == "_") false (cond (plainD (und P f.type)) (cond (Nat.ble (Nat.succ f.offset) n) ih false) false)) fs

/-- A key that may be: a number, a bool, a string, a struct of such. -/
noncomputable def keyOk (t : TypeId) (k : AV) : Bool := match und P t with
  | some .bool | some (.int _) | some .string => true
  | some (.struct fs) => (match k with | .agg vs => keyFields P (llen vs) fs.toList | _ => false)
  | _ => false

def plain1 : AV → Bool
  | .bool _ | .int _ _ | .str _ => true
  | _ => false
noncomputable def plainK (k : AV) : Bool := match k with
  | .agg vs => List.rec true (fun v _ ih => cond (plain1 v) ih false) vs
  | k => plain1 k

noncomputable def lookRes (et : TypeId) (ok : Bool) (r : Option (Nat × AV)) : Option AV :=
  Option.casesOn r ((zeroOf P et).bind fun z => some (cond ok (.tup [z, .bool false]) z)) fun p => some (cond ok (.tup [p.2, .bool true]) p.2)

noncomputable def lookupA (H : Heap) (m k : AV) (ok : Bool) (kt et : TypeId) : Option AV :=
  cond (keyOk P kt k) (match m with
    | .nilm => lookRes P et ok none
    | .map id => mapOf H id fun es _ => (findA P kt k es 0).bind fun r => lookRes P et ok r
    | _ => none) none

noncomputable def optI (ρ : Env) (x : Option Operand) {α : Type} (k : Option Int → Option α) : Option α :=
  Option.casesOn x (k none) fun x => (ρ x).bind fun v => asI v fun n => k (some n)

/-- s[l:h:m] of a row's elements: the new slice; ex: is the capacity known? -/
noncomputable def slRes (ex : Bool) (id off size l h m : Nat) : Option AV :=
  cond ex (some (.slice id (cond (Nat.beq m l) off (Nat.add off (Nat.mul l size))) (Nat.sub h l) (Nat.sub m l)))
    (some (.oslice id (Nat.add off (Nat.mul l size)) (Nat.sub h l)))

noncomputable def natOf (x : Option Int) (d : Nat) {α : Type} (k : Nat → Option α) : Option α :=
  Option.casesOn x (k d) fun i => (match i with | .ofNat n => k n | .negSucc _ => none)

noncomputable def le3 (l h m c : Nat) {α : Type} (k : Option α) : Option α :=
  cond (Nat.ble l h) (cond (Nat.ble h m) (cond (Nat.ble m c) k none) none) none

noncomputable def hasHi (mx hi : Option Int) : Bool := Option.casesOn mx true fun _ => Option.casesOn hi false fun _ => true

noncomputable def slExact (size : Nat) (id off len cap : Nat) (lo hi mx : Option Int) : Option AV :=
  cond (hasHi mx hi) (natOf lo 0 fun l => natOf hi len fun h => natOf mx cap fun m => le3 l h m cap (slRes true id off size l h m)) none

noncomputable def slOpenIn (size : Nat) (id off len : Nat) (lo hi mx : Option Int) (olo ohi g : Nat) : Option AV :=
  cond (Nat.beq g size) (cond (Nat.ble olo off) (cond (hasHi mx hi)
    (natOf lo 0 fun l => natOf hi len fun h => Option.casesOn mx
      (cond (Nat.ble l h) (cond (Nat.ble (Nat.add off (Nat.mul h size)) ohi) (slRes false id off size l h 0) none) none)
      fun i => natOf (some i) 0 fun m => cond (Nat.ble (Nat.add off (Nat.mul m size)) ohi) (le3 l h m m (cond (Nat.ble (Nat.succ off) ohi) (slRes true id off size l h m) (some (.oslice id off 0)))) none)
    none) none) none

noncomputable def slOpen (H : Heap) (size : Nat) (id off len : Nat) (lo hi mx : Option Int) : Option AV :=
  (H.get id).bind fun o => rowOf o fun _ olo ohi _ g => slOpenIn size id off len lo hi mx olo ohi g

noncomputable def slNil (lo hi mx : Option Int) : Option AV :=
  cond (hasHi mx hi) (natOf lo 0 fun l => natOf hi 0 fun h => natOf mx 0 fun m => le3 l h m 0 (some .nils)) none

noncomputable def sliceA (H : Heap) (size : Nat) (x : AV) (lo hi mx : Option Int) : Option AV :=
  cond (Nat.beq size 0) none (match x with
  | .nils => slNil lo hi mx
  | .slice id off len cap => slExact size id off len cap lo hi mx
  | .oslice id off len => slOpen H size id off len lo hi mx
  | _ => none)

noncomputable def slStr (s : List Nat) (lo hi mx : Option Int) : Option AV :=
  Option.casesOn mx (natOf lo 0 fun l => natOf hi (llen s) fun h => le3 l h (llen s) (llen s) (some (.str (ldrop l (ltake h s))))) fun _ => none

noncomputable def oSlice (H : Heap) (u : TypeDesc) (x : AV) (lo hi mx : Option Int) : Option AV :=
  match u with
  | .string => (match x with | .str s => slStr s lo hi mx | _ => none)
  | .slice elem => (szOf P elem).bind fun s => sliceA H s x lo hi mx
  | .array n elem => (szOf P elem).bind fun s => cond (Nat.beq s 0) none (asPtr x fun id off => slExact s id off n n lo hi mx)
  | _ => none

noncomputable def oLoad (H : Heap) (t : TypeId) (id off : Nat) : Option AV :=
  (aggO P t).bind fun b => cond b ((szOf P t).bind fun n => (loadN H id off n).bind fun l => some (.agg l))
    ((loadN H id off 1).bind fun l => lget l 0)

noncomputable def ofRow (cs : List AV) : AObj := .row ((Tr.e).fill 0 cs) 0 (llen cs) [] 0

noncomputable def newRowA (H : Heap) (cs : List AV) : R := cond (allOne cs) (some (.ptr H.next 0, H.add (ofRow cs))) none

noncomputable def repl {α : Type} (n : Nat) (z : List α) : List α := Nat.rec [] (fun _ ih => z ++ ih) n

noncomputable def bslc (H : Heap) (len : Nat) (z : List AV) (s : Nat) (ps : List (Nat × AV)) : R :=
  cond (Nat.ble (Nat.mul len s) 1048576) (cond (Nat.beq (llen z) s) (cond (Nat.beq s 0) none
    ((fillA (fun i => some (Nat.mul i s, s)) ps (repl len z)).bind fun cs =>
      cond (allOne cs) (some (.slice H.next 0 len len, H.add (ofRow cs))) none)) none) none

noncomputable def oBuildSlice (ρ : Env) (H : Heap) (len : Nat) (parts : List (Nat × Operand)) (elem : TypeId) : R :=
  (szOf P elem).bind fun s => (zeroOf P elem).bind fun z => (partsA ρ parts).bind fun ps => bslc H len z.cells s ps

noncomputable def mkSl (H : Heap) (z : List AV) (s b l c : Nat) : R :=
  cond (Nat.beq (llen z) s) (cond (allOne z) (cond (Nat.beq s 0) none (cond (Nat.ble l c) (cond (Nat.ble (Nat.mul (Nat.succ b) c) 1099511627776)
    (some (.slice H.next 0 l c, H.add (.row .e 0 (Nat.mul c s) z 0))) none) none)) none) none

noncomputable def oMakeSlice (H : Heap) (elem : TypeId) (l c : AV) : R :=
  (szOf P elem).bind fun s => (byOf P elem).bind fun b => (zeroOf P elem).bind fun z =>
    asI l fun l => asI c fun c => natOf (some l) 0 fun l => natOf (some c) 0 fun c => mkSl H z.cells s b l c

noncomputable def mkMap (H : Heap) : R := some (.map H.next, H.add (.map [] 0))
noncomputable def oMakeMap (ρ : Env) (H : Heap) (r : Option Operand) : R :=
  Option.casesOn r (mkMap H) fun x => (ρ x).bind fun v => asI v fun _ => mkMap H

mutual
def AV.beq : AV → AV → Bool
  | .bool a, .bool b => a == b
  | .int k a, .int k' b => k == k' && a == b
  | .str a, .str b => a == b
  | .ptr a b, .ptr c d => Nat.beq a c && Nat.beq b d
  | .nilp, .nilp => true
  | .slice a b c d, .slice e f g h => Nat.beq a e && Nat.beq b f && Nat.beq c g && Nat.beq d h
  | .oslice a b c, .oslice e f g => Nat.beq a e && Nat.beq b f && Nat.beq c g
  | .nils, .nils => true
  | .map a, .map b => Nat.beq a b
  | .nilm, .nilm => true
  | .func f a b, .func g c d => Nat.beq f g && AV.beqs a c && AV.beqs b d
  | .yield a, .yield b => Nat.beq a b
  | .nilf, .nilf => true
  | .iface t a, .iface u b => Nat.beq t u && AV.beq a b
  | .nili, .nili => true
  | .agg a, .agg b => AV.beqs a b
  | .tup a, .tup b => AV.beqs a b
  | _, _ => false
def AV.beqs : List AV → List AV → Bool
  | [], [] => true
  | a :: x, b :: y => AV.beq a b && AV.beqs x y
  | _, _ => false
end

noncomputable def lmod {α : Type} (f : α → α) (l : List α) (i : Nat) : List α :=
  List.rec (fun _ => []) (fun x xs ih i => cond (Nat.beq i 0) (f x :: xs) (x :: ih (Nat.pred i))) l i
noncomputable def lerase {α : Type} (l : List α) (i : Nat) : List α :=
  List.rec (fun _ => []) (fun x xs ih i => cond (Nat.beq i 0) xs (x :: ih (Nat.pred i))) l i

noncomputable def asMapV (m : AV) {α : Type} (k : Nat → Option α) : Option α := match m with
  | .map id => k id
  | _ => none

noncomputable def mapPutAt (H : Heap) (id : Nat) (k v : AV) (es : List (AV × AV × Nat)) (clock : Nat) (r : Option (Nat × AV)) : R :=
  Option.casesOn r (some (undefA, H.put id (.map (es ++ [(k, v, clock)]) (Nat.succ clock))))
    fun p => (lget es p.1).bind fun e => cond (e.1.beq k && plainK k) (some (undefA, H.put id (.map (lmod (fun e => (k, v, e.2.2)) es p.1) clock))) none

noncomputable def mapPutA (H : Heap) (m k v : AV) (kt : TypeId) : R :=
  cond (keyOk P kt k) (asMapV m fun id => mapOf H id fun es clock => (findA P kt k es 0).bind fun r => mapPutAt H id k v es clock r) none

noncomputable def mapDelAt (H : Heap) (id : Nat) (es : List (AV × AV × Nat)) (clock : Nat) (r : Option (Nat × AV)) : R :=
  Option.casesOn r (some (undefA, H)) fun p => some (undefA, H.put id (.map (lerase es p.1) clock))

noncomputable def mapDelA (H : Heap) (m k : AV) (kt : TypeId) : R :=
  cond (keyOk P kt k) (match m with
    | .nilm => some (undefA, H)
    | .map id => mapOf H id fun es clock => (findA P kt k es 0).bind fun r => mapDelAt H id es clock r
    | _ => none) none

noncomputable def zerosN (elem : TypeId) (size n : Nat) {α : Type} (k : List AV → Option α) : Option α :=
  (zeroOf P elem).bind fun z => cond (Nat.beq (llen z.cells) size) (k (repl n z.cells)) none

noncomputable def oClear (H : Heap) (u : TypeDesc) (x : AV) : R :=
  match u with
  | .map _ _ => (match x with
    | .nilm => some (undefA, H)
    | .map id => mapOf H id fun _ clock => some (undefA, H.put id (.map [] clock))
    | _ => none)
  | .slice elem => asSl x (some (undefA, H)) fun id off n => (szOf P elem).bind fun s => zerosN P elem s n fun cs => (storeN H id off cs).bind fun H' => some (undefA, H')
  | _ => none

noncomputable def smallB (n b : Nat) {α : Type} (k : Option α) : Option α := cond (Nat.ble (Nat.mul n (Nat.succ b)) 1099511627776) k none

/-- The cells that are appended, and how many elements: 'zeros': append(s, make([]T, n)...). -/
noncomputable def appended (H : Heap) (elem : TypeId) (size b : Nat) (zeros : Bool) (x : AV) {α : Type} (k : Nat → List AV → Option α) : Option α :=
  match x with
  | .int _ i => cond zeros (natOf (some i) 0 fun n => cond (Nat.ble n 1048576) (cond (Nat.beq n 0) none (smallB n b (zerosN P elem size n fun cs => k n cs))) none) none
  | .str s => cond zeros none (cond (Nat.beq size 1) (k (llen s) (bytesCells s)) none)
  | .nils => cond zeros none (k 0 [])
  | .slice id off len _ => cond zeros none ((loadN H id off (Nat.mul len size)).bind fun cs => k len cs)
  | .oslice id off len => cond zeros none ((loadN H id off (Nat.mul len size)).bind fun cs => k len cs)
  | _ => none

noncomputable def newGrow (H : Heap) (size : Nat) (cs : List AV) (n : Nat) : R :=
  some (.oslice H.next 0 n, H.add (.row ((Tr.e).fill 0 cs) 0 (llen cs) [] size))

noncomputable def appNil (H : Heap) (size b n : Nat) (new : List AV) : R :=
  cond (Nat.beq n 0) (some (.nils, H)) (smallB n b (newGrow H size new n))

noncomputable def appEx (H : Heap) (size b n : Nat) (new : List AV) (id off len cap : Nat) : R :=
  cond (Nat.ble (Nat.add len n) cap)
    ((storeN H id (Nat.add off (Nat.mul len size)) new).bind fun H' => some (.slice id off (Nat.add len n) cap, H'))
    (smallB (Nat.add len n) b ((loadN H id off (Nat.mul len size)).bind fun old => newGrow H size (old ++ new) (Nat.add len n)))

noncomputable def appMove (H : Heap) (size n : Nat) (new : List AV) (id off len : Nat) (t : Tr AV) (z : List AV) (g : Nat) : R :=
  some (.oslice H.next off (Nat.add len n), (H.put id .dead).add (.row (t.fill (Nat.add off (Nat.mul len size)) new) off (Nat.add off (Nat.mul (Nat.add len n) size)) z g))

noncomputable def appOpenIn (H : Heap) (size b n : Nat) (new : List AV) (id off len : Nat) (t : Tr AV) (lo hi : Nat) (z : List AV) (g : Nat) : R :=
  cond (Nat.beq g size) (cond (Nat.ble lo off) (cond (Nat.ble (Nat.add off (Nat.mul len size)) hi)
    (cond (Nat.beq n 0) (some (.oslice id off len, H))
      (cond (Nat.ble (Nat.add off (Nat.mul (Nat.add len n) size)) hi)
        (some (.oslice id off (Nat.add len n), H.put id (.row (t.fill (Nat.add off (Nat.mul len size)) new) lo hi z g)))
        (smallB (Nat.add len n) b (appMove H size n new id off len t z g)))) none) none) none

noncomputable def appTo (H : Heap) (size b : Nat) (s : AV) (n : Nat) (new : List AV) : R :=
  cond (allOne new) (cond (Nat.beq (llen new) (Nat.mul n size)) (match s with
    | .nils => appNil H size b n new
    | .slice id off len cap => appEx H size b n new id off len cap
    | .oslice id off len => (H.get id).bind fun o => rowOf o fun t lo hi z g => appOpenIn H size b n new id off len t lo hi z g
    | _ => none) none) none

noncomputable def appendA (H : Heap) (elem : TypeId) (zeros : Bool) (s x : AV) : R :=
  (szOf P elem).bind fun size => (byOf P elem).bind fun b => (zeroOf P elem).bind fun z => cond (Nat.beq (llen z.cells) size) (cond (Nat.beq size 0) none (cond (Nat.beq size roG) none
    (appended P H elem size b zeros x fun n new => appTo H size b s n new))) none

noncomputable def copyLen (x : AV) : Option Nat := match x with
  | .nils => some 0
  | .slice _ _ n _ => some n
  | .oslice _ _ n => some n
  | .str s => some (llen s)
  | _ => none

noncomputable def copySrc (H : Heap) (size n : Nat) (x : AV) : Option (List AV) := match x with
  | .nils => some []
  | .slice id off _ _ => loadN H id off (Nat.mul n size)
  | .oslice id off _ => loadN H id off (Nat.mul n size)
  | .str s => cond (Nat.beq size 1) (some (bytesCells (ltake n s))) none
  | _ => none

noncomputable def copyDst (H : Heap) (x : AV) (n : Nat) (cs : List AV) : R :=
  asSl x (some (goI n, H)) fun id off _ => (storeN H id off cs).bind fun H' => some (goI n, H')

noncomputable def copyA (H : Heap) (size : Nat) (dst src : AV) : R :=
  (copyLen dst).bind fun dn => (copyLen src).bind fun sn => (copySrc H size (Nat.min sn dn) src).bind fun cs => copyDst H dst (Nat.min sn dn) cs

noncomputable def oStore (H : Heap) (t : TypeId) (id off : Nat) (v : AV) : R :=
  (szOf P t).bind fun n => cond (Nat.beq (llen v.cells) n) ((storeN H id off v.cells).bind fun H' => some (undefA, H')) none

noncomputable def oRange (H : Heap) (x : AV) : R := match x with
  | .nilm => some (.ptr H.next 0, H.add (.miter none 0 [] 0))
  | .map id => mapOf H id fun _ clock => some (.ptr H.next 0, H.add (.miter (some id) clock [] clock))
  | _ => none

noncomputable def iterOf (H : Heap) (id : Nat) {α : Type} (k : Option Nat → Nat → List Nat → Nat → Option α) : Option α :=
  (H.get id).bind fun o => AObj.casesOn o (fun _ _ _ _ _ => none) (fun _ _ => none) k (fun _ _ _ _ _ _ _ _ _ => none) (fun _ => none) none

noncomputable def natIn (n : Nat) (l : List Nat) : Bool := List.rec false (fun x _ ih => cond (Nat.beq n x) true ih) l

noncomputable def nextIn (H : Heap) (r m since : Nat) (seen : List Nat) (last : Nat) (es : List (AV × AV × Nat)) (clock : Nat) : R :=
  cond (!seen.isEmpty && !es.isEmpty && es.all (fun e => Nat.ble last e.2.2)) none
    (match es.filter fun e => !natIn e.2.2 seen with
    | [] => some (.tup [.bool false], H)
    | [e] => cond (Nat.ble (Nat.succ e.2.2) since) (some (.tup [.bool true, e.1, e.2.1], H.put r (.miter (some m) since (seen ++ [e.2.2]) clock))) none
    | _ => none)

noncomputable def oNext (H : Heap) (r : Nat) : R :=
  iterOf H r fun m since seen last => Option.casesOn m (some (.tup [.bool false], H)) fun m => mapOf H m fun es clock => nextIn H r m since seen last es clock

noncomputable def oEntry (H : Heap) (r : Nat) : R :=
  iterOf H r fun m _ seen stepped => m.bind fun m => seen.getLast?.bind fun stamp => mapOf H m fun es clock =>
    cond (Nat.beq clock stepped) ((es.find? fun e => Nat.beq e.2.2 stamp).bind fun e => some (.tup [e.1, e.2.1], H)) none

def zeroD : TypeDesc → Option Bool
  | .int _ => some true
  | .slice _ | .string => some false
  | _ => none
def isZeros (l : Array TypeId) : Option Bool := match l[1]? with
  | some u => (und P u).bind zeroD
  | none => none

noncomputable def arg1 (ρ : Env) (l : List Operand) {α : Type} (k : AV → Option α) : Option α :=
  (lget l 0).bind fun x => (ρ x).bind k
noncomputable def arg2 (ρ : Env) (l : List Operand) {α : Type} (k : AV → AV → Option α) : Option α :=
  (lget l 0).bind fun x => (ρ x).bind fun a => (lget l 1).bind fun y => (ρ y).bind fun b => k a b
def ty0 (l : Array TypeId) : Option TypeDesc := l[0]?.bind fun t => und P t

noncomputable def oBuiltin (ρ : Env) (H : Heap) (b : Builtin) (ts : Array TypeId) (l : List Operand) : R :=
  match b with
  | .len => (ty0 P ts).bind fun u => arg1 ρ l fun x => ret H (lenA H u x)
  | .cap => (ty0 P ts).bind fun u => arg1 ρ l fun x => ret H (capA u x)
  | .min => (argsA ρ l).bind fun as => List.casesOn as none fun x r => ret H (foldA minA r x)
  | .max => (argsA ρ l).bind fun as => List.casesOn as none fun x r => ret H (foldA maxA r x)
  | .append => (ty0 P ts).bind fun u => asSlice u fun e => (isZeros P ts).bind fun z => arg2 ρ l fun s x => appendA P H e z s x
  | .copy => (ty0 P ts).bind fun u => asSlice u fun e => (szOf P e).bind fun s => cond (Nat.beq s 0) none (arg2 ρ l fun a b => copyA H s a b)
  | .delete => (ty0 P ts).bind fun u => asMapT u fun kt _ => arg2 ρ l fun m k => mapDelA P H m k kt
  | .clear => (ty0 P ts).bind fun u => arg1 ρ l fun x => oClear P H u x
  | _ => none

noncomputable def oCall (ρ : Env) (H : Heap) (c : Call) : R :=
  Callee.casesOn c.callee (fun _ => none) (fun _ _ => none) fun b => oBuiltin P ρ H b c.argTypes c.args.toList

noncomputable def opA (ρ : Env) (H : Heap) : Op → R
  | .move x => ret H (ρ x)
  | .assign x => ret H (ρ x)
  | .pick c a b => ret H (oPick ρ c a b)
  | .alloc t => (zeroOf P t).bind fun z => newRowA H z.cells
  | .box _ x => (ρ x).bind fun v => newRowA H v.cells
  | .build t ps => (partsA ρ ps.toList).bind fun l => ret H (buildA P t l)
  | .buildSlice t n ps => (und P t).bind fun u => asSlice u fun e => oBuildSlice P ρ H n ps.toList e
  | .insert t m k v => (und P t).bind fun u => asMapT u fun kt _ => (ρ m).bind fun m => (ρ k).bind fun k => (ρ v).bind fun v => mapPutA P H m k v kt
  | .load t x => (ρ x).bind fun v => asPtr v fun id off => ret H (oLoad P H t id off)
  | .store t x v => (ρ x).bind fun p => (ρ v).bind fun v => asPtr p fun id off => oStore P H t id off v
  | .nilCheck x => (ρ x).bind fun v => ret H (nilChk v)
  | .binOp op t x y _ => (ρ x).bind fun a => (ρ y).bind fun b => ret H (binA P op t a b)
  | .unOp op _ x => (ρ x).bind fun a => ret H (unA op a)
  | .convert s d x => (und P s).bind fun us => (und P d).bind fun ud => (ρ x).bind fun v => oConvert P H s d us ud v
  | .sliceToArrayPointer t x => (und P t).bind fun u => (ρ x).bind fun v => (match u with | .array n _ => cond (Nat.beq n 0) none (ret H (s2ap n v)) | _ => none)
  | .makeInterface t x => (und P t).bind fun u => (ρ x).bind fun v => ret H (mkIf t u v)
  | .makeFunc fn a b => ret H (mkFn ρ fn a.toList b.toList)
  | .makeMap t r => (und P t).bind fun u => asMapT u fun _ _ => oMakeMap ρ H r
  | .makeSlice t l c => (und P t).bind fun u => asSlice u fun e => (ρ l).bind fun l => (ρ c).bind fun c => oMakeSlice P H e l c
  | .slice t x lo hi mx => (und P t).bind fun u => (ρ x).bind fun v => optI ρ lo fun lo => optI ρ hi fun hi => optI ρ mx fun mx => ret H (oSlice P H u v lo hi mx)
  | .fieldAddr t x f => (und P t).bind fun u => asStruct u fun fs => (ρ x).bind fun v => asPtr v fun id off => ret H (fAddr P fs f id off)
  | .field t x f => (und P t).bind fun u => asStruct u fun fs => (ρ x).bind fun v => asAg v fun cs => (lget fs.toList f).bind fun fd => ret H (partA P fd.type cs fd.offset)
  | .indexAddr t x i => (und P t).bind fun u => (ρ x).bind fun v => (ρ i).bind fun i => asI i fun i => ret H (oIndexAddr P u v i)
  | .index t x i => (und P t).bind fun u => (ρ x).bind fun v => (ρ i).bind fun i => asI i fun i => ret H (oIndex P u v i)
  | .lookup t m k ok => (und P t).bind fun u => asMapT u fun kt et => (ρ m).bind fun m => (ρ k).bind fun k => ret H (lookupA P H m k ok kt et)
  | .mapUpdate t m k v => (und P t).bind fun u => asMapT u fun kt _ => (ρ m).bind fun m => (ρ k).bind fun k => (ρ v).bind fun v => mapPutA P H m k v kt
  | .range t x => (und P t).bind fun u => asMapT u fun _ _ => (ρ x).bind fun v => oRange H v
  | .next it b => cond b none ((ρ it).bind fun v => asPtr v fun id off => cond (Nat.beq off 0) (oNext H id) none)
  | .entry it => (ρ it).bind fun v => asPtr v fun id off => cond (Nat.beq off 0) (oEntry H id) none
  | .extract x i => (ρ x).bind fun v => asTup v fun l => ret H (lget l i)
  | .call c => oCall P ρ H c
  | _ => none

inductive Cls where
  | p | r | a | w
  deriving DecidableEq, Inhabited

def clsB (b : Builtin) (u : Option TypeDesc) : Option Cls := match b with
  | .len => (match u with | some (.map _ _) => some .r | some _ => some .p | none => none)
  | .cap | .min | .max => some .p
  | .append | .copy | .delete | .clear => some .w
  | _ => none

def clsC (us ud : Option TypeDesc) : Option Cls := match us, ud with
  | some (.slice _), some .string => some .r
  | some (.slice _), some (.slice _) => some .w
  | some .string, some (.slice _) => some .a
  | _, _ => some .p

/-- Of what class an operation is; none: no such. -/
def clsOf : Op → Option Cls
  | .move _ | .assign _ | .pick .. | .build .. | .nilCheck _ | .sliceToArrayPointer .. | .binOp .. | .unOp .. | .makeInterface .. | .makeFunc .. | .fieldAddr .. | .field .. | .indexAddr .. | .index .. | .extract .. => some .p
  | .load .. | .lookup .. | .slice .. => some .r
  | .alloc _ | .box .. | .buildSlice .. | .makeSlice .. | .makeMap .. => some .a
  | .convert src dst _ => clsC (und P src) (und P dst)
  | .store .. | .mapUpdate .. | .insert .. | .range .. | .next .. | .entry _ => some .w
  | .call c => (match c.callee with
    | .builtin b => clsB b (ty0 P c.argTypes)
    | .value _ => some .w
    | _ => none)
  | _ => none

def tmpOf : Operand → List Tmp
  | .tmp t => [t]
  | _ => []

def guardDst (ops : List Oper) : Option (Nat × Bool) → List Tmp
  | some (g, _) => (match ops[g]? with | some o => o.dst.toList | none => [])
  | none => []

/-- An operation's class, what it names, what it writes, what it waits for. -/
structure Card where
  cls : Option Cls
  names : List Tmp
  dst : Option Tmp
  bef : Nat

def cardOf (ops : List Oper) (o : Oper) (bef : Nat) : Card :=
  ⟨clsOf P o.op, o.dst.toList ++ o.op.operands.toList.flatMap tmpOf ++ guardDst ops o.guard, o.dst, bef⟩

/-- What operations wait for, as bits: edges that bind, closed. -/
def befOf (o : Oper) (acc : List Nat) : Nat :=
  o.after.toList.foldl (fun s e => if Region.binds .any e then s ||| 2 ^ e.on ||| acc.getD e.on 0 else s) 0

noncomputable def cardsOf (ops : List Oper) (l : List Oper) (acc : List Nat) : List Card :=
  List.rec (fun _ => []) (fun o _ ih acc => cardOf P ops o (befOf o acc) :: ih (acc ++ [befOf o acc])) l acc

noncomputable def dstIn (d : Option Tmp) (l : List Tmp) : Bool := Option.casesOn d false fun d => natIn d l
def isW : Option Cls → Bool
  | some .w => true
  | _ => false
def isR : Option Cls → Bool
  | some .r => true
  | _ => false

/-- Card i, ahead of card j in the text, is apart from it, or j waits for i. -/
noncomputable def pairOk (ci cj : Card) (i : Nat) : Bool :=
  cond (Nat.testBit cj.bef i) true (!(dstIn ci.dst cj.names || dstIn cj.dst ci.names || (isW ci.cls && isW cj.cls)))

noncomputable def rowOk (cj : Card) (l : List Card) (i : Nat) : Bool :=
  List.rec (fun _ => true) (fun ci _ ih i => cond (pairOk ci cj i) (ih (Nat.succ i)) false) l i

def edgesOk (o : Oper) (i : Nat) : Bool := o.after.toList.all fun e => !Region.binds .any e || Nat.blt e.on i

noncomputable def cardsOk (done todo : List Card) : Bool :=
  List.rec (fun _ => true) (fun c _ ih done => cond (rowOk c done 0 && c.cls.isSome) (ih (done ++ [c])) false) todo done

noncomputable def edgesAll (l : List Oper) (i : Nat) : Bool := List.rec (fun _ => true) (fun o _ ih i => cond (edgesOk o i) (ih (Nat.succ i)) false) l i

/-- Are operations that no edge orders apart from one another? -/
noncomputable def regOk (ops : List Oper) : Bool := edgesAll ops 0 && cardsOk [] (cardsOf P ops ops [])

/-- Reads and writes that no edge orders: pairs of places (the read, the write). -/
noncomputable def conflRow (cj : Card) (j : Nat) (l : List Card) (i : Nat) : List (Nat × Nat) :=
  List.rec (fun _ => []) (fun ci _ ih i => cond (Nat.testBit cj.bef i) (ih (Nat.succ i))
    (cond (isR ci.cls && isW cj.cls) ((i, j) :: ih (Nat.succ i)) (cond (isW ci.cls && isR cj.cls) ((j, i) :: ih (Nat.succ i)) (ih (Nat.succ i))))) l i

noncomputable def conflAll (done todo : List Card) (j : Nat) : List (Nat × Nat) :=
  List.rec (fun _ _ => []) (fun c _ ih done j => conflRow c j done 0 ++ ih (done ++ [c]) (Nat.succ j)) todo done j

noncomputable def confl (ops : List Oper) : List (Nat × Nat) := conflAll [] (cardsOf P ops ops []) 0

def optBeq : Option AV → Option AV → Bool
  | none, none => true
  | some a, some b => a.beq b
  | _, _ => false


inductive AExit where
  | normal
  | exit (id : Nat)
  | ret

/-- A frame's state: temporaries, how many there are, marks of ranges over functions; and the heap. -/
structure St where
  tm : Tm
  sz : Nat
  df : List Nat
  hp : Heap

noncomputable def tget (tm : Tm) (t : Nat) : Option AV := cond (Nat.ble (Nat.succ t) 256) (some (tm.get t)) none
noncomputable def envOf (tm : Tm) (x : Operand) : Option AV :=
  Operand.casesOn x (fun t => tget tm t) ofV (fun _ => none) (fun f => some (.func f [] []))

/-- A temporary is written. -/
noncomputable def St.put (s : St) (dst : Option Tmp) (v : AV) (H : Heap) : Option St :=
  Option.casesOn dst (some ⟨s.tm, s.sz, s.df, H⟩) fun d => cond (Nat.ble (Nat.succ d) s.sz) (some ⟨s.tm.put d v, s.sz, s.df, H⟩) none

noncomputable def guardB (tm : Tm) (want : Bool) (d : Tmp) : Bool := match tget tm d with
  | some (.bool b) => b == want
  | _ => false

/-- Is an operation to be done? -/
noncomputable def wantedA (ops : List Oper) (tm : Tm) (o : Oper) : Bool :=
  Option.casesOn o.guard true fun g => Option.casesOn ((lget ops g.1).bind fun o => o.dst) false fun d => guardB tm g.2 d

structure Cx where
  fn : FuncId
  rd : Option Nat

inductive Job where
  | code (c : Code) (cx : Cx) (s : St)
  | op (all : List Oper) (o : Oper) (s : St)
  | call (f : AV) (args : List AV) (H : Heap)

inductive Out where
  | st (e : AExit) (s : St)
  | val (v : AV) (H : Heap)

abbrev Ext := FuncId → Option (List AV → Option AV)

noncomputable def callOf (op : Op) : Option (Operand × Array Operand) := match op with
  | .call c => Callee.casesOn c.callee (fun f => some (f, c.args)) (fun _ _ => none) (fun _ => none)
  | _ => none

/-- What a read comes to over a heap. -/
noncomputable def readA (tm : Tm) (H : Heap) (op : Op) : Option AV := (opA P (envOf tm) H op).bind fun p => some p.1

/-- A read comes to the same ahead of a write and behind it (the read's frame; the heaps ahead of the write and behind it). -/
noncomputable def sameRead (ops : List Oper) (o ow : Oper) (so sw sw' : St) : Bool :=
  !wantedA ops so.tm o || !wantedA ops sw.tm ow || optBeq (readA P so.tm sw.hp o.op) (readA P so.tm sw'.hp o.op)

noncomputable def resA (tm : Tm) (H : Heap) (x : ResultVar) : Option AV :=
  ResultVar.casesOn x (fun t => tget tm t) (fun a t => (tget tm a).bind fun p => asPtr p fun id off => oLoad P H t id off)
noncomputable def resultsA (tm : Tm) (H : Heap) (l : List ResultVar) : Option (List AV) :=
  List.rec (some []) (fun x _ ih => (resA P tm H x).bind fun v => ih.bind fun vs => some (v :: vs)) l

noncomputable def takeA (l : List Nat) (H : Heap) : Option Heap :=
  List.rec (fun H => some H) (fun i _ ih H => (H.get i).bind fun o => AObj.casesOn o (fun _ _ _ _ _ => none) (fun _ _ => none) (fun _ _ _ _ => none) (fun _ _ _ _ _ _ _ _ _ => none)
    (fun t => cond t none (ih (H.put i (.defr true)))) none) l H

noncomputable def one (vs : List AV) : AV := List.casesOn vs (.tup []) fun v r => List.casesOn r v fun w r => .tup (v :: w :: r)

noncomputable def setArgs (ts : List Tmp) (vs : List AV) (s : St) : Option St :=
  List.rec (fun vs s => List.casesOn vs (some s) fun _ _ => none) (fun t _ ih vs s => List.casesOn vs none fun v vs => (s.put (some t) v s.hp).bind (ih vs)) ts vs s

noncomputable def fillTm (l : List AV) (i : Nat) (t : Tm) : Tm :=
  List.rec (fun _ t => t) (fun v _ ih i t => ih (Nat.succ i) (t.put i v)) l i t

noncomputable def loopOf (H : Heap) (id : Nat) {α : Type} (k : LoopState → Option Code → FuncId → Tm → Nat → List Tmp → Code → Code → Nat → Option α) : Option α :=
  (H.get id).bind fun o => AObj.casesOn o (fun _ _ _ _ _ => none) (fun _ _ => none) (fun _ _ _ _ => none) k (fun _ => none) none

/-- How a round ends: the loop's state, the jump that waits, what yield tells. -/
def AExit.jump : AExit → Option Code
  | .normal => none
  | .exit id => some (.exit id)
  | .ret => some .ret
def AExit.go : AExit → Bool
  | .normal => true
  | _ => false
def AExit.state : AExit → LoopState
  | .normal => .ready
  | _ => .done

/-- Values that name nothing in memory. -/
def plainN : AV → Bool
  | .bool _ | .int _ _ | .str _ | .nilp | .nils | .nilm | .nilf | .nili => true
  | _ => false
def plainM : AV → Bool
  | .agg l | .tup l => l.all plainN
  | v => plainN v
def plainC : AV → Bool
  | .agg l | .tup l => l.all plainM
  | v => plainN v

/-- The machine's runs, as a relation. -/
inductive Ev (P : Program) (X : Ext) : Job → Out → Prop
  | skip {cx s} : Ev P X (.code .skip cx s) (.st .normal s)
  | label {l cx s} : Ev P X (.code (.label l) cx s) (.st .normal s)
  | seqN {a b cx s s' o} : Ev P X (.code a cx s) (.st .normal s') → Ev P X (.code b cx s') o → Ev P X (.code (.seq a b) cx s) o
  | seqX {a b cx s s' e} : Ev P X (.code a cx s) (.st e s') → e ≠ .normal → Ev P X (.code (.seq a b) cx s) (.st e s')
  | condT {c a b cx s o} : envOf s.tm c = some (.bool true) → Ev P X (.code a cx s) o → Ev P X (.code (.cond c a b) cx s) o
  | condF {c a b cx s o} : envOf s.tm c = some (.bool false) → Ev P X (.code b cx s) o → Ev P X (.code (.cond c a b) cx s) o
  | blockN {id b cx s s'} : Ev P X (.code b cx s) (.st .normal s') → Ev P X (.code (.block id b) cx s) (.st .normal s')
  | blockE {id b cx s s'} : Ev P X (.code b cx s) (.st (.exit id) s') → Ev P X (.code (.block id b) cx s) (.st .normal s')
  | blockX {id id' b cx s s'} : Ev P X (.code b cx s) (.st (.exit id') s') → id' ≠ id → Ev P X (.code (.block id b) cx s) (.st (.exit id') s')
  | blockR {id b cx s s'} : Ev P X (.code b cx s) (.st .ret s') → Ev P X (.code (.block id b) cx s) (.st .ret s')
  | loopN {b cx s s' o} : Ev P X (.code b cx s) (.st .normal s') → Ev P X (.code (.loop b) cx s') o → Ev P X (.code (.loop b) cx s) o
  | loopX {b cx s s' e} : Ev P X (.code b cx s) (.st e s') → e ≠ .normal → Ev P X (.code (.loop b) cx s) (.st e s')
  | scope {b cx s e s'} : Ev P X (.code b cx s) (.st e s') → Ev P X (.code (.scope b) cx s) (.st e s')
  | exit {id cx s} : Ev P X (.code (.exit id) cx s) (.st (.exit id) s)
  | ret {cx s} : Ev P X (.code .ret cx s) (.st .ret s)
  | region {id : Nat} {ops : Array Oper} {draw : Bool} {cx : Cx} (ss : Nat → St)
      (steps : ∀ i o, ops.toList[i]? = some o → Ev P X (.op ops.toList o (ss i)) (.st .normal (ss (i + 1))))
      (apart : draw = true → regOk P ops.toList = true ∧ ∀ p ∈ confl P ops.toList, ∀ o ow, ops.toList[p.1]? = some o → ops.toList[p.2]? = some ow →
        sameRead P ops.toList o ow (ss p.1) (ss p.2) (ss (p.2 + 1)) = true) :
      Ev P X (.code (.region id ops draw) cx (ss 0)) (.st .normal (ss ops.toList.length))
  | opSkip {all o s s'} : wantedA all s.tm o = false → s.put o.dst undefA s.hp = some s' → Ev P X (.op all o s) (.st .normal s')
  | opPlain {all o s v H s'} : wantedA all s.tm o = true → callOf o.op = none → opA P (envOf s.tm) s.hp o.op = some (v, H) → s.put o.dst v H = some s' → Ev P X (.op all o s) (.st .normal s')
  | opCall {all o s f args fv as v H s'} : wantedA all s.tm o = true → callOf o.op = some (f, args) → envOf s.tm f = some fv → argsA (envOf s.tm) args.toList = some as →
      Ev P X (.call fv as s.hp) (.val v H) → s.put o.dst v H = some s' → Ev P X (.op all o s) (.st .normal s')
  | fnExt {f first cap args H g v} : X f = some g → g (first ++ args ++ cap) = some v → Ev P X (.call (.func f first cap) args H) (.val v H)
  | fnBody {f first cap args H fn c e s vs H'} : X f = none → P.funcs[f]? = some fn → fn.body = some c → fn.ntmps ≤ 256 → (first ++ args ++ cap).length ≤ fn.ntmps →
      Ev P X (.code c ⟨f, none⟩ ⟨fillTm (first ++ args ++ cap) 0 Tm.none, fn.ntmps, [], H⟩) (.st e s) → (∀ id, e ≠ .exit id) →
      takeA s.df s.hp = some H' → resultsA P s.tm H' fn.results.toList = some vs → Ev P X (.call (.func f first cap) args H) (.val (one vs) H')
  | closed {f first cap args H v H0} : X f = none → (first ++ args ++ cap).all plainC = true → plainC v = true → Ev P X (.call (.func f [] []) (first ++ args ++ cap) ⟨.e, 0⟩) (.val v H0) → Ev P X (.call (.func f first cap) args H) (.val v H)
  | range {f ps as bd cx s fv H1 d mark v H3 st pending fn' tm' sz' ps' as' bd' d'} :
      envOf s.tm f = some fv →
      ((cx.rd = none ∧ H1 = s.hp.add (.defr false) ∧ d = s.hp.next ∧ mark = [s.hp.next]) ∨
       (∃ l st0 pe0 fn0 tm0 sz0 ps0 as0 bd0, cx.rd = some l ∧ s.hp.get l = some (.loop st0 pe0 fn0 tm0 sz0 ps0 as0 bd0 d) ∧ H1 = s.hp ∧ mark = [])) →
      Ev P X (.call fv [.yield H1.next] (H1.add (.loop .ready none cx.fn s.tm s.sz ps.toList as bd d))) (.val v H3) →
      H3.get H1.next = some (.loop st pending fn' tm' sz' ps' as' bd' d') → st ≠ .busy → pending = none →
      Ev P X (.code (.rangeFunc f ps as bd) cx s) (.st .normal ⟨s.tm, s.sz, mark ++ s.df, H3.put H1.next (.loop .exhausted pending fn' tm' sz' ps' as' bd' d')⟩)
  | rangeJ {f ps as bd cx s fv H1 d mark v H3 st j fn' tm' sz' ps' as' bd' d' o} :
      envOf s.tm f = some fv →
      ((cx.rd = none ∧ H1 = s.hp.add (.defr false) ∧ d = s.hp.next ∧ mark = [s.hp.next]) ∨
       (∃ l st0 pe0 fn0 tm0 sz0 ps0 as0 bd0, cx.rd = some l ∧ s.hp.get l = some (.loop st0 pe0 fn0 tm0 sz0 ps0 as0 bd0 d) ∧ H1 = s.hp ∧ mark = [])) →
      Ev P X (.call fv [.yield H1.next] (H1.add (.loop .ready none cx.fn s.tm s.sz ps.toList as bd d))) (.val v H3) →
      H3.get H1.next = some (.loop st (some j) fn' tm' sz' ps' as' bd' d') → st ≠ .busy →
      Ev P X (.code j cx ⟨s.tm, s.sz, mark ++ s.df, H3.put H1.next (.loop .exhausted (some j) fn' tm' sz' ps' as' bd' d')⟩) o →
      Ev P X (.code (.rangeFunc f ps as bd) cx s) o
  | yield {l args H st0 pe0 fn tm sz ps as bd d s0 s1 pe1 fn1 tm1 sz1 ps1 as1 bd1 d1 e s2 st2 pe2 fn2 tm2 sz2 ps2 as2 bd2 d2} :
      H.get l = some (.loop st0 pe0 fn tm sz ps as bd d) → setArgs ps args ⟨tm, sz, [], H⟩ = some s0 →
      Ev P X (.code as ⟨fn, some l⟩ s0) (.st .normal s1) →
      s1.hp.get l = some (.loop .ready pe1 fn1 tm1 sz1 ps1 as1 bd1 d1) →
      Ev P X (.code bd ⟨fn, some l⟩ ⟨s1.tm, s1.sz, s1.df, s1.hp.put l (.loop .busy pe1 fn1 tm1 sz1 ps1 as1 bd1 d1)⟩) (.st e s2) →
      s2.hp.get l = some (.loop st2 pe2 fn2 tm2 sz2 ps2 as2 bd2 d2) →
      Ev P X (.call (.yield l) args H) (.val (.bool e.go) (s2.hp.put l (.loop e.state e.jump fn2 tm2 sz2 ps2 as2 bd2 d2)))

end Go.AM
