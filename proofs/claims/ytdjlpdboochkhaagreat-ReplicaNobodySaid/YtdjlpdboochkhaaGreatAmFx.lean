/-
  A fast evaluator: operations and code are turned into closures ahead (closed terms, which the kernel keeps), everything hands on to a continuation.
-/
import Derived.Test.YtdjlpdboochkhaaGreatAmEvOk
set_option linter.unusedVariables false
namespace Go.AM

/-- A thing that is worked out once. -/
inductive Bx (α : Type) where
  | mk (v : α)
def Bx.out {α : Type} : Bx α → α
  | .mk v => v

noncomputable def S4 (α : Type) (d : Nat) : Bx (N4 α → (α → Bool) → Bool) :=
  @Nat.rec (fun _ => Bx (N4 α → (α → Bool) → Bool)) (.mk fun t k => @N4.rec α (fun _ => Bool) (fun a b c d => k a) t) (fun d _ =>
    @Nat.rec (fun _ => Bx (N4 α → (α → Bool) → Bool)) (.mk fun t k => @N4.rec α (fun _ => Bool) (fun a b c d => k b) t) (fun d _ =>
      @Nat.rec (fun _ => Bx (N4 α → (α → Bool) → Bool)) (.mk fun t k => @N4.rec α (fun _ => Bool) (fun a b c d => k c) t) (fun _ _ =>
        .mk fun t k => @N4.rec α (fun _ => Bool) (fun a b c d => k d) t) d) d) d

noncomputable def P4 (α : Type) (d : Nat) : Bx (N4 α → (α → (α → Bool) → Bool) → (N4 α → Bool) → Bool) :=
  @Nat.rec (fun _ => Bx (N4 α → (α → (α → Bool) → Bool) → (N4 α → Bool) → Bool)) (.mk fun t m k => @N4.rec α (fun _ => Bool) (fun a b c d => m a fun x => k (.mk x b c d)) t) (fun d _ =>
    @Nat.rec (fun _ => Bx (N4 α → (α → (α → Bool) → Bool) → (N4 α → Bool) → Bool)) (.mk fun t m k => @N4.rec α (fun _ => Bool) (fun a b c d => m b fun x => k (.mk a x c d)) t) (fun d _ =>
      @Nat.rec (fun _ => Bx (N4 α → (α → (α → Bool) → Bool) → (N4 α → Bool) → Bool)) (.mk fun t m k => @N4.rec α (fun _ => Bool) (fun a b c d => m c fun x => k (.mk a b x d)) t) (fun _ _ =>
        .mk fun t m k => @N4.rec α (fun _ => Bool) (fun a b c d => m d fun x => k (.mk a b c x)) t) d) d) d

abbrev SelT := Tm → (AV → Bool) → Bool
abbrev PutT := Tm → AV → (Tm → Bool) → Bool

noncomputable def selK (i : Nat) : Bx SelT :=
  @Bx.rec _ (fun _ => Bx SelT) (fun f0 => @Bx.rec _ (fun _ => Bx SelT) (fun f1 => @Bx.rec _ (fun _ => Bx SelT) (fun f2 => @Bx.rec _ (fun _ => Bx SelT) (fun f3 =>
    .mk fun t k => f0 t fun t => f1 t fun t => f2 t fun t => f3 t k)
    (S4 AV (Nat.mod i 4))) (S4 (N4 AV) (Nat.mod (Nat.div i 4) 4))) (S4 (N4 (N4 AV)) (Nat.mod (Nat.div i 16) 4))) (S4 (N4 (N4 (N4 AV))) (Nat.div i 64))

noncomputable def putK (i : Nat) : Bx PutT :=
  @Bx.rec _ (fun _ => Bx PutT) (fun f0 => @Bx.rec _ (fun _ => Bx PutT) (fun f1 => @Bx.rec _ (fun _ => Bx PutT) (fun f2 => @Bx.rec _ (fun _ => Bx PutT) (fun f3 =>
    .mk fun t v k => f0 t (fun t k => f1 t (fun t k => f2 t (fun t k => f3 t (fun _ k => k v) k) k) k) k)
    (P4 AV (Nat.mod i 4))) (P4 (N4 AV) (Nat.mod (Nat.div i 4) 4))) (P4 (N4 (N4 AV)) (Nat.mod (Nat.div i 16) 4))) (P4 (N4 (N4 (N4 AV))) (Nat.div i 64))

/-- A number is worked out. -/
noncomputable def forceN (n : Nat) (k : Nat → Bool) : Bool := @Nat.rec (fun _ => Bool) (k 0) (fun m _ => k (Nat.succ m)) n

noncomputable def rdK (x : Operand) : Bx SelT :=
  @Operand.rec (fun _ => Bx SelT) (fun t => @Bool.rec (fun _ => Bx SelT) (.mk fun _ _ => false) (selK t) (Nat.ble (Nat.succ t) 256))
    (fun v => @Option.rec AV (fun _ => Bx SelT) (.mk fun _ _ => false) (fun a => .mk fun _ k => k a) (ofV v)) (fun _ => .mk fun _ _ => false) (fun f => .mk fun _ k => k (.func f [] [])) x

noncomputable def dstK (sz : Nat) (dst : Option Tmp) : Bx PutT :=
  @Option.rec Tmp (fun _ => Bx PutT) (.mk fun t _ k => k t) (fun d => @Bool.rec (fun _ => Bx PutT) (.mk fun _ _ _ => false) (putK d) (Nat.ble (Nat.succ d) sz)) dst

/-! ### Cases of values -/
noncomputable def AV.intC (v : AV) (k : IntKind → Int → Bool) (e : Bool) : Bool :=
  @AV.rec (fun _ => Bool) (fun _ => Bool) (fun _ => e) (fun kd n => k kd n) (fun _ => e) (fun _ _ => e) e (fun _ _ _ _ => e) (fun _ _ _ => e) e (fun _ => e) e (fun _ _ _ _ _ => e) (fun _ => e) e (fun _ _ _ => e) e (fun _ _ => e) (fun _ _ => e) e (fun _ _ _ _ => e) v
noncomputable def AV.boolC (v : AV) (k : Bool → Bool) : Bool :=
  @AV.rec (fun _ => Bool) (fun _ => Bool) (fun b => k b) (fun _ _ => false) (fun _ => false) (fun _ _ => false) false (fun _ _ _ _ => false) (fun _ _ _ => false) false (fun _ => false) false (fun _ _ _ _ _ => false) (fun _ => false) false (fun _ _ _ => false) false (fun _ _ => false) (fun _ _ => false) false (fun _ _ _ _ => false) v
noncomputable def AV.ptrC (v : AV) (k : Nat → Nat → Bool) : Bool :=
  @AV.rec (fun _ => Bool) (fun _ => Bool) (fun b => false) (fun _ _ => false) (fun _ => false) (fun i o => k i o) false (fun _ _ _ _ => false) (fun _ _ _ => false) false (fun _ => false) false (fun _ _ _ _ _ => false) (fun _ => false) false (fun _ _ _ => false) false (fun _ _ => false) (fun _ _ => false) false (fun _ _ _ _ => false) v
/-- A slice: its block, place, length. -/
noncomputable def AV.slC (v : AV) (n : Bool) (k : Nat → Nat → Nat → Bool) : Bool :=
  @AV.rec (fun _ => Bool) (fun _ => Bool) (fun b => false) (fun _ _ => false) (fun _ => false) (fun i o => false) false (fun i o l _ => k i o l) (fun i o l => k i o l) n (fun _ => false) false (fun _ _ _ _ _ => false) (fun _ => false) false (fun _ _ _ => false) false (fun _ _ => false) (fun _ _ => false) false (fun _ _ _ _ => false) v
noncomputable def AV.tupC (v : AV) (k : List AV → Bool) : Bool :=
  @AV.rec (fun _ => Bool) (fun _ => Bool) (fun b => false) (fun _ _ => false) (fun _ => false) (fun i o => false) false (fun i o l _ => false) (fun i o l => false) false (fun _ => false) false (fun _ _ _ _ _ => false) (fun _ => false) false (fun _ _ _ => false) false (fun _ _ => false) (fun l _ => k l) false (fun _ _ _ _ => false) v
noncomputable def AV.cellsC (v : AV) (k : List AV → Bool) : Bool :=
  @AV.rec (fun _ => Bool) (fun _ => Bool) (fun b => k [v]) (fun _ _ => k [v]) (fun _ => k [v]) (fun i o => k [v]) (k [v]) (fun i o l _ => k [v]) (fun i o l => k [v]) (k [v]) (fun _ => k [v]) (k [v]) (fun _ _ _ _ _ => k [v]) (fun _ => k [v]) (k [v]) (fun _ _ _ => k [v]) (k [v]) (fun l _ => k l) (fun _ _ => k [v]) false (fun _ _ _ _ => false) v
noncomputable def AV.strC (v : AV) (k : List Nat → Bool) : Bool :=
  @AV.rec (fun _ => Bool) (fun _ => Bool) (fun b => false) (fun _ _ => false) (fun s => k s) (fun i o => false) false (fun i o l _ => false) (fun i o l => false) false (fun _ => false) false (fun _ _ _ _ _ => false) (fun _ => false) false (fun _ _ _ => false) false (fun _ _ => false) (fun l _ => false) false (fun _ _ _ _ => false) v

/-! ### Numbers -/
noncomputable def isKd (kt : IntKind) : Bx (IntKind → Bool) :=
  @IntKind.rec (fun _ => Bx (IntKind → Bool))
    (.mk fun k => @IntKind.rec (fun _ => Bool) true false false false false false false false k)
    (.mk fun k => @IntKind.rec (fun _ => Bool) false true false false false false false false k)
    (.mk fun k => @IntKind.rec (fun _ => Bool) false false true false false false false false k)
    (.mk fun k => @IntKind.rec (fun _ => Bool) false false false true false false false false k)
    (.mk fun k => @IntKind.rec (fun _ => Bool) false false false false true false false false k)
    (.mk fun k => @IntKind.rec (fun _ => Bool) false false false false false true false false k)
    (.mk fun k => @IntKind.rec (fun _ => Bool) false false false false false false true false k)
    (.mk fun k => @IntKind.rec (fun _ => Bool) false false false false false false false true k) kt

/-- The greatest number of a kind; of how many numbers beneath it is signed. -/
def maxN : IntKind → Nat
  | .i8 => 127 | .i16 => 32767 | .i32 => 2147483647 | .i64 => 9223372036854775807 | .u8 => 255 | .u16 => 65535 | .u32 => 4294967295 | .u64 => 18446744073709551615
/-- -(n+1) is of the kind for n at most this; none for kinds without sign. -/
def minN : IntKind → Option Nat
  | .i8 => some 127 | .i16 => some 32767 | .i32 => some 2147483647 | .i64 => some 9223372036854775807 | _ => none

abbrev WrapT := Int → (Int → Bool) → Bool
/-- A number is brought into its kind. -/
noncomputable def wrapK (kt : IntKind) : Bx WrapT :=
  @Option.rec Nat (fun _ => Bx WrapT)
    (.mk fun z k => @Int.rec (fun _ => Bool) (fun n => @Bool.rec (fun _ => Bool) (forceN (Nat.mod n (Nat.succ (maxN kt))) fun n => k (.ofNat n)) (forceN n fun n => k (.ofNat n)) (Nat.ble n (maxN kt))) (fun n => k (kt.wrap (.negSucc n))) z)
    (fun m => .mk fun z k => @Int.rec (fun _ => Bool) (fun n => @Bool.rec (fun _ => Bool) (k (kt.wrap (.ofNat n))) (forceN n fun n => k (.ofNat n)) (Nat.ble n (maxN kt)))
      (fun n => @Bool.rec (fun _ => Bool) (k (kt.wrap (.negSucc n))) (forceN n fun n => k (.negSucc n)) (Nat.ble n m)) z) (minN kt)

noncomputable def subNN (m n : Nat) (k : Int → Bool) : Bool :=
  @Bool.rec (fun _ => Bool) (k (.negSucc (Nat.pred (Nat.sub n m)))) (k (.ofNat (Nat.sub m n))) (Nat.ble n m)
noncomputable def addZ (x y : Int) (k : Int → Bool) : Bool :=
  @Int.rec (fun _ => Bool) (fun a => @Int.rec (fun _ => Bool) (fun b => k (.ofNat (Nat.add a b))) (fun b => subNN a (Nat.succ b) k) y)
    (fun a => @Int.rec (fun _ => Bool) (fun b => subNN b (Nat.succ a) k) (fun b => k (.negSucc (Nat.succ (Nat.add a b)))) y) x
noncomputable def subZ (x y : Int) (k : Int → Bool) : Bool :=
  @Int.rec (fun _ => Bool) (fun a => @Int.rec (fun _ => Bool) (fun b => subNN a b k) (fun b => k (.ofNat (Nat.succ (Nat.add a b)))) y)
    (fun a => @Int.rec (fun _ => Bool) (fun b => k (.negSucc (Nat.add a b))) (fun b => subNN b a k) y) x
noncomputable def eqZ (x y : Int) : Bool :=
  @Int.rec (fun _ => Bool) (fun a => @Int.rec (fun _ => Bool) (fun b => Nat.beq a b) (fun _ => false) y) (fun a => @Int.rec (fun _ => Bool) (fun _ => false) (fun b => Nat.beq a b) y) x
noncomputable def ltZ (x y : Int) : Bool :=
  @Int.rec (fun _ => Bool) (fun a => @Int.rec (fun _ => Bool) (fun b => Nat.ble (Nat.succ a) b) (fun _ => false) y) (fun a => @Int.rec (fun _ => Bool) (fun _ => true) (fun b => Nat.ble (Nat.succ b) a) y) x
noncomputable def leZ (x y : Int) : Bool :=
  @Int.rec (fun _ => Bool) (fun a => @Int.rec (fun _ => Bool) (fun b => Nat.ble a b) (fun _ => false) y) (fun a => @Int.rec (fun _ => Bool) (fun _ => true) (fun b => Nat.ble b a) y) x

noncomputable def boolK (b : Bool) (k : AV → Bool) : Bool := @Bool.rec (fun _ => Bool) (k (.bool false)) (k (.bool true)) b

/-- Two numbers that are not negative; else the other way. -/
noncomputable def natC (x y : Int) (e : Bool) (k : Nat → Nat → Bool) : Bool :=
  @Int.rec (fun _ => Bool) (fun a => @Int.rec (fun _ => Bool) (fun b => k a b) (fun _ => e) y) (fun _ => e) x

abbrev IntT := Int → Int → (AV → Bool) → Bool
noncomputable def slowI (op : BinOp) (kt : IntKind) (x y : Int) (k : AV → Bool) : Bool := @Option.rec AV (fun _ => Bool) false k (binInt op kt kt x y)

/-- A bit by bit operation on numbers within a kind's bits. -/
noncomputable def bitK (op : BinOp) (kt : IntKind) (g : Nat → Nat → Nat) : Bx IntT :=
  .mk fun x y k => natC x y (slowI op kt x y k) fun a b => @Bool.rec (fun _ => Bool) (slowI op kt x y k) (@Bool.rec (fun _ => Bool) (slowI op kt x y k) (@Bool.rec (fun _ => Bool) (slowI op kt x y k)
    (forceN (g a b) fun n => k (.int kt (.ofNat n))) (Nat.ble (g a b) (maxN kt))) (Nat.ble b (maxN kt))) (Nat.ble a (maxN kt))

noncomputable def intK (kt : IntKind) (op : BinOp) : Bx IntT :=
  match op with
  | .add => @Bx.rec WrapT (fun _ => Bx IntT) (fun w => .mk fun x y k => addZ x y fun z => w z fun z => k (.int kt z)) (wrapK kt)
  | .sub => @Bx.rec WrapT (fun _ => Bx IntT) (fun w => .mk fun x y k => subZ x y fun z => w z fun z => k (.int kt z)) (wrapK kt)
  | .mul => @Bx.rec WrapT (fun _ => Bx IntT) (fun w => .mk fun x y k => natC x y (slowI .mul kt x y k) fun a b => w (.ofNat (Nat.mul a b)) fun z => k (.int kt z)) (wrapK kt)
  | .quo => @Bx.rec WrapT (fun _ => Bx IntT) (fun w => .mk fun x y k => natC x y (slowI .quo kt x y k) fun a b => @Bool.rec (fun _ => Bool) (w (.ofNat (Nat.div a b)) fun z => k (.int kt z)) false (Nat.beq b 0)) (wrapK kt)
  | .rem => .mk fun x y k => natC x y (slowI .rem kt x y k) fun a b => @Bool.rec (fun _ => Bool) (forceN (Nat.mod a b) fun n => k (.int kt (.ofNat n))) false (Nat.beq b 0)
  | .and => bitK .and kt Nat.land
  | .or => bitK .or kt Nat.lor
  | .xor => bitK .xor kt Nat.xor
  | .shl => @Bx.rec WrapT (fun _ => Bx IntT) (fun w => .mk fun x y k => natC x y (slowI .shl kt x y k) fun a b => w (.ofNat (Nat.mul a (Nat.pow 2 (Nat.min b kt.bits)))) fun z => k (.int kt z)) (wrapK kt)
  | .shr => .mk fun x y k => natC x y (slowI .shr kt x y k) fun a b => forceN (Nat.div a (Nat.pow 2 (Nat.min b kt.bits))) fun n => k (.int kt (.ofNat n))
  | .eql => .mk fun x y k => boolK (eqZ x y) k
  | .neq => .mk fun x y k => @Bool.rec (fun _ => Bool) (k (.bool true)) (k (.bool false)) (eqZ x y)
  | .lss => .mk fun x y k => boolK (ltZ x y) k
  | .leq => .mk fun x y k => boolK (leZ x y) k
  | .gtr => .mk fun x y k => boolK (ltZ y x) k
  | .geq => .mk fun x y k => boolK (leZ y x) k
  | op => .mk fun x y k => slowI op kt x y k

/-! ### The heap -/
noncomputable def getH (H : Heap) (id : Nat) (k : AObj → Bool) : Bool :=
  @Heap.rec (fun _ => Bool) (fun objs _ => @Option.rec AObj (fun _ => Bool) false k (Tr.get objs id)) H
noncomputable def setH (H : Heap) (id : Nat) (o : AObj) (k : Heap → Bool) : Bool :=
  @Heap.rec (fun _ => Bool) (fun objs next => Tr.setK o objs id fun t => k ⟨t, next⟩) H
noncomputable def addH (H : Heap) (o : AObj) (k : Nat → Heap → Bool) : Bool :=
  @Heap.rec (fun _ => Bool) (fun objs next => Tr.setK o objs next fun t => forceN (Nat.succ next) fun n => k next ⟨t, n⟩) H
noncomputable def rowC (o : AObj) (k : Tr AV → Nat → Nat → List AV → Nat → Bool) : Bool :=
  @AObj.rec (fun _ => Bool) k (fun _ _ => false) (fun _ _ _ _ => false) (fun _ _ _ _ _ _ _ _ _ => false) (fun _ => false) false o
noncomputable def loopC (o : AObj) (k : LoopState → Option Code → FuncId → Tm → Nat → List Tmp → Code → Code → Nat → Bool) : Bool :=
  @AObj.rec (fun _ => Bool) (fun _ _ _ _ _ => false) (fun _ _ => false) (fun _ _ _ _ => false) k (fun _ => false) false o

noncomputable def rowAtK (t : Tr AV) (lo hi : Nat) (z : List AV) (i : Nat) (k : AV → Bool) : Bool :=
  @Bool.rec (fun _ => Bool) false (@Bool.rec (fun _ => Bool) false (@Option.rec AV (fun _ => Bool) (@Option.rec AV (fun _ => Bool) false k (lget z (Nat.mod i (llen z)))) k (Tr.get t i)) (Nat.ble (Nat.succ i) hi)) (Nat.ble lo i)
noncomputable def cellsK (t : Tr AV) (lo hi : Nat) (z : List AV) (n i : Nat) (k : List AV → Bool) : Bool :=
  @Nat.rec (fun _ => Nat → (List AV → Bool) → Bool) (fun _ k => k []) (fun _ ih i k => rowAtK t lo hi z i fun v => ih (Nat.succ i) fun vs => k (v :: vs)) n i k
noncomputable def fillK (vs : List AV) (t : Tr AV) (i : Nat) (k : Tr AV → Bool) : Bool :=
  @List.rec AV (fun _ => Tr AV → Nat → (Tr AV → Bool) → Bool) (fun t _ k => k t) (fun x _ ih t i k => Tr.setK x t i fun t => ih t (Nat.succ i) k) vs t i k
noncomputable def storeK (H : Heap) (id off : Nat) (vs : List AV) (k : Heap → Bool) : Bool :=
  getH H id fun o => rowC o fun t lo hi z g => @Bool.rec (fun _ => Bool) (@Bool.rec (fun _ => Bool) false (@Bool.rec (fun _ => Bool) false (@Bool.rec (fun _ => Bool) false
    (fillK vs t off fun t => setH H id (.row t lo hi z g) k) (allOne vs)) (Nat.ble (Nat.add off (llen vs)) hi)) (Nat.ble lo off)) false (Nat.beq g 1099511627777)

variable (P : Program)

/-- A value, and the heap behind. -/
abbrev VK := AV → Heap → Bool
/-- An operation that calls nothing. -/
abbrev OpT := Tm → Heap → VK → Bool

noncomputable def rK (r : R) (k : VK) : Bool := @Option.rec (AV × Heap) (fun _ => Bool) false (fun p => @Prod.rec AV Heap (fun _ => Bool) (fun v H => k v H) p) r
noncomputable def slowO (op : Op) : Bx OpT := .mk fun tm H k => rK (opA P (envOf tm) H op) k
noncomputable def noneO : Bx OpT := .mk fun _ _ _ => false

abbrev BinT := AV → AV → (AV → Bool) → Bool
noncomputable def binK (op : BinOp) (t : TypeId) : Bx BinT :=
  match und P t with
  | some (.int kt) => @Bx.rec IntT (fun _ => Bx BinT) (fun f => @Bx.rec _ (fun _ => Bx BinT) (fun ok =>
      @Bool.rec (fun _ => Bx BinT)
        (.mk fun a b k => a.intC (fun ka x => @Bool.rec (fun _ => Bool) false (b.intC (fun kb y => @Bool.rec (fun _ => Bool) false (f x y k) (ok kb)) false) (ok ka)) false)
        (.mk fun a b k => a.intC (fun ka x => @Bool.rec (fun _ => Bool) false (b.intC (fun _ y => f x y k) false) (ok ka)) false)
        (isShift op)) (isKd kt)) (intK kt op)
  | _ => .mk fun a b k => @Option.rec AV (fun _ => Bool) false k (binA P op t a b)

/-- A row of cells, made ahead. -/
noncomputable def rowBx (cs : List AV) : Bx AObj :=
  @List.rec AV (fun _ => Tr AV → Nat → Bx AObj) (fun t n => .mk (.row t 0 n [] 0)) (fun x _ ih t i => Tr.setK x t i fun t => ih t (Nat.succ i)) cs .e 0

noncomputable def lenK (u : Option TypeDesc) (b : Bx SelT) (op : Op) : Bx OpT := match u with
  | some (.slice _) => @Bx.rec _ (fun _ => Bx OpT) (fun f => .mk fun tm H k => f tm fun v => v.slC (k (goI 0) H) fun _ _ n => k (goI n) H) b
  | some .string => @Bx.rec _ (fun _ => Bx OpT) (fun f => .mk fun tm H k => f tm fun v => v.strC fun s => forceN (llen s) fun n => k (goI n) H) b
  | _ => slowO P op

noncomputable def builtinK (c : Call) (b : Builtin) : Bx OpT := match b with
  | .len => (match c.args.toList with
    | [x] => lenK P (ty0 P c.argTypes) (rdK x) (.call c)
    | _ => slowO P (.call c))
  | _ => slowO P (.call c)

/-- An operation that calls nothing, ahead. -/
noncomputable def opK (op : Op) : Bx OpT :=
  match op with
  | .move x => @Bx.rec _ (fun _ => Bx OpT) (fun f => .mk fun tm H k => f tm fun v => k v H) (rdK x)
  | .assign x => @Bx.rec _ (fun _ => Bx OpT) (fun f => .mk fun tm H k => f tm fun v => k v H) (rdK x)
  | .pick c a b => @Bx.rec _ (fun _ => Bx OpT) (fun fc => @Bx.rec _ (fun _ => Bx OpT) (fun fa => @Bx.rec _ (fun _ => Bx OpT) (fun fb =>
      .mk fun tm H k => fc tm fun c => fa tm fun a => fb tm fun b => c.boolC fun c => @Bool.rec (fun _ => Bool) (k b H) (k a H) c) (rdK b)) (rdK a)) (rdK c)
  | .binOp op t x y _ => @Bx.rec _ (fun _ => Bx OpT) (fun fx => @Bx.rec _ (fun _ => Bx OpT) (fun fy => @Bx.rec _ (fun _ => Bx OpT) (fun g =>
      .mk fun tm H k => fx tm fun a => fy tm fun b => g a b fun v => k v H) (binK P op t)) (rdK y)) (rdK x)
  | .unOp .not _ x => @Bx.rec _ (fun _ => Bx OpT) (fun f => .mk fun tm H k => f tm fun v => v.boolC fun b => @Bool.rec (fun _ => Bool) (k (.bool true) H) (k (.bool false) H) b) (rdK x)
  | .load t x => @Bx.rec _ (fun _ => Bx OpT) (fun f => @Option.rec Bool (fun _ => Bx OpT) noneO (fun ag => @Bool.rec (fun _ => Bx OpT)
      (.mk fun tm H k => f tm fun v => v.ptrC fun id off => getH H id fun o => rowC o fun t lo hi z _ => rowAtK t lo hi z off fun v => k v H)
      (@Option.rec Nat (fun _ => Bx OpT) noneO (fun n => .mk fun tm H k => f tm fun v => v.ptrC fun id off => getH H id fun o => rowC o fun t lo hi z _ => cellsK t lo hi z n off fun vs => k (.agg vs) H) (szOf P t)) ag)
      (aggO P t)) (rdK x)
  | .store t x v => @Bx.rec _ (fun _ => Bx OpT) (fun fx => @Bx.rec _ (fun _ => Bx OpT) (fun fv => @Option.rec Nat (fun _ => Bx OpT) noneO (fun n =>
      .mk fun tm H k => fx tm fun p => fv tm fun v => p.ptrC fun id off => v.cellsC fun vs => @Bool.rec (fun _ => Bool) false (storeK H id off vs fun H => k undefA H) (Nat.beq (llen vs) n)) (szOf P t)) (rdK v)) (rdK x)
  | .nilCheck x => @Bx.rec _ (fun _ => Bx OpT) (fun f => .mk fun tm H k => f tm fun v => @Option.rec AV (fun _ => Bool) false (fun v => k v H) (nilChk v)) (rdK x)
  | .fieldAddr t x i => (match und P t with
    | some (.struct fs) => (match lget fs.toList i with
      | some fd => (match szOf P fd.type with
        | some 0 => noneO
        | some _ => @Bx.rec _ (fun _ => Bx OpT) (fun f => .mk fun tm H k => f tm fun v => v.ptrC fun id off => forceN (Nat.add off fd.offset) fun o => k (.ptr id o) H) (rdK x)
        | none => noneO)
      | none => noneO)
    | _ => noneO)
  | .indexAddr t x y => (match und P t with
    | some (.slice e) => (match szOf P e with
      | some s => @Bx.rec _ (fun _ => Bx OpT) (fun fx => @Bx.rec _ (fun _ => Bx OpT) (fun fy => .mk fun tm H k => fx tm fun v => fy tm fun i => i.intC (fun _ i =>
          @Int.rec (fun _ => Bool) (fun n => v.slC false fun id off len => @Bool.rec (fun _ => Bool) false (forceN (Nat.add off (Nat.mul n s)) fun o => k (.ptr id o) H) (Nat.ble (Nat.succ n) len)) (fun _ => false) i) false) (rdK y)) (rdK x)
      | none => noneO)
    | _ => slowO P (.indexAddr t x y))
  | .extract x i => @Bx.rec _ (fun _ => Bx OpT) (fun f => .mk fun tm H k => f tm fun v => v.tupC fun l => @Option.rec AV (fun _ => Bool) false (fun v => k v H) (lget l i)) (rdK x)
  | .alloc t => @Option.rec AV (fun _ => Bx OpT) noneO (fun z => @Bool.rec (fun _ => Bx OpT) noneO (@Bx.rec _ (fun _ => Bx OpT) (fun o => .mk fun _ H k => addH H o fun id H => k (.ptr id 0) H) (rowBx z.cells)) (allOne z.cells)) (zeroOf P t)
  | .call c => (match c.callee with
    | .builtin b => builtinK P c b
    | _ => noneO)
  | op => slowO P op

end Go.AM
