/-
  The machine's code as a predicate transformer over frames that are functions: what a proof for all inputs steps through. (No ranges over functions here; regions that draw their order have no reads and writes that no edge orders.)
-/
import Derived.Test.YtdjlpdboochkhaaGreatAmTop
set_option linter.unusedVariables false
namespace Go.AM
open Go.RowKit

abbrev FrF := Nat → AV
def upd (f : FrF) (d : Nat) (v : AV) : FrF := fun i => cond (Nat.beq i d) v (f i)
noncomputable def putd (f : FrF) (o : Option Tmp) (v : AV) : FrF := @Option.rec Nat (fun _ => FrF) f (fun d => upd f d v) o

noncomputable def valS (f : FrF) (x : Operand) : AV :=
  @Operand.rec (fun _ => AV) (fun t => f t) (fun v => @Option.rec AV (fun _ => AV) undefA (fun a => a) (ofV v)) (fun _ => undefA) (fun g => .func g [] []) x
def okX (x : Operand) : Bool := match x with
  | .tmp t => Nat.ble (Nat.succ t) 256
  | .const v => (ofV v).isSome
  | .global _ => false
  | .func _ => true
noncomputable def envV (f : FrF) : Env := fun x => some (valS f x)

abbrev HK := AV → Heap → Prop
abbrev FP := AV → List AV → Heap → HK → Prop
abbrev PK := FrF → Heap → Prop

/-- An operation's outcome is handed on. -/
noncomputable def OS2 (r : R) (k : HK) : Prop := @Option.rec (AV × Heap) (fun _ => Prop) False (fun p => @Prod.rec AV Heap (fun _ => Prop) (fun v H => k v H) p) r
theorem OS2_some (v : AV) (H : Heap) (k : HK) : OS2 (some (v, H)) k = k v H := rfl
theorem OS2_ex {r : R} {k : HK} (h : OS2 r k) : ∃ v H, r = some (v, H) ∧ k v H := by
  cases r with
  | none => cases h
  | some p => exact ⟨p.1, p.2, rfl, h⟩

/-- A truth value decides. -/
def boolS (v : AV) (t e : Prop) : Prop := match v with
  | .bool true => t
  | .bool false => e
  | _ => False
/-- A guard decides. -/
def guardS (want : Bool) (v : AV) (t e : Prop) : Prop := match v with
  | .bool b => cond (b == want) t e
  | _ => e

variable (P : Program) (X : Ext)

/-- A call comes to an end of which this holds. -/
def WF (f : AV) (args : List AV) (H : Heap) (Q : HK) : Prop := ∃ v H', Ev P X (.call f args H) (.val v H') ∧ Q v H'

noncomputable def opS (op : Op) (f : FrF) (H : Heap) (k : HK) : Prop := match op with
  | .move x => k (valS f x) H
  | .assign x => k (valS f x) H
  | op => OS2 (opA P (envV f) H op) k

noncomputable def workS (o : Oper) (f : FrF) (H : Heap) (k : HK) : Prop := match callOf o.op with
  | none => opS P o.op f H k
  | some (c, args) => WF P X (valS f c) (args.toList.map (valS f)) H k

noncomputable def stepsU (l : List Oper) : FrF → Heap → PK → Prop :=
  @List.rec Oper (fun _ => FrF → Heap → PK → Prop) (fun f H k => k f H) (fun o _ ih f H k => workS P X o f H fun v H => ih (putd f o.dst v) H k) l

def guardIs (q : Nat × Bool) (o : Oper) : Bool := match o.guard with
  | some (g, b) => Nat.beq g q.1 && b == q.2
  | none => false
noncomputable def takeG (q : Nat × Bool) (l : List Oper) : List Oper :=
  @List.rec Oper (fun _ => List Oper) [] (fun o _ ih => cond (guardIs q o) (o :: ih) []) l
noncomputable def dropG (q : Nat × Bool) (l : List Oper) : List Oper :=
  @List.rec Oper (fun _ => List Oper) [] (fun o l ih => cond (guardIs q o) ih (o :: l)) l
noncomputable def undefs (l : List Oper) (f : FrF) : FrF := @List.rec Oper (fun _ => FrF → FrF) (fun f => f) (fun o _ ih f => ih (putd f o.dst undefA)) l f

def opDst (all : List Oper) (g : Nat) : Option Tmp := match all[g]? with
  | some o => o.dst
  | none => none

def modeIs (m : Option (Nat × Bool)) (o : Oper) : Bool := match m with
  | none => false
  | some q => guardIs q o

/-- Operations, those behind one guard together (m: a guard whose operations are done already). -/
noncomputable def stepsS (all l : List Oper) : Option (Nat × Bool) → FrF → Heap → PK → Prop :=
  @List.rec Oper (fun _ => Option (Nat × Bool) → FrF → Heap → PK → Prop) (fun _ f H k => k f H) (fun o l ih m f H k => @Bool.rec (fun _ => Prop)
    (match o.guard with
      | none => workS P X o f H fun v H => ih none (putd f o.dst v) H k
      | some q => match opDst all q.1 with
        | none => False
        | some d => guardS q.2 (f d) (stepsU P X (o :: takeG q l) f H fun f H => ih (some q) f H k) (ih (some q) (undefs (o :: takeG q l) f) H k))
    (ih m f H k) (modeIs m o)) l

inductive Item where
  | ops (all l : List Oper)
  | code (c : Code)

/-- A loop: as many rounds as it takes. -/
def loopP {α : Type} (body : (α → Heap → Prop) → α → Heap → Prop) (f : α) (H : Heap) : Prop :=
  ∃ n, (@Nat.rec (fun _ => α → Heap → Prop) (fun _ _ => False) (fun _ ih => body ih) n) f H

noncomputable def evP (c : Code) : PK → (Nat → PK) → PK → PK :=
  @Code.rec (fun _ => PK → (Nat → PK) → PK → PK)
    (fun kn _ _ => kn)
    (fun _ ops _ kn _ _ f H => stepsS P X ops.toList ops.toList none f H kn)
    (fun _ _ iha ihb kn kx kr => iha (fun f H => ihb kn kx kr f H) kx kr)
    (fun c _ _ iha ihb kn kx kr f H => boolS (valS f c) (iha kn kx kr f H) (ihb kn kx kr f H))
    (fun id _ ih kn kx kr => ih kn (fun id' f H => cond (Nat.beq id' id) (kn f H) (kx id' f H)) kr)
    (fun _ ih _ kx kr f H => loopP (fun k f H => ih k kx kr f H) f H)
    (fun _ _ _ _ _ _ _ _ _ _ _ => False)
    (fun id _ kx _ => kx id)
    (fun _ ih => ih)
    (fun _ kn _ _ => kn)
    (fun _ _ _ _ _ _ => False)
    (fun _ _ kr => kr)
    (fun _ _ _ _ _ _ => False)
    c

noncomputable def evI (i : Item) (kn : PK) (kx : Nat → PK) (kr : PK) : PK :=
  @Item.rec (fun _ => PK) (fun all l f H => stepsS P X all l none f H kn) (fun c => evP P X c kn kx kr) i
noncomputable def runI (l : List Item) (kn : PK) (kx : Nat → PK) (kr : PK) : PK :=
  @List.rec Item (fun _ => PK) kn (fun i _ ih => evI P X i (fun f H => ih f H) kx kr) l

/-- A block's exit. -/
def xk (id : Nat) (k : PK) (kx : Nat → PK) : Nat → PK := fun id' f H => cond (Nat.beq id' id) (k f H) (kx id' f H)
def nk : Nat → PK := fun _ _ _ => False

/-! ### What may be stepped through so -/
noncomputable def okO (sz : Nat) (all : List Oper) (o : Oper) : Bool :=
  o.op.operands.toList.all okX && (match o.dst with | none => true | some d => Nat.ble (Nat.succ d) sz) && (match callOf o.op with | none => true | some (c, args) => okX c && args.toList.all okX) &&
  (match o.guard with | none => true | some q => (match opDst all q.1 with | none => false | some d => Nat.ble (Nat.succ d) 256))
/-- A guard's own place is not written behind it. -/
def okG (all l : List Oper) : Bool := l.all fun o => match o.guard with
  | none => true
  | some q => match opDst all q.1 with
    | none => false
    | some d => l.all fun o' => !guardIs q o' || (match o'.dst with | none => true | some e => !(Nat.beq e d))
noncomputable def okR (sz : Nat) (l : List Oper) (draw : Bool) : Bool := l.all (okO sz l) && okG l l && (!draw || (regOk P l && (confl P l).isEmpty))
noncomputable def okC (sz : Nat) (c : Code) : Bool :=
  @Code.rec (fun _ => Bool) true (fun _ ops draw => okR P sz ops.toList draw) (fun _ _ a b => a && b) (fun c _ _ a b => okX c && a && b) (fun _ _ a => a) (fun _ a => a) (fun _ _ _ _ _ _ => false) (fun _ => true) (fun _ a => a) (fun _ => true) (fun _ => false) true (fun _ => false) c

end Go.AM
