/-
  Operations over values: the words that stepped-through code is written in.
-/
import Derived.Test.YtdjlpdboochkhaaGreatAmSxOk
set_option linter.unusedVariables false
namespace Go.AM

noncomputable def xPick (c a b : AV) (H : Heap) : R := ret H (asB c fun c => some (cond c a b))
noncomputable def xAlloc (P : Program) (t : TypeId) (H : Heap) : R := (zeroOf P t).bind fun z => newRowA H z.cells
noncomputable def xBox (v : AV) (H : Heap) : R := newRowA H v.cells
noncomputable def xBuild (P : Program) (t : TypeId) (l : List (Nat × AV)) (H : Heap) : R := ret H (buildA P t l)
noncomputable def xBuildSlice (P : Program) (t : TypeId) (n : Nat) (l : List (Nat × AV)) (H : Heap) : R :=
  (und P t).bind fun u => asSlice u fun e => (szOf P e).bind fun s => (zeroOf P e).bind fun z => bslc H n z.cells s l
noncomputable def xPut (P : Program) (t : TypeId) (m k v : AV) (H : Heap) : R := (und P t).bind fun u => asMapT u fun kt _ => mapPutA P H m k v kt
noncomputable def xLoad (P : Program) (t : TypeId) (v : AV) (H : Heap) : R := asPtr v fun id off => ret H (oLoad P H t id off)
noncomputable def xStore (P : Program) (t : TypeId) (p v : AV) (H : Heap) : R := asPtr p fun id off => oStore P H t id off v
noncomputable def xNil (v : AV) (H : Heap) : R := ret H (nilChk v)
noncomputable def xBin (P : Program) (op : BinOp) (t : TypeId) (a b : AV) (H : Heap) : R := ret H (binA P op t a b)
noncomputable def xUn (op : UnOp) (a : AV) (H : Heap) : R := ret H (unA op a)
noncomputable def xConv (P : Program) (s d : TypeId) (v : AV) (H : Heap) : R := (und P s).bind fun us => (und P d).bind fun ud => oConvert P H s d us ud v
noncomputable def xS2ap (P : Program) (t : TypeId) (v : AV) (H : Heap) : R := (und P t).bind fun u => (match u with | .array n _ => cond (Nat.beq n 0) none (ret H (s2ap n v)) | _ => none)
noncomputable def xMkIf (P : Program) (t : TypeId) (v : AV) (H : Heap) : R := (und P t).bind fun u => ret H (mkIf t u v)
noncomputable def xMkMap (P : Program) (t : TypeId) (r : Option AV) (H : Heap) : R := (und P t).bind fun u => asMapT u fun _ _ => Option.casesOn r (mkMap H) fun v => asI v fun _ => mkMap H
noncomputable def xMkSlice (P : Program) (t : TypeId) (l c : AV) (H : Heap) : R := (und P t).bind fun u => asSlice u fun e => oMakeSlice P H e l c
noncomputable def xOptI (x : Option AV) {α : Type} (k : Option Int → Option α) : Option α := Option.casesOn x (k none) fun v => asI v fun n => k (some n)
noncomputable def xSlice (P : Program) (t : TypeId) (v : AV) (lo hi mx : Option AV) (H : Heap) : R :=
  (und P t).bind fun u => xOptI lo fun lo => xOptI hi fun hi => xOptI mx fun mx => ret H (oSlice P H u v lo hi mx)
noncomputable def xFieldAddr (P : Program) (t : TypeId) (i : Nat) (v : AV) (H : Heap) : R := (und P t).bind fun u => asStruct u fun fs => asPtr v fun id off => ret H (fAddr P fs i id off)
noncomputable def xField (P : Program) (t : TypeId) (i : Nat) (v : AV) (H : Heap) : R := (und P t).bind fun u => asStruct u fun fs => asAg v fun cs => (lget fs.toList i).bind fun fd => ret H (partA P fd.type cs fd.offset)
noncomputable def xIndexAddr (P : Program) (t : TypeId) (v i : AV) (H : Heap) : R := (und P t).bind fun u => asI i fun i => ret H (oIndexAddr P u v i)
noncomputable def xIndex (P : Program) (t : TypeId) (v i : AV) (H : Heap) : R := (und P t).bind fun u => asI i fun i => ret H (oIndex P u v i)
noncomputable def xLookup (P : Program) (t : TypeId) (m k : AV) (ok : Bool) (H : Heap) : R := (und P t).bind fun u => asMapT u fun kt et => ret H (lookupA P H m k ok kt et)
noncomputable def xRange (P : Program) (t : TypeId) (v : AV) (H : Heap) : R := (und P t).bind fun u => asMapT u fun _ _ => oRange H v
noncomputable def xNext (v : AV) (H : Heap) : R := asPtr v fun id off => cond (Nat.beq off 0) (oNext H id) none
noncomputable def xEntry (v : AV) (H : Heap) : R := asPtr v fun id off => cond (Nat.beq off 0) (oEntry H id) none
noncomputable def xExtract (v : AV) (i : Nat) (H : Heap) : R := asTup v fun l => ret H (lget l i)
noncomputable def xLen (P : Program) (t : TypeId) (v : AV) (H : Heap) : R := (und P t).bind fun u => ret H (lenA H u v)
noncomputable def xCap (P : Program) (t : TypeId) (v : AV) (H : Heap) : R := (und P t).bind fun u => ret H (capA u v)
noncomputable def xMin (l : List AV) (H : Heap) : R := List.casesOn l none fun x r => ret H (foldA minA r x)
noncomputable def xMax (l : List AV) (H : Heap) : R := List.casesOn l none fun x r => ret H (foldA maxA r x)
noncomputable def xAppend (P : Program) (t u : TypeId) (s x : AV) (H : Heap) : R := (und P t).bind fun ud => asSlice ud fun e => (isZeros P #[t, u]).bind fun z => appendA P H e z s x
noncomputable def xCopy (P : Program) (t : TypeId) (a b : AV) (H : Heap) : R := (und P t).bind fun u => asSlice u fun e => (szOf P e).bind fun s => cond (Nat.beq s 0) none (copyA H s a b)
noncomputable def xDelete (P : Program) (t : TypeId) (m k : AV) (H : Heap) : R := (und P t).bind fun u => asMapT u fun kt _ => mapDelA P H m k kt
noncomputable def xClear (P : Program) (t : TypeId) (x : AV) (H : Heap) : R := (und P t).bind fun u => oClear P H u x

/-- A result: a value, or what a cell holds. -/
inductive RV where
  | t (v : AV)
  | c (a : AV) (ty : TypeId)
noncomputable def xRv (P : Program) (H : Heap) (x : RV) : Option AV := @RV.rec (fun _ => Option AV) (fun v => some v) (fun a t => asPtr a fun id off => oLoad P H t id off) x
noncomputable def xEnd (P : Program) (l : List RV) (H : Heap) : R :=
  (@List.rec RV (fun _ => Option (List AV)) (some []) (fun x _ ih => (xRv P H x).bind fun v => ih.bind fun vs => some (v :: vs)) l).bind fun vs => some (one vs, H)

/-- Of code: its parts. -/
def sL : Code → Code | .seq a _ => a | c => c
def sR : Code → Code | .seq _ b => b | c => c
def cT : Code → Code | .cond _ a _ => a | c => c
def cE : Code → Code | .cond _ _ b => b | c => c
def bB : Code → Code | .block _ b => b | .loop b => b | .scope b => b | c => c
def rO : Code → List Oper | .region _ ops _ => ops.toList | _ => []

theorem loop_live {α β : Type} (π : β → α) (bF : (β → Heap → Prop) → β → Heap → Prop) (bT : (α → Heap → Prop) → α → Heap → Prop)
    (h : ∀ k f H, bF (fun f H => k (π f) H) f H = bT k (π f) H) (f : β) (H : Heap) : loopP bF f H = loopP bT (π f) H := by
  have key : ∀ n f H, (@Nat.rec (fun _ => β → Heap → Prop) (fun _ _ => False) (fun _ ih => bF ih) n) f H = (@Nat.rec (fun _ => α → Heap → Prop) (fun _ _ => False) (fun _ ih => bT ih) n) (π f) H := by
    intro n
    induction n with
    | zero => intro f H; rfl
    | succ n ih =>
      intro f H
      show bF (@Nat.rec (fun _ => β → Heap → Prop) (fun _ _ => False) (fun _ ih => bF ih) n) f H = bT (@Nat.rec (fun _ => α → Heap → Prop) (fun _ _ => False) (fun _ ih => bT ih) n) (π f) H
      rw [show (@Nat.rec (fun _ => β → Heap → Prop) (fun _ _ => False) (fun _ ih => bF ih) n) = (fun f H => (@Nat.rec (fun _ => α → Heap → Prop) (fun _ _ => False) (fun _ ih => bT ih) n) (π f) H) from funext fun f => funext fun H => ih f H]
      exact h _ f H
  unfold loopP
  exact propext ⟨fun ⟨n, hn⟩ => ⟨n, (key n f H).mp hn⟩, fun ⟨n, hn⟩ => ⟨n, (key n f H).mpr hn⟩⟩

theorem boolS_congr (v : AV) {a b c d : Prop} (h : a = c) (k : b = d) : boolS v a b = boolS v c d := by rw [h, k]

/-- A loop: what holds ahead of each round, and something that falls. -/
theorem loopP_inv {α : Type} {body : (α → Heap → Prop) → α → Heap → Prop} (I : Nat → α → Heap → Prop) (step : ∀ n a H, I n a H → ∀ k, (∀ m, m < n → ∀ a' H', I m a' H' → k a' H') → body k a H) :
    ∀ n a H, I n a H → loopP body a H := by
  have key : ∀ n m, n < m → ∀ a H, I n a H → (@Nat.rec (fun _ => α → Heap → Prop) (fun _ _ => False) (fun _ ih => body ih) m) a H := by
    intro n
    induction n using Nat.strongRecOn with
    | ind n ih =>
      intro m hm a H hI
      cases m with
      | zero => omega
      | succ m => exact step n a H hI _ fun j hj a' H' hI' => ih j hj m (by omega) a' H' hI'
  exact fun n a H h => ⟨n + 1, key n (n + 1) (by omega) a H h⟩

end Go.AM
