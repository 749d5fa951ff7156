/-
  An evaluator: when it comes to an end, the abstract machine does.
-/
import Derived.Test.YtdjlpdboochkhaaGreatAmTop
set_option linter.unusedVariables false
namespace Go.AM

/-- What a piece of code comes to. -/
abbrev CO := Option (AExit × St)
/-- Calls, with less fuel. -/
abbrev FC := AV → List AV → Heap → R

/-- Summaries of functions: what a call comes to. -/
abbrev Sums := FuncId → Option (List AV → Heap → R)

variable (P : Program) (X : Ext) (Y : Sums)

noncomputable def optR {α β : Type} (x : Option α) (k : α → Option β) : Option β := Option.rec none k x
noncomputable def exR {β : Type} (n : St → Option β) (x : Nat → St → Option β) (r : St → Option β) (o : CO) : Option β :=
  Option.rec none (fun p => Prod.rec (fun e s => AExit.rec (n s) (fun id => x id s) (r s) e) p) o

/-- One operation. -/
noncomputable def evOp (F : FC) (all : List Oper) (o : Oper) (s : St) : Option St :=
  Bool.rec (s.put o.dst undefA s.hp)
    (Option.rec (optR (opA P (envOf s.tm) s.hp o.op) fun p => s.put o.dst p.1 p.2)
      (fun c => optR (envOf s.tm c.1) fun fv => optR (argsA (envOf s.tm) c.2.toList) fun as => optR (F fv as s.hp) fun p => s.put o.dst p.1 p.2)
      (callOf o.op))
    (wantedA all s.tm o)

noncomputable def evOps (F : FC) (all l : List Oper) (s : St) : Option St :=
  List.rec (fun s => some s) (fun o _ ih s => optR (evOp P F all o s) ih) l s

/-- The states ahead of each operation, and behind the last. -/
noncomputable def evTr (F : FC) (all l : List Oper) (s : St) : Option (List St) :=
  List.rec (fun s => some [s]) (fun o _ ih s => optR (evOp P F all o s) fun s' => optR (ih s') fun t => some (s :: t)) l s

noncomputable def sameOk (ops : List Oper) (t : List St) (p : Nat × Nat) : Bool :=
  Option.rec false (fun o => Option.rec false (fun ow => Option.rec false (fun so => Option.rec false (fun sw => Option.rec false (fun sw' => sameRead P ops o ow so sw sw')
    (lget t (Nat.succ p.2))) (lget t p.2)) (lget t p.1)) (lget ops p.2)) (lget ops p.1)

noncomputable def allB {α : Type} (f : α → Bool) (l : List α) : Bool := List.rec true (fun x _ ih => Bool.rec false ih (f x)) l
noncomputable def lastS (t : List St) : Option St := List.rec none (fun s _ ih => Option.rec (some s) some ih) t

noncomputable def evDraw (F : FC) (ops : List Oper) (s : St) : Option St :=
  Bool.rec none (List.rec (evOps P F ops ops s) (fun p ps _ => optR (evTr P F ops ops s) fun t => Bool.rec none (lastS t) (allB (sameOk P ops t) (p :: ps))) (confl P ops)) (regOk P ops)

noncomputable def stN (o : Option St) : CO := Option.rec none (fun s => some (.normal, s)) o

noncomputable def natBeq (a b : Nat) : Bool := Nat.beq a b

noncomputable def evLoop (b : Cx → St → CO) (cx : Cx) (fuel : Nat) (s : St) : CO :=
  Nat.rec (fun _ => none) (fun _ ih s => exR ih (fun id s => some (.exit id, s)) (fun s => some (.ret, s)) (b cx s)) fuel s

noncomputable def rfEnd (j : Code → Cx → St → CO) (cx : Cx) (s : St) (mark : List Nat) (l : Nat) (H : Heap) : CO :=
  loopOf H l fun st pend fn tm sz ps as bd d => cond (st == .busy) none
    (Option.rec (some (.normal, ⟨s.tm, s.sz, mark ++ s.df, H.put l (.loop .exhausted none fn tm sz ps as bd d)⟩))
      (fun c => j c cx ⟨s.tm, s.sz, mark ++ s.df, H.put l (.loop .exhausted (some c) fn tm sz ps as bd d)⟩) pend)

noncomputable def rfGo (F : FC) (j : Code → Cx → St → CO) (cx : Cx) (s : St) (fv : AV) (ps : List Tmp) (as bd : Code) (H : Heap) (d : Nat) (mark : List Nat) : CO :=
  optR (F fv [.yield H.next] (H.add (.loop .ready none cx.fn s.tm s.sz ps as bd d))) fun p => rfEnd j cx s mark H.next p.2

noncomputable def evRange (F : FC) (j : Code → Cx → St → CO) (f : Operand) (ps : Array Tmp) (as bd : Code) (cx : Cx) (s : St) : CO :=
  optR (envOf s.tm f) fun fv => Option.rec (rfGo F j cx s fv ps.toList as bd (s.hp.add (.defr false)) s.hp.next [s.hp.next])
    (fun l => loopOf s.hp l fun _ _ _ _ _ _ _ _ d => rfGo F j cx s fv ps.toList as bd s.hp d []) cx.rd

/-- A jump that waits. -/
def jumpC (c : Code) (_ : Cx) (s : St) : CO := match c with
  | .exit id => some (.exit id, s)
  | .ret => some (.ret, s)
  | _ => none

noncomputable def evC (F : FC) (fuel : Nat) (c : Code) : Cx → St → CO :=
  @Code.rec (fun _ => Cx → St → CO)
    (fun _ s => some (.normal, s))
    (fun _ ops draw _ s => stN (Bool.rec (evOps P F ops.toList ops.toList s) (evDraw P F ops.toList s) draw))
    (fun _ _ iha ihb cx s => exR (ihb cx) (fun id s => some (.exit id, s)) (fun s => some (.ret, s)) (iha cx s))
    (fun c _ _ iha ihb cx s => optR (envOf s.tm c) fun v => asB v fun t => Bool.rec (ihb cx s) (iha cx s) t)
    (fun id _ ih cx s => exR (fun s => some (.normal, s)) (fun id' s => Bool.rec (some (.exit id', s)) (some (.normal, s)) (Nat.beq id' id)) (fun s => some (.ret, s)) (ih cx s))
    (fun _ ih cx s => evLoop ih cx fuel s)
    (fun f ps as bd _ _ cx s => evRange F jumpC f ps as bd cx s)
    (fun id _ s => some (.exit id, s))
    (fun _ ih cx s => ih cx s)
    (fun _ _ s => some (.normal, s))
    (fun _ _ _ => none)
    (fun _ s => some (.ret, s))
    (fun _ _ _ => none)
    c

noncomputable def fnEnd (fn : Func) (s : St) : R :=
  optR (takeA s.df s.hp) fun H => optR (resultsA P s.tm H fn.results.toList) fun vs => some (one vs, H)

noncomputable def callFn (F : FC) (fuel : Nat) (f : FuncId) (args : List AV) (H : Heap) : R :=
  optR (P.funcs[f]?) fun fn => optR fn.body fun c => Bool.rec none (Bool.rec none
    (exR (fnEnd P fn) (fun _ _ => none) (fnEnd P fn) (evC P F fuel c ⟨f, none⟩ ⟨fillTm args 0 Tm.none, fn.ntmps, [], H⟩))
    (Nat.ble (llen args) fn.ntmps)) (Nat.ble fn.ntmps 256)

noncomputable def rdEnd (l : Nat) (e : AExit) (s : St) : R :=
  loopOf s.hp l fun _ _ fn tm sz ps as bd d => some (.bool e.go, s.hp.put l (.loop e.state e.jump fn tm sz ps as bd d))
noncomputable def rdBody (F : FC) (fuel : Nat) (l : Nat) (cx : Cx) (body : Code) (s : St) : R :=
  loopOf s.hp l fun st pe fn tm sz ps as bd d => cond (st == .ready)
    (optR (evC P F fuel body cx ⟨s.tm, s.sz, s.df, s.hp.put l (.loop .busy pe fn tm sz ps as bd d)⟩) fun p => rdEnd l p.1 p.2) none
noncomputable def callYield (F : FC) (fuel : Nat) (l : Nat) (args : List AV) (H : Heap) : R :=
  loopOf H l fun _ _ fn tm sz ps as bd _ => optR (setArgs ps args ⟨tm, sz, [], H⟩) fun s =>
    exR (rdBody P F fuel l ⟨fn, some l⟩ bd) (fun _ _ => none) (fun _ => none) (evC P F fuel as ⟨fn, some l⟩ s)

noncomputable def evCall (F : FC) (fuel : Nat) (f : AV) (args : List AV) (H : Heap) : R :=
  match f with
  | .func f first cap => Option.rec (Option.rec (callFn P F fuel f (first ++ args ++ cap) H) (fun g => g (first ++ args ++ cap) H) (Y f)) (fun g => optR (g (first ++ args ++ cap)) fun v => some (v, H)) (X f)
  | .yield l => callYield P F fuel l args H
  | _ => none

noncomputable def ev (fuel : Nat) (n : Nat) : FC := Nat.rec (fun _ _ _ => none) (fun _ F => evCall P X Y F fuel) n

noncomputable def isTrue (o : R) : Bool := Option.rec false (fun p => match p.1 with | .bool b => b | _ => false) o
/-- Does a call of a function, over the empty heap, come to 'true'? -/
noncomputable def trueB (fuel : Nat) (f : FuncId) (args : List AV) : Bool := isTrue (ev P X Y fuel fuel (.func f [] []) args ⟨.e, 0⟩)

end Go.AM
