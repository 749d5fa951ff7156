/-
  The fast evaluator: code, calls.
-/
import Derived.Test.YtdjlpdboochkhaaGreatAmFx
set_option linter.unusedVariables false
namespace Go.AM

abbrev FK := AV → List AV → Heap → VK → Bool
/-- A step: an operation and where its value goes. -/
abbrev StepT := FK → Tm → Heap → (Tm → Heap → Bool) → Bool
abbrev KK := Tm → List Nat → Heap → Bool
abbrev CodeT := FK → Nat → Cx → KK → (Nat → KK) → KK → Tm → List Nat → Heap → Bool
abbrev ArgsT := Tm → (List AV → Bool) → Bool
abbrev FnT := FK → Nat → List AV → Heap → VK → Bool
abbrev TrT := FK → List Nat → Tm → Heap → List St → (List St → Tm → Heap → Bool) → Bool

noncomputable def argsK (l : List Operand) : Bx ArgsT :=
  @List.rec Operand (fun _ => Bx ArgsT) (.mk fun _ k => k []) (fun x _ ih => @Bx.rec _ (fun _ => Bx ArgsT) (fun f => @Bx.rec _ (fun _ => Bx ArgsT) (fun g =>
    .mk fun tm k => f tm fun v => g tm fun vs => k (v :: vs)) ih) (rdK x)) l

noncomputable def guardC (want : Bool) (v : AV) (t e : Bool) : Bool :=
  @AV.rec (fun _ => Bool) (fun _ => Bool) (fun b => @Bool.rec (fun _ => Bool) (@Bool.rec (fun _ => Bool) t e want) (@Bool.rec (fun _ => Bool) e t want) b) (fun kd n => e) (fun _ => e) (fun _ _ => e) e (fun _ _ _ _ => e) (fun _ _ _ => e) e (fun _ => e) e (fun _ _ _ _ _ => e) (fun _ => e) e (fun _ _ _ => e) e (fun _ _ => e) (fun _ _ => e) e (fun _ _ _ _ => e) v

variable (P : Program) (X : Ext) (Y : Sums)

noncomputable def workK (sz : Nat) (o : Oper) : Bx StepT := match callOf o.op with
  | none => @Bx.rec _ (fun _ => Bx StepT) (fun f => @Bx.rec _ (fun _ => Bx StepT) (fun p => .mk fun F tm H k => f tm H fun v H => p tm v fun tm => k tm H) (dstK sz o.dst)) (opK P o.op)
  | some (c, args) => @Bx.rec _ (fun _ => Bx StepT) (fun fc => @Bx.rec _ (fun _ => Bx StepT) (fun fa => @Bx.rec _ (fun _ => Bx StepT) (fun p =>
      .mk fun F tm H k => fc tm fun fv => fa tm fun as => F fv as H fun v H => p tm v fun tm => k tm H) (dstK sz o.dst)) (argsK args.toList)) (rdK c)

noncomputable def stepK (sz : Nat) (all : List Oper) (o : Oper) : Bx StepT := match o.guard with
  | none => workK P sz o
  | some (g, want) => (match (lget all g).bind fun o => o.dst with
    | none => .mk fun _ _ _ _ => false
    | some d => @Bool.rec (fun _ => Bx StepT) (.mk fun _ _ _ _ => false) (@Bx.rec _ (fun _ => Bx StepT) (fun f => @Bx.rec _ (fun _ => Bx StepT) (fun w => @Bx.rec _ (fun _ => Bx StepT) (fun p =>
        .mk fun F tm H k => f tm fun v => guardC want v (w F tm H k) (p tm undefA fun tm => k tm H)) (dstK sz o.dst)) (workK P sz o)) (selK d)) (Nat.ble (Nat.succ d) 256))

noncomputable def stepsK (sz : Nat) (all l : List Oper) : Bx StepT :=
  @List.rec Oper (fun _ => Bx StepT) (.mk fun _ tm H k => k tm H) (fun o _ ih => @Bx.rec _ (fun _ => Bx StepT) (fun f => @Bx.rec _ (fun _ => Bx StepT) (fun g =>
    .mk fun F tm H k => f F tm H fun tm H => g F tm H k) ih) (stepK P sz all o)) l

noncomputable def traceK (sz : Nat) (all l : List Oper) : Bx TrT :=
  @List.rec Oper (fun _ => Bx TrT) (.mk fun _ df tm H acc k => k (⟨tm, sz, df, H⟩ :: acc) tm H) (fun o _ ih => @Bx.rec _ (fun _ => Bx TrT) (fun f => @Bx.rec _ (fun _ => Bx TrT) (fun g =>
    .mk fun F df tm H acc k => f F tm H fun tm' H' => g F df tm' H' (⟨tm, sz, df, H⟩ :: acc) k) ih) (stepK P sz all o)) l

noncomputable def lrev {α : Type} (l acc : List α) : List α := @List.rec α (fun _ => List α → List α) (fun acc => acc) (fun x _ ih acc => ih (x :: acc)) l acc

noncomputable def plainRK (sz : Nat) (ops : List Oper) : Bx CodeT :=
  @Bx.rec _ (fun _ => Bx CodeT) (fun f => .mk fun F fuel cx kn kx kr tm df H => f F tm H fun tm H => kn tm df H) (stepsK P sz ops ops)
noncomputable def traceRK (sz : Nat) (ops : List Oper) (ps : List (Nat × Nat)) : Bx CodeT :=
  @Bx.rec _ (fun _ => Bx CodeT) (fun f => .mk fun F fuel cx kn kx kr tm df H => f F df tm H [] fun acc tm H =>
    @Bool.rec (fun _ => Bool) false (kn tm df H) (allB (sameOk P ops (lrev acc [])) ps)) (traceK P sz ops ops)
noncomputable def regionK (sz : Nat) (ops : List Oper) (draw : Bool) : Bx CodeT :=
  @Bool.rec (fun _ => Bx CodeT) (plainRK P sz ops) (@Bool.rec (fun _ => Bx CodeT) (.mk fun _ _ _ _ _ _ _ _ _ => false)
    (@List.rec (Nat × Nat) (fun _ => Bx CodeT) (plainRK P sz ops) (fun p ps _ => traceRK P sz ops (p :: ps)) (confl P ops)) (regOk P ops)) draw

noncomputable def isBusy (s : LoopState) (t e : Bool) : Bool := match s with
  | .busy => t
  | _ => e
noncomputable def isReady (s : LoopState) (t e : Bool) : Bool := match s with
  | .ready => t
  | _ => e
noncomputable def jumpK (c : Code) (kx : Nat → KK) (kr : KK) (tm : Tm) (df : List Nat) (H : Heap) : Bool := match c with
  | .exit id => kx id tm df H
  | .ret => kr tm df H
  | _ => false

noncomputable def rfGoK (F : FK) (sz : Nat) (ps : List Tmp) (as bd : Code) (cx : Cx) (fv : AV) (kn : KK) (kx : Nat → KK) (kr : KK) (tm : Tm) (df : List Nat) (H : Heap) (d : Nat) (mark : List Nat) : Bool :=
  addH H (.loop .ready none cx.fn tm sz ps as bd d) fun l H => F fv [.yield l] H fun _ H => getH H l fun o => loopC o fun st pend fn tm' sz' ps' as' bd' d' => isBusy st false
    (@Option.rec Code (fun _ => Bool) (setH H l (.loop .exhausted none fn tm' sz' ps' as' bd' d') fun H => kn tm (mark ++ df) H)
      (fun c => setH H l (.loop .exhausted (some c) fn tm' sz' ps' as' bd' d') fun H => jumpK c kx kr tm (mark ++ df) H) pend)

noncomputable def cC (sz : Nat) (c : Code) : Bx CodeT :=
  @Code.rec (fun _ => Bx CodeT)
    (.mk fun F fuel cx kn kx kr tm df H => kn tm df H)
    (fun _ ops draw => regionK P sz ops.toList draw)
    (fun _ _ iha ihb => @Bx.rec _ (fun _ => Bx CodeT) (fun a => @Bx.rec _ (fun _ => Bx CodeT) (fun b =>
      .mk fun F fuel cx kn kx kr tm df H => a F fuel cx (fun tm df H => b F fuel cx kn kx kr tm df H) kx kr tm df H) ihb) iha)
    (fun c _ _ iha ihb => @Bx.rec _ (fun _ => Bx CodeT) (fun f => @Bx.rec _ (fun _ => Bx CodeT) (fun a => @Bx.rec _ (fun _ => Bx CodeT) (fun b =>
      .mk fun F fuel cx kn kx kr tm df H => f tm fun v => v.boolC fun t => @Bool.rec (fun _ => Bool) (b F fuel cx kn kx kr tm df H) (a F fuel cx kn kx kr tm df H) t) ihb) iha) (rdK c))
    (fun id _ ih => @Bx.rec _ (fun _ => Bx CodeT) (fun a =>
      .mk fun F fuel cx kn kx kr tm df H => a F fuel cx kn (fun id' tm df H => @Bool.rec (fun _ => Bool) (kx id' tm df H) (kn tm df H) (Nat.beq id' id)) kr tm df H) ih)
    (fun _ ih => @Bx.rec _ (fun _ => Bx CodeT) (fun a =>
      .mk fun F fuel cx kn kx kr tm df H => @Nat.rec (fun _ => KK) (fun _ _ _ => false) (fun _ ih tm df H => a F fuel cx ih kx kr tm df H) fuel tm df H) ih)
    (fun f ps as bd _ _ => @Bx.rec _ (fun _ => Bx CodeT) (fun f =>
      .mk fun F fuel cx kn kx kr tm df H => f tm fun fv => @Option.rec Nat (fun _ => Bool) (addH H (.defr false) fun d H => rfGoK F sz ps.toList as bd cx fv kn kx kr tm df H d [d])
        (fun l => getH H l fun o => loopC o fun _ _ _ _ _ _ _ _ d => rfGoK F sz ps.toList as bd cx fv kn kx kr tm df H d []) cx.rd) (rdK f))
    (fun id => .mk fun F fuel cx kn kx kr tm df H => kx id tm df H)
    (fun _ ih => ih)
    (fun _ => .mk fun F fuel cx kn kx kr tm df H => kn tm df H)
    (fun _ => .mk fun _ _ _ _ _ _ _ _ _ => false)
    (.mk fun F fuel cx kn kx kr tm df H => kr tm df H)
    (fun _ => .mk fun _ _ _ _ _ _ _ _ _ => false)
    c

/-! ### Calls -/
abbrev ResT := Tm → Heap → (AV → Bool) → Bool
noncomputable def resK (x : ResultVar) : Bx ResT := match x with
  | .tmp t => @Bool.rec (fun _ => Bx ResT) (.mk fun _ _ _ => false) (@Bx.rec _ (fun _ => Bx ResT) (fun f => .mk fun tm _ k => f tm k) (selK t)) (Nat.ble (Nat.succ t) 256)
  | .cell a t => .mk fun tm H k => @Option.rec AV (fun _ => Bool) false k (resA P tm H (.cell a t))
abbrev RessT := Tm → Heap → (List AV → Bool) → Bool
noncomputable def ressK (l : List ResultVar) : Bx RessT :=
  @List.rec ResultVar (fun _ => Bx RessT) (.mk fun _ _ k => k []) (fun x _ ih => @Bx.rec _ (fun _ => Bx RessT) (fun f => @Bx.rec _ (fun _ => Bx RessT) (fun g =>
    .mk fun tm H k => f tm H fun v => g tm H fun vs => k (v :: vs)) ih) (resK P x)) l
noncomputable def oneK (vs : List AV) (k : AV → Bool) : Bool := @List.rec AV (fun _ => Bool) (k (.tup [])) (fun v r _ => @List.rec AV (fun _ => Bool) (k v) (fun w r _ => k (.tup (v :: w :: r))) r) vs
noncomputable def takeK (df : List Nat) (H : Heap) (k : Heap → Bool) : Bool := @List.rec Nat (fun _ => Bool) (k H) (fun d ds _ => @Option.rec Heap (fun _ => Bool) false k (takeA (d :: ds) H)) df

noncomputable def fillF (l : List AV) (i : Nat) (t : Tm) (k : Tm → Bool) : Bool :=
  @List.rec AV (fun _ => Nat → Tm → (Tm → Bool) → Bool) (fun _ t k => k t) (fun v _ ih i t k => @Bx.rec PutT (fun _ => Bool) (fun p => p t v fun t => ih (Nat.succ i) t k) (putK i)) l i t k

noncomputable def lapp (a b : List AV) : List AV := @List.rec AV (fun _ => List AV) b (fun x _ ih => x :: ih) a

noncomputable def bodyK (f : FuncId) : Bx FnT := match P.funcs[f]? with
  | none => .mk fun _ _ _ _ _ => false
  | some fn => (match fn.body with
    | none => .mk fun _ _ _ _ _ => false
    | some c => @Bool.rec (fun _ => Bx FnT) (.mk fun _ _ _ _ _ => false) (@Bx.rec _ (fun _ => Bx FnT) (fun g => @Bx.rec _ (fun _ => Bx FnT) (fun r =>
        .mk fun F fuel as H k => @Bool.rec (fun _ => Bool) false
          (fillF as 0 Tm.none fun tm => g F fuel ⟨f, none⟩ (fun tm df H => takeK df H fun H => r tm H fun vs => oneK vs fun v => k v H) (fun _ _ _ _ => false) (fun tm df H => takeK df H fun H => r tm H fun vs => oneK vs fun v => k v H) tm [] H)
          (Nat.ble (llen as) fn.ntmps)) (ressK P fn.results.toList)) (cC P fn.ntmps c)) (Nat.ble fn.ntmps 256))

noncomputable def cFn (f : FuncId) : Bx FnT := match X f with
  | some g => .mk fun _ _ as H k => @Option.rec AV (fun _ => Bool) false (fun v => k v H) (g as)
  | none => (match Y f with
    | some g => .mk fun _ _ as H k => rK (g as H) k
    | none => bodyK P f)

noncomputable def setArgsK (ts : List Tmp) (vs : List AV) (sz : Nat) (tm : Tm) (k : Tm → Bool) : Bool :=
  @List.rec Tmp (fun _ => List AV → Tm → Bool) (fun vs tm => @List.rec AV (fun _ => Bool) (k tm) (fun _ _ _ => false) vs)
    (fun t _ ih vs tm => @List.rec AV (fun _ => Bool) false (fun v vs _ => @Bx.rec PutT (fun _ => Bool) (fun p => p tm v fun tm => ih vs tm) (dstK sz (some t))) vs) ts vs tm

noncomputable def endK (l : Nat) (k : VK) (e : AExit) : KK := fun tm df H =>
  getH H l fun o => loopC o fun _ _ fn tm sz ps as bd d => setH H l (.loop e.state e.jump fn tm sz ps as bd d) fun H => k (.bool e.go) H

noncomputable def yieldK (F : FK) (fuel : Nat) (l : Nat) (args : List AV) (H : Heap) (k : VK) : Bool :=
  getH H l fun o => loopC o fun _ _ fn tm sz ps as bd _ => setArgsK ps args sz tm fun tm =>
    @Bx.rec CodeT (fun _ => Bool) (fun c => c F fuel ⟨fn, some l⟩ (fun tm df H => getH H l fun o => loopC o fun st pe fn' tm' sz' ps' as' bd' d' => isReady st
        (setH H l (.loop .busy pe fn' tm' sz' ps' as' bd' d') fun H => @Bx.rec CodeT (fun _ => Bool) (fun c => c F fuel ⟨fn, some l⟩ (endK l k .normal) (fun id => endK l k (.exit id)) (endK l k .ret) tm df H) (cC P sz bd)) false)
      (fun _ _ _ _ => false) (fun _ _ _ => false) tm [] H) (cC P sz as)

noncomputable def callK (F : FK) (fuel : Nat) : FK := fun v args H k =>
  @AV.rec (fun _ => Bool) (fun _ => Bool) (fun b => false) (fun _ _ => false) (fun _ => false) (fun i o => false) false (fun _ _ _ _ => false) (fun _ _ _ => false) false (fun _ => false) false
    (fun f first cap _ _ => @Bx.rec FnT (fun _ => Bool) (fun g => g F fuel (lapp first (lapp args cap)) H k) (cFn P X Y f))
    (fun l => yieldK P F fuel l args H k) false (fun _ _ _ => false) false (fun _ _ => false) (fun _ _ => false) false (fun _ _ _ _ => false) v

noncomputable def evF (fuel n : Nat) : FK := @Nat.rec (fun _ => FK) (fun _ _ _ _ => false) (fun _ F => callK P X Y F fuel) n

/-- Does a call come to an end that is as is asked? -/
noncomputable def runF (fuel : Nat) (f : AV) (args : List AV) (H : Heap) (k : VK) : Bool := @Bool.rec (fun _ => Bool) false true (evF P X Y fuel fuel f args H k)
noncomputable def trueF (fuel : Nat) (f : FuncId) (args : List AV) : Bool := runF P X Y fuel (.func f [] []) args ⟨.e, 0⟩ fun v _ => v.boolC fun b => b

end Go.AM
