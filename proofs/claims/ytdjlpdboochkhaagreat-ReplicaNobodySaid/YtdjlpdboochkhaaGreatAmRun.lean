/-
  The abstract machine's runs are the model's.
-/
import Derived.Test.YtdjlpdboochkhaaGreatAmRegion
set_option linter.unusedVariables false
namespace Go.AM
open Go.RowKit

variable {P : Program} {B : Nat} {w0 w w' : World} {σ : Sg} {H : Heap}

/-- Where a piece of code comes to. -/
def Reach (P : Program) (m : Machine) (b : Frame) (k : List Item) (cs : List Frame) (a : Act) (w : World) : AExit → Prop
  | .normal => Steps P m (lone (b.atR a k) cs w)
  | .exit id => ∃ k', exitTo id k' = exitTo id k ∧ Steps P m (lone (b.atR a (.code (.exit id) :: k')) cs w)
  | .ret => ∃ k', Steps P m (lone (b.atR a (.code .ret :: k')) cs w)

theorem Reach.of_steps {m m1 : Machine} {b : Frame} {k : List Item} {cs : List Frame} {a : Act} {e : AExit} (h : Steps P m m1) (h' : Reach P m1 b k cs a w e) : Reach P m b k cs a w e := by
  cases e with
  | normal => exact h.trans h'
  | exit id => obtain ⟨k', h1, h2⟩ := h'; exact ⟨k', h1, h.trans h2⟩
  | ret => obtain ⟨k', h2⟩ := h'; exact ⟨k', h.trans h2⟩

/-- An item that no jump stops at. -/
theorem Reach.pass {m : Machine} {b : Frame} {x : Item} {k : List Item} {cs : List Frame} {a : Act} {e : AExit} (hx : ∀ id, exitTo id (x :: k) = exitTo id k) (hn : e = .normal → False) (h : Reach P m b (x :: k) cs a w e) : Reach P m b k cs a w e := by
  cases e with
  | normal => exact (hn rfl).elim
  | exit id => obtain ⟨k', h1, h2⟩ := h; exact ⟨k', h1.trans (hx id), h2⟩
  | ret => exact h

/-- Where a code begins. -/
def Start (c : Code) (it : Item) : Prop := it = .code c ∨ ∃ b, c = .loop b ∧ it = .inLoop b

/-- A call is entered, and comes to. -/
def Enters (P : Program) (fr : Frame) (cs : List Frame) (s : Sem Next) (w : World) (m : Machine) : Prop :=
  ∃ fr1 cs1 w1, (stepG.apply P true fr cs none s w).bare = .go { frame := fr1, callers := cs1, status := .running, dying := none } w1 ∧ Steps P (lone fr1 cs1 w1) m

def invokes (fc : Value) (ac : Array Value) : Sem Next := do let d ← Deferred.ofValue fc ac; invoke d.target d.args

def Plainly (fr : Frame) : Prop := (∃ ops i rest k, fr.todo = .inRegion ops (i :: rest) :: k) ∨ ∃ l k, fr.todo = .inRangeFunc l :: k

/-- What the abstract machine says, of the model's. -/
def Mot (P : Program) : Job → Out → Prop
  | .code c cx s, .st e s' => ∀ (B : Nat) (w0 : World) (b : Frame) (σ : Sg) (a : Act) (w : World) (k : List Item) (cs : List Frame) (it : Item), Start c it → FrR σ cx b → SR σ s a → Conc B w0 σ s.hp w →
      ∃ σ' a' w', SR σ' s' a' ∧ Conc B w0 σ' s'.hp w' ∧ Stp σ s.hp w σ' s'.hp w' ∧ Reach P (lone (b.atR a (it :: k)) cs w) b k cs a' w' e
  | .op all o s, .st e s' => e = .normal ∧ ∃ v, OpM P all o s s' v
  | .call f args H, .val v H' => ∀ (B : Nat) (w0 : World) (σ : Sg) (w : World) (fc : Value) (ac : Array Value) (fr : Frame) (cs : List Frame), Plainly fr → VR σ f fc → VRs σ args ac.toList → Conc B w0 σ H w →
      ∃ σ' w' cv, VR σ' v cv ∧ Conc B w0 σ' H' w' ∧ Stp σ H w σ' H' w' ∧ Enters P fr cs (invokes fc ac) w (lone (fr.finish cv) cs w')
  | _, _ => False

theorem stepR_scope {b : Frame} {a : Act} {k : List Item} {cs : List Frame} {c : Code} : step P (lone (b.atR a (.code (.scope c) :: k)) cs w) = .next (lone (b.atR a (.code c :: .inScope c :: k)) cs w) :=
  step_lone_go (by simp [stepG, stepG.exec, Frame.atR])
theorem stepR_inScope {b : Frame} {a : Act} {k : List Item} {cs : List Frame} {c : Code} : step P (lone (b.atR a (.inScope c :: k)) cs w) = .next (lone (b.atR a k) cs w) :=
  step_lone_go (by simp [stepG, stepG.exec, Frame.atR])

/-- A code that is no loop begins as itself. -/
theorem Start.code {c : Code} {it : Item} (h : Start c it) (hc : ∀ b, c ≠ .loop b) : it = .code c := by
  rcases h with h | ⟨b, h1, _⟩
  · exact h
  · exact absurd h1 (hc b)

theorem env_bool {s : St} {a : Act} {x : Operand} {t : Bool} (hs : SR σ s a) (h : envOf s.tm x = some (.bool t)) : a.eval x = .bool t := hs.env x _ h

theorem callOf_some {op : Op} {f : Operand} {args : Array Operand} (h : callOf op = some (f, args)) : ∃ ts, op = .call ⟨.value f, args, ts⟩ := by
  cases op <;> try (cases h; done)
  case call c =>
    obtain ⟨callee, as, ts⟩ := c
    cases callee <;> try (cases h; done)
    cases h
    exact ⟨ts, rfl⟩

theorem opM_call {all : List Oper} {o : Oper} {s s' : St} {f : Operand} {args : Array Operand} {fv v : AV} {as : List AV} {H' : Heap} (hw : wantedA all s.tm o = true) (hcl : callOf o.op = some (f, args)) (hf : envOf s.tm f = some fv)
    (has : argsA (envOf s.tm) args.toList = some as) (ih : Mot P (.call fv as s.hp) (.val v H')) (hp : s.put o.dst v H' = some s') : OpM P all o s s' v := by
  obtain ⟨e, _, _⟩ := put_hp hp
  subst e
  obtain ⟨ts, hop⟩ := callOf_some hcl
  refine ⟨hp, .inr ⟨hw, .inr (by rw [hcl]; simp)⟩, fun B w0 ops i rest b σ a w k cs h1 ho hk hr hc => ?_⟩
  subst h1
  have he := hr.env
  have hmem : ∀ x, x = f ∨ x ∈ args → x ∈ o.op.operands := by
    intro x hx
    rw [hop]
    simp only [Op.operands, Call.operands, Array.mem_append]
    rcases hx with rfl | hx
    · exact .inl (by simp)
    · exact .inr hx
  have hf' : VR σ fv (a.eval f) := he f fv (by unfold envIn; rw [if_pos (hmem f (.inl rfl))]; exact hf)
  have has' : VRs σ as (args.map a.eval).toList := by
    have : argsA (envIn s.tm o) args.toList = some as := by
      rw [← has]
      exact argsA_congr fun x hx => by unfold envIn; rw [if_pos (hmem x (.inr (by simpa using hx)))]
    simpa using argsA_VRs he this
  obtain ⟨σ', w', cv, k1, k2, k3, fr1, cs1, w1, k4, k5⟩ := ih B w0 σ w (a.eval f) (args.map a.eval) (b.atR a (.inRegion ops (i :: rest) :: k)) cs (.inl ⟨ops, i, rest, k, rfl⟩) hf' has' hc
  refine ⟨σ', w', cv, k1, k2, k3, .head (step_lone_go (fr' := fr1) (cs' := cs1) (w' := w1) ?_) ?_⟩
  rotate_left
  · have hfin := Frame.finish_atR b a ops i rest k cv
    rw [ho] at hfin
    rw [hfin] at k5
    exact k5
  · have hd : ∀ c, o.op ≠ .defer c := by rw [hop]; intro c e; cases e
    rw [stepGR_op ho (by rw [wanted_eq hr, hw]), Oper.semAt_eq _ _ _ hd]
    have : execOp a.eval o = invokes (a.eval f) (args.map a.eval) := by
      obtain ⟨dst, op, type, pos, after, guard⟩ := o
      subst hop
      rfl
    rw [this]
    exact k4

/-! ### How a function's frame ends -/

theorem take_step {id : Nat} {p : Pl} {l : List Nat} {ds : List Deferred} (hp : σ id = some p) (hg : H.get id = some (.defr false)) (hc : Conc B w0 σ H w) {fr : Frame} (hm : fr.mode = .returning) (hd : fr.defers = { target := .collected p.b, args := #[] } :: ds)
    (cs : List Frame) : Conc B w0 σ (H.put id (.defr true)) (World.putObj' w p.b (.deferred none)) ∧ Stp σ H w σ (H.put id (.defr true)) (World.putObj' w p.b (.deferred none)) ∧
      step P (lone fr cs w) = .next (lone { fr with defers := ds } cs (World.putObj' w p.b (.deferred none))) := by
  have h1 : w.heap[p.b]? = some (.deferred (some [])) := hc.obj id p _ hp hg
  have hnc : ∀ c e f, Obj.deferred (some []) ≠ .cells c e f := by intro _ _ _ e; cases e
  have ho : OR σ (World.putObj' w p.b (.deferred none)) p (.defr true) := putObj_at h1
  obtain ⟨k1, k2⟩ := hc.putObj hp ⟨_, hg, rfl⟩ ho
  refine ⟨k1, k2, step_lone_go ?_⟩
  have hr : (Instr.takeDeferred p.b).run P w = .ok [] (World.putObj' w p.b (.deferred none)) := by
    simp [Instr.takeDeferred, run_getObj h1 hnc, run_setObj h1 hnc]
  simp [stepG, unwind, hm, hd, Sem.runT_eq, hr]

theorem takes_run : ∀ {l : List Nat} {ds : List Deferred} {H H' : Heap} {w : World} {fr : Frame}, takeA l H = some H' → DR σ l ds → Conc B w0 σ H w → fr.mode = .returning → fr.defers = ds → ∀ cs : List Frame,
    ∃ w', Conc B w0 σ H' w' ∧ Stp σ H w σ H' w' ∧ Steps P (lone fr cs w) (lone { fr with defers := [] } cs w')
  | [], ds, H, H', w, fr, h, hd, hc, hm, he, cs => by
    cases h
    cases hd
    refine ⟨w, hc, Stp.refl _ _ _, ?_⟩
    rw [← he]
    exact .refl _ _
  | id :: l, ds, H, H', w, fr, h, hd, hc, hm, he, cs => by
    have h : ((H.get id).bind fun o => AObj.casesOn o (fun _ _ _ _ _ => none) (fun _ _ => none) (fun _ _ _ _ => none) (fun _ _ _ _ _ _ _ _ _ => none) (fun t => cond t none (takeA l (H.put id (.defr true)))) none) = some H' := h
    obtain ⟨o, hg, h⟩ := bnd h
    cases o <;> try (cases h; done)
    rename_i t
    obtain ⟨rfl, h⟩ := cond_none h
    cases hd with
    | @cons _ p _ ds' hp hd =>
      obtain ⟨k1, k2, k3⟩ := take_step (P := P) (l := l) hp hg hc hm he cs
      obtain ⟨w', l1, l2, l3⟩ := takes_run (fr := { fr with defers := ds' }) h hd k1 hm rfl cs
      exact ⟨w', l1, k2.trans l2, .head k3 l3⟩

def resC (tmps : Array Value) : ResultVar → Sem Value
  | .tmp t => pure (tmps.getD t undef)
  | .cell a t => do loadVar t (← asAddr (tmps.getD a undef))

theorem results_eq (fn : Func) (tmps : Array Value) : results fn tmps = (do
    let vs ← fn.results.mapM (resC tmps)
    pure (if h : vs.size = 1 then vs[0] else .tuple vs)) := by
  unfold results
  congr 1

theorem resC_run {tm : Tm} {sz : Nat} {tmps : Array Value} (ht : TR σ tm sz tmps) (hc : Conc B w0 σ H w) {x : ResultVar} {v : AV} (hv : resA P tm H x = some v) : ∃ cv, (resC tmps x).run P w = .ok cv w ∧ VR σ v cv := by
  cases x with
  | tmp t =>
    have hv : tget tm t = some v := hv
    exact ⟨tmps.getD t undef, rfl, ht.get hv⟩
  | cell a t =>
    have hv : ((tget tm a).bind fun p => asPtr p fun id off => oLoad P H t id off) = some v := hv
    obtain ⟨pv, hpv, hv⟩ := bnd hv
    obtain ⟨id, off, rfl, hv⟩ := asPtr_some hv
    have hpr := ht.get hpv
    obtain ⟨cv, l1, l2⟩ := oLoad_run (P := P) hc.rd hv hpr
    obtain ⟨p, hp, hle, e⟩ := hpr
    have l1' : (loadVar t (p.at off)).run P w = .ok cv w := by
      have : Instr.loadAt t (.pointer (some (p.at off))) = loadVar t (p.at off) := by simp [Instr.loadAt, Instr.sureAddr]
      rw [e, this] at l1
      exact l1
    refine ⟨cv, ?_, l2⟩
    show (do loadVar t (← asAddr (tmps.getD a undef)) : Sem Value).run P w = _
    rw [e]
    simp [asAddr, l1']

theorem results_run {tm : Tm} {sz : Nat} {tmps : Array Value} (ht : TR σ tm sz tmps) (hc : Conc B w0 σ H w) {fn : Func} {vs : List AV} (h : resultsA P tm H fn.results.toList = some vs) :
    ∃ cv, (results fn tmps).run P w = .ok cv w ∧ VR σ (one vs) cv := by
  have key : ∀ (l : List ResultVar) (vs : List AV), resultsA P tm H l = some vs → ∃ cvs : List Value, (l.mapM (resC tmps)).run P w = .ok cvs w ∧ VRs σ vs cvs := by
    intro l
    induction l with
    | nil => intro vs h; cases h; exact ⟨[], by simp, rfl⟩
    | cons x l ih =>
      intro vs h
      have h : ((resA P tm H x).bind fun v => (resultsA P tm H l).bind fun vs => some (v :: vs)) = some vs := h
      obtain ⟨v, hv, h⟩ := bnd h
      obtain ⟨vs', hvs, h⟩ := bnd h
      cases h
      obtain ⟨cvs, k1, k2⟩ := ih vs' hvs
      obtain ⟨cv, l1, l2⟩ := resC_run (P := P) ht hc hv
      exact ⟨cv :: cvs, by simp [List.mapM_cons, l1, k1], .cons l2 k2⟩
  obtain ⟨cvs, h1, h2⟩ := key _ _ h
  have hm : (fn.results.mapM (resC tmps)).run P w = .ok cvs.toArray w := by
    rw [Array.mapM_eq_mapM_toList]
    simp [h1]
  refine ⟨if h : cvs.toArray.size = 1 then cvs.toArray[0] else .tuple cvs.toArray, ?_, ?_⟩
  · rw [results_eq, Sem.run_bind, hm]
    rfl
  · cases vs with
    | nil => cases h2; exact ⟨#[], rfl, rfl⟩
    | cons v r =>
      obtain ⟨c, cs, rfl, h3, h4⟩ := h2
      cases r with
      | nil => cases h4; simpa [one] using h3
      | cons v2 r2 =>
        obtain ⟨c2, cs2, rfl, h5, h6⟩ := h4
        have hs : ¬ (c :: c2 :: cs2).toArray.size = 1 := by simp
        rw [dif_neg hs]
        exact ⟨_, rfl, .cons h3 (.cons h5 h6)⟩

/-! ### Calls -/

/-- What is asked of intrinsics, and of names. -/
structure Ok (P : Program) (X : Ext) : Prop where
  mixed : P.follows .mixedOrders = true
  ext : ∀ (f : Nat) (g : List AV → Option AV), X f = some g → ∀ (args : List AV) (v : AV), g args = some v → ∀ (σ : Sg) (ac : Array Value) (w : World), VRs σ args ac.toList → ∃ cv, VR σ v cv ∧ (callFunc f ac).run P w = .ok (.value cv) w
  name : ∀ (f : Nat) (fn : Func) (c : Code), P.funcs[f]? = some fn → fn.body = some c → (fn.name == "runtime.NumGoroutine") = false

theorem apply_value {fr : Frame} {cs : List Frame} {s : Sem Next} {v : Value} (h : s.run P w = .ok (.value v) w') : (stepG.apply P true fr cs none s w).bare = .go { frame := fr.finish v, callers := cs, status := .running, dying := none } w' := by
  simp [stepG.apply, Sem.runT_eq, h]

theorem Plainly.kind {fr : Frame} (h : Plainly fr) : (match fr.todo with | .call _ true _ _ :: _ => CallKind.wrapped | _ => .normal) = .normal := by
  rcases h with ⟨ops, i, rest, k, e⟩ | ⟨l, k, e⟩ <;> rw [e]

theorem apply_enter {fr : Frame} {cs : List Frame} {s : Sem Next} {f : FuncId} {args : Array Value} (hp : Plainly fr) (h : s.run P w = .ok (.enter f args) w') :
    (stepG.apply P true fr cs none s w).bare = .go { frame := Frame.enter P f args .normal, callers := fr :: cs, status := .running, dying := none } w' := by
  have := hp.kind
  rcases hp with ⟨ops, i, rest, k, e⟩ | ⟨l, k, e⟩ <;> simp [stepG.apply, Sem.runT_eq, h, e]

theorem apply_round {fr : Frame} {cs : List Frame} {s : Sem Next} {l : Nat} {f : FuncId} {tmps : Array Value} {as bd : Code} (hp : Plainly fr) (h : s.run P w = .ok (.round l f tmps as bd) w') :
    (stepG.apply P true fr cs none s w).bare = .go { frame := Frame.round l f tmps as bd .normal, callers := fr :: cs, status := .running, dying := none } w' := by
  simp [stepG.apply, Sem.runT_eq, h]

theorem invokes_func (f : FuncId) (a c ac : Array Value) : invokes (.func (.func f) a c) ac = callFunc f (a ++ ac ++ c) := rfl

theorem callFunc_enter {X : Ext} (O : Ok P X) {f : FuncId} {fn : Func} {c : Code} (hf : P.funcs[f]? = some fn) (hb : fn.body = some c) (args : Array Value) : (callFunc f args).run P w = .ok (.enter f args) w := by
  have hn : fn.name ≠ "runtime.NumGoroutine" := by simpa using O.name f fn c hf hb
  unfold callFunc
  simp [hf, hb, hn]

theorem start_TR {fn : Func} {l : List AV} {lc : Array Value} (hl : VRs σ l lc.toList) (h1 : fn.ntmps ≤ 256) (h2 : l.length ≤ fn.ntmps) : TR σ (fillTm l 0 Tm.none) fn.ntmps (lc ++ Array.replicate (fn.ntmps - lc.size) undef) := by
  have hs := hl.asize
  have hsz : (lc ++ Array.replicate (fn.ntmps - lc.size) undef).size = fn.ntmps := by simp; omega
  refine ⟨h1, by rw [hsz]; exact Nat.le_refl _, fun i hi => ?_, fun i hi => ?_⟩
  · rw [fillTm_get l 0 Tm.none i (by omega) hi]
    rw [Array.getD_eq_getD_getElem?]
    by_cases h : i < l.length
    · rw [if_pos ⟨Nat.zero_le _, by omega⟩, Array.getElem?_append_left (by omega)]
      have : l[i]? = some l[i] := List.getElem?_eq_getElem h
      obtain ⟨y, hy, hr⟩ := hl.get this
      have hy : lc[i]? = some y := by simpa using hy
      rw [hy, Nat.sub_zero, List.getD_eq_getElem?_getD, this]
      exact hr
    · rw [if_neg (by omega), Tm.get_none, Array.getElem?_append_right (by omega), Array.getElem?_replicate]
      split
      · exact ⟨_, rfl, rfl⟩
      · exact ⟨_, rfl, rfl⟩
  · rw [Array.getD_eq_getD_getElem?, Array.getElem?_eq_none (by omega)]
    rfl

theorem mot_ext {X : Ext} (O : Ok P X) {f : FuncId} {first cap args : List AV} {H : Heap} {g : List AV → Option AV} {v : AV} (hX : X f = some g) (hv : g (first ++ args ++ cap) = some v) : Mot P (.call (.func f first cap) args H) (.val v H) := by
  intro B w0 σ w fc ac fr cs hp hf ha hc
  obtain ⟨a', c', rfl, h1, h2⟩ := hf
  have hl : VRs σ (first ++ args ++ cap) (a' ++ ac ++ c').toList := by simpa using (h1.append ha).append h2
  obtain ⟨cv, k1, k2⟩ := O.ext f g hX _ v hv σ _ w hl
  exact ⟨σ, w, cv, k1, hc, Stp.refl _ _ _, _, cs, w, apply_value (by rw [invokes_func]; exact k2), .refl _ _⟩

/-- A function's frame, up to where it is left. -/
theorem body_leaves {X : Ext} (O : Ok P X) {f : FuncId} {l : List AV} {H H' : Heap} {fn : Func} {c : Code} {e : AExit} {s : St} {vs : List AV} (hf : P.funcs[f]? = some fn) (hb : fn.body = some c) (hn : fn.ntmps ≤ 256)
    (hlen : l.length ≤ fn.ntmps) (ih : Mot P (.code c ⟨f, none⟩ ⟨fillTm l 0 Tm.none, fn.ntmps, [], H⟩) (.st e s)) (he : ∀ id, e ≠ .exit id) (ht : takeA s.df s.hp = some H')
    (hr : resultsA P s.tm H' fn.results.toList = some vs) {lc : Array Value} (hl : VRs σ l lc.toList) (hc : Conc B w0 σ H w) (cs : List Frame) :
    ∃ σ' w' cv fr, VR σ' (one vs) cv ∧ Conc B w0 σ' H' w' ∧ Stp σ H w σ' H' w' ∧ Steps P (lone (Frame.enter P f lc .normal) cs w) (lone fr cs w') ∧ fr.fn = f ∧ fr.leaving P w' (.returned cv) := by
  obtain ⟨b, hbdef⟩ : ∃ b : Frame, b = { (default : Frame) with fn := f, kind := .normal } := ⟨_, rfl⟩
  have hb1 : b.fn = f := by rw [hbdef]
  have hb2 : b.kind = .normal := by rw [hbdef]
  have hb3 : b.roundOf = none := by rw [hbdef]; rfl
  have henter : Frame.enter P f lc .normal = b.atR { tmps := lc ++ Array.replicate (fn.ntmps - lc.size) undef, defers := [] } [.code c] := by
    unfold Frame.enter Frame.atR
    rw [hb1, hb2, hb3]
    simp [hf, hb]
  obtain ⟨σ1, a1, w1, k1, k2, k3, k4⟩ := ih B w0 b σ { tmps := lc ++ Array.replicate (fn.ntmps - lc.size) undef, defers := [] } w [] cs (.code c) (.inl rfl) ⟨hb1, hb2, hb3⟩
    ⟨start_TR hl hn hlen, .nil⟩ hc
  have hret : ∃ todo, Steps P (lone (b.atR { tmps := lc ++ Array.replicate (fn.ntmps - lc.size) undef, defers := [] } [.code c]) cs w) (lone { b.atR a1 todo with mode := .returning } cs w1) := by
    cases e with
    | normal => exact ⟨_, Steps.trans k4 (.one (stepR_end hb3))⟩
    | exit id => exact absurd rfl (he id)
    | ret => obtain ⟨k', k4⟩ := k4; exact ⟨_, Steps.trans k4 (.one (stepR_ret hb3))⟩
  obtain ⟨todo, hret⟩ := hret
  obtain ⟨w2, l1, l2, l3⟩ := takes_run (fr := { b.atR a1 todo with mode := .returning }) ht k1.2 k2 rfl rfl cs
  obtain ⟨cv, r1, r2⟩ := results_run (P := P) (fn := fn) k1.1 l1 hr
  refine ⟨σ1, w2, cv, { b.atR a1 todo with mode := .returning, defers := [] }, r2, l1, k3.trans l2, ?_, hb1, rfl, rfl, hb2, fn, ?_, r1⟩
  · rw [henter]
    exact hret.trans l3
  · show P.funcs[b.fn]? = some fn
    rw [hb1]; exact hf

theorem mot_body {X : Ext} (O : Ok P X) {f : FuncId} {first cap args : List AV} {H H' : Heap} {fn : Func} {c : Code} {e : AExit} {s : St} {vs : List AV} (hf : P.funcs[f]? = some fn) (hb : fn.body = some c) (hn : fn.ntmps ≤ 256)
    (hlen : (first ++ args ++ cap).length ≤ fn.ntmps) (ih : Mot P (.code c ⟨f, none⟩ ⟨fillTm (first ++ args ++ cap) 0 Tm.none, fn.ntmps, [], H⟩) (.st e s)) (he : ∀ id, e ≠ .exit id) (ht : takeA s.df s.hp = some H')
    (hr : resultsA P s.tm H' fn.results.toList = some vs) : Mot P (.call (.func f first cap) args H) (.val (one vs) H') := by
  intro B w0 σ w fc ac fr cs hp hfc ha hc
  obtain ⟨a', c', rfl, h1, h2⟩ := hfc
  have hl : VRs σ (first ++ args ++ cap) (a' ++ ac ++ c').toList := by simpa using (h1.append ha).append h2
  obtain ⟨σ', w', cv, fr', k1, k2, k3, k4, k5, k6⟩ := body_leaves O hf hb hn hlen ih he ht hr hl hc (fr :: cs)
  exact ⟨σ', w', cv, k1, k2, k3, _, fr :: cs, w, apply_enter hp (by rw [invokes_func]; exact callFunc_enter O hf hb _), k4.trans (.one (step_leave_returned k6))⟩

end Go.AM
