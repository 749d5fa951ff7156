/-
  Ranges over functions, and the whole.
-/
import Derived.Test.YtdjlpdboochkhaaGreatAmRun
set_option linter.unusedVariables false
namespace Go.AM
open Go.RowKit

variable {P : Program} {B : Nat} {w0 w w' : World} {σ : Sg} {H : Heap}

theorem run_getLoop {r : Nat} {l : Loop} (h : w.heap[r]? = some (.loop l)) : (Instr.getLoop r).run P w = .ok l w := by
  have hnc : ∀ c e f, Obj.loop l ≠ .cells c e f := by intro _ _ _ e; cases e
  simp [Instr.getLoop, run_getObj h hnc]

theorem run_setLoop {r : Nat} {l : Loop} {o : Obj} (h : w.heap[r]? = some (.loop l)) : (setObj r o).run P w = .ok () (World.putObj' w r o) :=
  run_setObj h (by intro _ _ _ e; cases e)

/-- The loop's record, in our terms. -/
def loopAt (st : LoopState) (pend : Option Code) (fn : FuncId) (tmps : Array Value) (ps : List Tmp) (as bd : Code) (d : Nat) : Loop :=
  { state := st, pending := pend, fn := fn, tmps := tmps, params := ps.toArray, assign := as, body := bd, defers := d }

/-- A range begins. -/
theorem enter_run {cx : Cx} {b : Frame} {s : St} {a : Act} {ps : Array Tmp} {as bd : Code} {H1 : Heap} {d : Nat} {mark : List Nat} (hf : FrR σ cx b) (hs : SR σ s a) (hc : Conc B w0 σ s.hp w)
    (h : (cx.rd = none ∧ H1 = s.hp.add (.defr false) ∧ d = s.hp.next ∧ mark = [s.hp.next]) ∨
       (∃ l st0 pe0 fn0 tm0 sz0 ps0 as0 bd0, cx.rd = some l ∧ s.hp.get l = some (.loop st0 pe0 fn0 tm0 sz0 ps0 as0 bd0 d) ∧ H1 = s.hp ∧ mark = [])) :
    ∃ σ' w' p md, σ' H1.next = some p ∧ (Instr.enterLoop b.fn a.tmps ps as bd b.roundOf).run P w = .ok (p.b, md) w' ∧ DR σ' mark md ∧
      Conc B w0 σ' (H1.add (.loop .ready none cx.fn s.tm s.sz ps.toList as bd d)) w' ∧ Stp σ s.hp w σ' (H1.add (.loop .ready none cx.fn s.tm s.sz ps.toList as bd d)) w' := by
  obtain ⟨hfn, _, hro⟩ := hf
  have key : ∀ (σ1 : Sg) (w1 : World) (q : Pl), Le σ σ1 → Conc B w0 σ1 H1 w1 → σ1 d = some q →
      Conc B w0 (σ1.add H1.next ⟨w1.heap.size, 0, 0, 0, 0, 0⟩) (H1.add (.loop .ready none cx.fn s.tm s.sz ps.toList as bd d)) (w1.alloc (.loop (loopAt .ready none b.fn a.tmps ps.toList as bd q.b))) ∧
      Stp σ1 H1 w1 (σ1.add H1.next ⟨w1.heap.size, 0, 0, 0, 0, 0⟩) (H1.add (.loop .ready none cx.fn s.tm s.sz ps.toList as bd d)) (w1.alloc (.loop (loopAt .ready none b.fn a.tmps ps.toList as bd q.b))) := by
    intro σ1 w1 q hle hc1 hq
    refine hc1.add rfl (by simp) (fun b hb => heap_alloc_old w1 _ hb) ((below_alloc w1 _).mono hc1.size) ⟨a.tmps, q, ?_, Le.add hc1.fresh _ _ hq, (hs.1.mono hle).mono (Le.add hc1.fresh)⟩
    rw [← hfn]
    exact heap_alloc_new w1 _
  rcases h with ⟨hrd, rfl, rfl, rfl⟩ | ⟨l, st0, pe0, fn0, tm0, sz0, ps0, as0, bd0, hrd, hg, rfl, rfl⟩
  · rw [hrd] at hro
    have hro : b.roundOf = none := hro
    obtain ⟨c1, s1⟩ := hc.add (w' := w.alloc (.deferred (some []))) (p := ⟨w.heap.size, 0, 0, 0, 0, 0⟩) (o := .defr false) rfl (by simp) (fun b hb => heap_alloc_old w _ hb) ((below_alloc w _).mono hc.size) (heap_alloc_new w _)
    obtain ⟨c2, s2⟩ := key _ _ _ s1.le c1 (Sg.add_self _ _ _)
    refine ⟨_, _, _, [{ target := .collected w.heap.size, args := #[] }], Sg.add_self _ _ _, ?_, .cons (s2.le _ _ (Sg.add_self _ _ _)) .nil, c2, s1.trans s2⟩
    rw [hro]
    simp [Instr.enterLoop, loopAt]
  · rw [hrd] at hro
    obtain ⟨pl, hpl, hro⟩ := hro
    obtain ⟨tmps0, q, e1, e2, _⟩ := hc.obj l pl _ hpl hg
    obtain ⟨c2, s2⟩ := key σ w q (.refl σ) hc e2
    refine ⟨_, _, _, [], Sg.add_self _ _ _, ?_, .nil, c2, s2⟩
    rw [hro]
    simp [Instr.enterLoop, run_getLoop e1, loopAt]

theorem stepG_range {b : Frame} {a : Act} {k : List Item} {cs : List Frame} {f : Operand} {ps : Array Tmp} {as bd : Code} {l : Nat} {md : List Deferred} {w1 : World} (h : (Instr.enterLoop b.fn a.tmps ps as bd b.roundOf).run P w = .ok (l, md) w1) :
    (stepG P true { frame := b.atR a (.code (.rangeFunc f ps as bd) :: k), callers := cs, status := .running, dying := none } w).bare =
      (stepG.apply P true (b.atR { a with defers := md ++ a.defers } (.inRangeFunc l :: k)) cs none (invokes (a.eval f) #[.func (.yield l) #[] #[]]) w1).bare := by
  have he := Frame.eval_atR b a (.code (.rangeFunc f ps as bd) :: k)
  have he2 := Frame.eval_atR b { a with defers := md ++ a.defers } (.inRangeFunc l :: k)
  have e3 : ({ a with defers := md ++ a.defers } : Act).eval = a.eval := by funext x; cases x <;> rfl
  rw [e3] at he2
  simp only [Frame.atR] at he he2
  simp only [stepG, stepG.exec, Frame.atR, Sem.runT_eq, h, GStep.bare_after]
  simp only [resolve, he2]
  have e4 : Array.map a.eval #[Operand.const (Value.func (Fn.yield l) #[] #[])] = #[Value.func (Fn.yield l) #[] #[]] := by simp [Act.eval]
  rw [e4]
  rfl

theorem finish_range (b : Frame) (a : Act) (l : Nat) (k : List Item) (v : Value) : (b.atR a (.inRangeFunc l :: k)).finish v = b.atR a (.endRangeFunc l :: k) := rfl

/-- A range ends. -/
theorem endRange_step {b : Frame} {a : Act} {k : List Item} {cs : List Frame} {id : Nat} {p : Pl} {st : LoopState} {pend : Option Code} {fn : FuncId} {tm : Tm} {sz : Nat} {ps : List Tmp} {as bd : Code} {d : Nat} (hc : Conc B w0 σ H w)
    (hp : σ id = some p) (hg : H.get id = some (.loop st pend fn tm sz ps as bd d)) (hst : st ≠ .busy) :
    ∃ w', Conc B w0 σ (H.put id (.loop .exhausted pend fn tm sz ps as bd d)) w' ∧ Stp σ H w σ (H.put id (.loop .exhausted pend fn tm sz ps as bd d)) w' ∧
      step P (lone (b.atR a (.endRangeFunc p.b :: k)) cs w) = .next (lone (b.atR a ((pend.map Item.code).toList ++ k)) cs w') := by
  obtain ⟨tmps, q, h1, h2, h3⟩ := hc.obj id p _ hp hg
  have ho : OR σ (World.putObj' w p.b (.loop { state := .exhausted, pending := pend, fn := fn, tmps := tmps, params := ps.toArray, assign := as, body := bd, defers := q.b })) p (.loop .exhausted pend fn tm sz ps as bd d) :=
    ⟨tmps, q, putObj_at h1, h2, h3⟩
  obtain ⟨k1, k2⟩ := hc.putObj hp ⟨_, hg, rfl⟩ ho
  refine ⟨_, k1, k2, step_lone_go ?_⟩
  have hr : (Instr.endLoop p.b).run P w = .ok pend (World.putObj' w p.b (.loop { state := .exhausted, pending := pend, fn := fn, tmps := tmps, params := ps.toArray, assign := as, body := bd, defers := q.b })) := by
    simp [Instr.endLoop, run_getLoop h1, hst, run_setLoop h1]
  simp [stepG, stepG.exec, Frame.atR, Sem.runT_eq, hr]

theorem setArgs_run : ∀ {ps : List Tmp} {args : List AV} {s s0 : St} {ac : List Value} {a : Act}, setArgs ps args s = some s0 → SR σ s a → VRs σ args ac →
    ps.length = ac.length ∧ s0.hp = s.hp ∧ SR σ s0 { a with tmps := (ps.zip ac).foldl (fun tmps (x : Tmp × Value) => tmps.setIfInBounds x.1 x.2) a.tmps }
  | [], args, s, s0, ac, a, h, hs, hv => by
    cases args with
    | nil => cases h; cases hv; exact ⟨rfl, rfl, hs⟩
    | cons _ _ => cases h
  | t :: ps, args, s, s0, ac, a, h, hs, hv => by
    cases args with
    | nil => cases h
    | cons v vs =>
      have h : ((s.put (some t) v s.hp).bind (setArgs ps vs)) = some s0 := h
      obtain ⟨s1, h1, h2⟩ := bnd h
      obtain ⟨c, cs, rfl, hv1, hv2⟩ := hv
      have hs1 := hs.put (.refl σ) hv1 h1
      obtain ⟨e1, _, _⟩ := put_hp h1
      obtain ⟨k1, k2, k3⟩ := setArgs_run h2 hs1 hv2
      exact ⟨by simp [k1], k2.trans e1, k3⟩

theorem beginRound_run {l : Nat} {r : Loop} (h : w.heap[l]? = some (.loop r)) (hr : r.state = .ready) : (Instr.beginRound l).run P w = .ok () (World.putObj' w l (.loop { r with state := .busy })) := by
  simp [Instr.beginRound, run_getLoop h, run_setLoop h, hr]

theorem endRound_run {l : Nat} {r : Loop} {j : Option Code} (h : w.heap[l]? = some (.loop r)) : (Instr.endRound l j).run P w = .ok (.bool j.isNone) (World.putObj' w l (.loop { r with state := if j.isNone then .ready else .done, pending := j })) := by
  simp [Instr.endRound, run_getLoop h, run_setLoop h]

theorem mot_yield {l : Nat} {args : List AV} {H : Heap} {st0 : LoopState} {pe0 : Option Code} {fn : FuncId} {tm : Tm} {sz : Nat} {ps : List Tmp} {as bd : Code} {d : Nat} {s0 s1 : St} {pe1 : Option Code} {fn1 : FuncId} {tm1 : Tm} {sz1 : Nat} {ps1 : List Tmp} {as1 bd1 : Code} {d1 : Nat}
    {e : AExit} {s2 : St} {st2 : LoopState} {pe2 : Option Code} {fn2 : FuncId} {tm2 : Tm} {sz2 : Nat} {ps2 : List Tmp} {as2 bd2 : Code} {d2 : Nat}
    (h1 : H.get l = some (.loop st0 pe0 fn tm sz ps as bd d)) (h2 : setArgs ps args ⟨tm, sz, [], H⟩ = some s0) (ih1 : Mot P (.code as ⟨fn, some l⟩ s0) (.st .normal s1)) (h3 : s1.hp.get l = some (.loop .ready pe1 fn1 tm1 sz1 ps1 as1 bd1 d1))
    (ih2 : Mot P (.code bd ⟨fn, some l⟩ ⟨s1.tm, s1.sz, s1.df, s1.hp.put l (.loop .busy pe1 fn1 tm1 sz1 ps1 as1 bd1 d1)⟩) (.st e s2)) (h4 : s2.hp.get l = some (.loop st2 pe2 fn2 tm2 sz2 ps2 as2 bd2 d2)) :
    Mot P (.call (.yield l) args H) (.val (.bool e.go) (s2.hp.put l (.loop e.state e.jump fn2 tm2 sz2 ps2 as2 bd2 d2))) := by
  intro B w0 σ w fc ac fr cs hp hf ha hc
  obtain ⟨p, hpl, rfl⟩ := hf
  obtain ⟨tmps, q, e1, e2, e3⟩ := hc.obj l p _ hpl h1
  obtain ⟨k1, k2, k3⟩ := setArgs_run (a := { tmps := tmps, defers := [] }) h2 ⟨e3, .nil⟩ ha
  obtain ⟨tm', htm'⟩ : ∃ tm' : Array Value, tm' = (ps.zip ac.toList).foldl (fun tmps (x : Tmp × Value) => tmps.setIfInBounds x.1 x.2) tmps := ⟨_, rfl⟩
  have k3 : SR σ s0 { tmps := tm', defers := [] } := by rw [htm']; exact k3
  obtain ⟨b, hbdef⟩ : ∃ b : Frame, b = { (default : Frame) with fn := fn, kind := .normal, roundOf := some p.b } := ⟨_, rfl⟩
  have hb1 : b.fn = fn := by rw [hbdef]
  have hb2 : b.kind = .normal := by rw [hbdef]
  have hb3 : b.roundOf = some p.b := by rw [hbdef]
  have hround : Frame.round p.b fn tm' as bd .normal = b.atR { tmps := tm', defers := [] } [.code as, .beginRound, .code bd] := by
    unfold Frame.round Frame.atR
    rw [hb1, hb2, hb3]
  have hrun : (invokes (.func (.yield p.b) #[] #[]) ac).run P w = .ok (.round p.b fn tm' as bd) w := by
    have hz : ((ps.toArray.zip ac).foldl (fun tmps (x : Tmp × Value) => tmps.setIfInBounds x.1 x.2) tmps) = tm' := by
      rw [htm', ← Array.foldl_toList]
      simp
    have hsz : ac.size = ps.length := by simpa using k1.symm
    have : invokes (.func (.yield p.b) #[] #[]) ac = Instr.yield p.b (#[] ++ ac) := rfl
    rw [this, Array.empty_append]
    simp only [Instr.yield, Sem.run_bind, run_getLoop e1, Result.andThen_ok]
    rw [if_neg (by simp [hsz])]
    rw [← hz]
    rfl
  obtain ⟨σ1, a1, w1, m1, m2, m3, m4⟩ := ih1 B w0 b σ { tmps := tm', defers := [] } w [.beginRound, .code bd] (fr :: cs) (.code as) (.inl rfl) ⟨hb1, hb2, p, hpl, hb3⟩ k3 (by rw [k2]; exact hc)
  have hpl1 := m3.le _ _ hpl
  obtain ⟨tmps1, q1, f1, f2, f3⟩ := m2.obj l p _ hpl1 h3
  have ho1 : OR σ1 (World.putObj' w1 p.b (.loop { state := .busy, pending := pe1, fn := fn1, tmps := tmps1, params := ps1.toArray, assign := as1, body := bd1, defers := q1.b })) p (.loop .busy pe1 fn1 tm1 sz1 ps1 as1 bd1 d1) :=
    ⟨tmps1, q1, putObj_at f1, f2, f3⟩
  obtain ⟨n1, n2⟩ := m2.putObj hpl1 ⟨_, h3, rfl⟩ ho1
  obtain ⟨σ2, a2, w2, o1, o2, o3, o4⟩ := ih2 B w0 b σ1 a1 _ [] (fr :: cs) (.code bd) (.inl rfl) ⟨hb1, hb2, p, hpl1, hb3⟩ m1 n1
  have hpl2 := o3.le _ _ hpl1
  obtain ⟨tmps2, q2, g1, g2, g3⟩ := o2.obj l p _ hpl2 h4
  have hj : e.state = (if e.jump.isNone then .ready else .done) := by cases e <;> rfl
  have hgo : e.go = e.jump.isNone := by cases e <;> rfl
  have ho2 : OR σ2 (World.putObj' w2 p.b (.loop { state := if e.jump.isNone then .ready else .done, pending := e.jump, fn := fn2, tmps := tmps2, params := ps2.toArray, assign := as2, body := bd2, defers := q2.b })) p (.loop e.state e.jump fn2 tm2 sz2 ps2 as2 bd2 d2) := by
    rw [hj]
    exact ⟨tmps2, q2, putObj_at g1, g2, g3⟩
  obtain ⟨r1, r2⟩ := o2.putObj hpl2 ⟨_, h4, rfl⟩ ho2
  have hend := endRound_run (P := P) (j := e.jump) g1
  refine ⟨σ2, _, .bool e.jump.isNone, by rw [hgo]; rfl, r1, ?_, _, fr :: cs, w, apply_round hp hrun, ?_⟩
  · rw [k2] at m3
    exact (m3.trans n2).trans (o3.trans r2)
  · rw [hround]
    refine Steps.trans m4 (.head (stepR_beginRound hb3 (beginRound_run f1 rfl)) ?_)
    cases e with
    | normal => exact Steps.trans o4 (.one (stepR_round_end hb3 hb2 hend))
    | exit id =>
      obtain ⟨k', x1, x2⟩ := o4
      exact Steps.trans x2 (.one (stepR_round_exit hb3 hb2 (by rw [x1]; rfl) hend))
    | ret =>
      obtain ⟨k', x2⟩ := o4
      exact Steps.trans x2 (.one (stepR_round_ret hb3 hb2 hend))

/-- A range over a function, up to where its end is seen. -/
theorem range_mid {cx : Cx} {s : St} {f : Operand} {ps : Array Tmp} {as bd : Code} {fv v : AV} {H1 H3 : Heap} {d : Nat} {mark : List Nat} {st : LoopState} {pend : Option Code} {fn' : FuncId} {tm' : Tm} {sz' : Nat} {ps' : List Tmp} {as' bd' : Code} {d' : Nat}
    (hfv : envOf s.tm f = some fv)
    (h : (cx.rd = none ∧ H1 = s.hp.add (.defr false) ∧ d = s.hp.next ∧ mark = [s.hp.next]) ∨
       (∃ l st0 pe0 fn0 tm0 sz0 ps0 as0 bd0, cx.rd = some l ∧ s.hp.get l = some (.loop st0 pe0 fn0 tm0 sz0 ps0 as0 bd0 d) ∧ H1 = s.hp ∧ mark = []))
    (ih : Mot P (.call fv [.yield H1.next] (H1.add (.loop .ready none cx.fn s.tm s.sz ps.toList as bd d))) (.val v H3))
    (hg : H3.get H1.next = some (.loop st pend fn' tm' sz' ps' as' bd' d')) (hst : st ≠ .busy)
    {b : Frame} {a : Act} {k : List Item} {cs : List Frame} (hf : FrR σ cx b) (hs : SR σ s a) (hc : Conc B w0 σ s.hp w) :
    ∃ σ' a' w', SR σ' ⟨s.tm, s.sz, mark ++ s.df, H3.put H1.next (.loop .exhausted pend fn' tm' sz' ps' as' bd' d')⟩ a' ∧ Conc B w0 σ' (H3.put H1.next (.loop .exhausted pend fn' tm' sz' ps' as' bd' d')) w' ∧
      Stp σ s.hp w σ' (H3.put H1.next (.loop .exhausted pend fn' tm' sz' ps' as' bd' d')) w' ∧ Steps P (lone (b.atR a (.code (.rangeFunc f ps as bd) :: k)) cs w) (lone (b.atR a' ((pend.map Item.code).toList ++ k)) cs w') := by
  obtain ⟨σ1, w1, p, md, e1, e2, e3, e4, e5⟩ := enter_run (ps := ps) (as := as) (bd := bd) hf hs hc h
  have hfv' : VR σ1 fv (a.eval f) := (hs.env f fv hfv).mono e5.le
  have hy : VRs σ1 [.yield H1.next] (#[Value.func (.yield p.b) #[] #[]] : Array Value).toList := .cons ⟨p, e1, rfl⟩ .nil
  obtain ⟨σ2, w2, cv, k1, k2, k3, fr1, cs1, w1', k4, k5⟩ := ih B w0 σ1 w1 (a.eval f) #[.func (.yield p.b) #[] #[]] (b.atR { a with defers := md ++ a.defers } (.inRangeFunc p.b :: k)) cs (.inr ⟨p.b, k, rfl⟩) hfv' hy e4
  rw [finish_range] at k5
  have hp2 := k3.le _ _ e1
  obtain ⟨w3, m1, m2, m3⟩ := endRange_step (P := P) (b := b) (a := { a with defers := md ++ a.defers }) (k := k) (cs := cs) k2 hp2 hg hst
  refine ⟨σ2, { a with defers := md ++ a.defers }, w3, ⟨hs.1.mono (e5.le.trans k3.le), (e3.mono k3.le).append (hs.2.mono (e5.le.trans k3.le))⟩, m1, (e5.trans k3).trans m2, .head (step_lone_go (fr' := fr1) (cs' := cs1) (w' := w1') ?_) (k5.trans (.one m3))⟩
  rw [stepG_range e2]
  exact k4

/-- Nothing is said of any world. -/
theorem Conc.nothing (w : World) : Conc w.heap.size w (fun _ => none) ⟨.e, 0⟩ w where
  obj id p o h := by cases h
  ex id p h := by cases h
  inj i j p q h := by cases h
  blk id p h := by cases h
  next id o h := by rw [show (Heap.get ⟨.e, 0⟩ id) = none from Tr.get_e id] at h; cases h
  below := Below.refl _ _
  size := Nat.le_refl _
  ro id p t lo hi z h := by cases h

theorem plainN_VR {σ σ' : Sg} {a : AV} {v : Value} (hp : plainN a = true) (h : VR σ a v) : VR σ' a v := by
  cases a <;> first | exact h | cases hp
theorem plainNs_VR {σ σ' : Sg} : ∀ {l : List AV} {vs : List Value}, l.all plainN = true → VRs σ l vs → VRs σ' l vs
  | [], _, _, h => h
  | a :: l, _, hp, ⟨v, vs, e, h1, h2⟩ => by
    rw [List.all_cons, Bool.and_eq_true] at hp
    exact ⟨v, vs, e, plainN_VR hp.1 h1, plainNs_VR hp.2 h2⟩
theorem plainM_VR {σ σ' : Sg} {a : AV} {v : Value} (hp : plainM a = true) (h : VR σ a v) : VR σ' a v := by
  cases a with
  | agg l => obtain ⟨cs, e, h⟩ := h; exact ⟨cs, e, plainNs_VR hp h⟩
  | tup l => obtain ⟨cs, e, h⟩ := h; exact ⟨cs, e, plainNs_VR hp h⟩
  | _ => exact plainN_VR hp h
theorem plainMs_VR {σ σ' : Sg} : ∀ {l : List AV} {vs : List Value}, l.all plainM = true → VRs σ l vs → VRs σ' l vs
  | [], _, _, h => h
  | a :: l, _, hp, ⟨v, vs, e, h1, h2⟩ => by
    rw [List.all_cons, Bool.and_eq_true] at hp
    exact ⟨v, vs, e, plainM_VR hp.1 h1, plainMs_VR hp.2 h2⟩
theorem plain1_VR {σ σ' : Sg} {a : AV} {v : Value} (hp : plainC a = true) (h : VR σ a v) : VR σ' a v := by
  cases a with
  | agg l => obtain ⟨cs, e, h⟩ := h; exact ⟨cs, e, plainMs_VR hp h⟩
  | tup l => obtain ⟨cs, e, h⟩ := h; exact ⟨cs, e, plainMs_VR hp h⟩
  | _ => exact plainN_VR hp h
theorem plains_VR {σ σ' : Sg} : ∀ {l : List AV} {vs : List Value}, l.all plainC = true → VRs σ l vs → VRs σ' l vs
  | [], _, _, h => h
  | a :: l, _, hp, ⟨v, vs, e, h1, h2⟩ => by
    rw [List.all_cons, Bool.and_eq_true] at hp
    exact ⟨v, vs, e, plain1_VR hp.1 h1, plains_VR hp.2 h2⟩

/-- A closed call. -/
theorem mot_closed {f : FuncId} {first cap args : List AV} {H H0 : Heap} {v : AV} (hp : (first ++ args ++ cap).all plainC = true) (hv : plainC v = true)
    (ih : Mot P (.call (.func f [] []) (first ++ args ++ cap) ⟨.e, 0⟩) (.val v H0)) : Mot P (.call (.func f first cap) args H) (.val v H) := by
  intro B w0 σ w fc ac fr cs hpl hf ha hc
  obtain ⟨a', c', rfl, h1, h2⟩ := hf
  have hl : VRs σ (first ++ args ++ cap) (a' ++ ac ++ c').toList := by simpa using (h1.append ha).append h2
  obtain ⟨σ', w', cv, k1, k2, k3, k4⟩ := ih w.heap.size w (fun _ => none) w (.func (.func f) #[] #[]) (a' ++ ac ++ c') fr cs hpl ⟨#[], #[], rfl, rfl, rfl⟩ (plains_VR hp hl) (Conc.nothing w)
  have hsz : w.heap.size ≤ w'.heap.size := k3.size
  have hold : ∀ b, b < w.heap.size → w'.heap[b]? = w.heap[b]? := k2.below.block
  have e : invokes (.func (.func f) #[] #[]) (a' ++ ac ++ c') = invokes (.func (.func f) a' c') ac := by
    rw [invokes_func, invokes_func]; simp
  rw [e] at k4
  exact ⟨σ, w', cv, plain1_VR hv k1, hc.wider hsz hold (k2.below.mono hc.size), (Stp.refl σ H w).wider hsz hold, k4⟩

/-- The abstract machine's runs are the model's. -/
theorem ev_sound {X : Ext} (O : Ok P X) {j : Job} {o : Out} (h : Ev P X j o) : Mot P j o := by
  induction h with
  | @skip cx s =>
    intro B w0 b σ a w k cs it hit hf hs hc
    have := hit.code (by intro _ e; cases e)
    subst this
    exact ⟨σ, a, w, hs, hc, Stp.refl _ _ _, .one stepR_skip⟩
  | @label l cx s =>
    intro B w0 b σ a w k cs it hit hf hs hc
    have := hit.code (by intro _ e; cases e)
    subst this
    exact ⟨σ, a, w, hs, hc, Stp.refl _ _ _, .one stepR_label⟩
  | @seqN x y cx s s' o _ _ ih1 ih2 =>
    cases o with
    | val v H => exact ih2.elim
    | st e s2 =>
      intro B w0 b σ a w k cs it hit hf hs hc
      have := hit.code (by intro _ e; cases e)
      subst this
      obtain ⟨σ1, a1, w1, h1, h2, h3, h4⟩ := ih1 B w0 b σ a w (.code y :: k) cs (.code x) (.inl rfl) hf hs hc
      obtain ⟨σ2, a2, w2, k1, k2, k3, k4⟩ := ih2 B w0 b σ1 a1 w1 k cs (.code y) (.inl rfl) (hf.mono h3.le) h1 h2
      exact ⟨σ2, a2, w2, k1, k2, h3.trans k3, .of_steps (.head stepR_seq h4) k4⟩
  | @seqX x y cx s s' e _ hne ih1 =>
    intro B w0 b σ a w k cs it hit hf hs hc
    have := hit.code (by intro _ e; cases e)
    subst this
    obtain ⟨σ1, a1, w1, h1, h2, h3, h4⟩ := ih1 B w0 b σ a w (.code y :: k) cs (.code x) (.inl rfl) hf hs hc
    exact ⟨σ1, a1, w1, h1, h2, h3, .pass (x := .code y) (fun id => rfl) hne (.of_steps (.one stepR_seq) h4)⟩
  | @condT c x y cx s o hc0 _ ih =>
    cases o with
    | val v H => exact ih.elim
    | st e s2 =>
      intro B w0 b σ a w k cs it hit hf hs hc
      have := hit.code (by intro _ e; cases e)
      subst this
      obtain ⟨σ1, a1, w1, h1, h2, h3, h4⟩ := ih B w0 b σ a w k cs (.code x) (.inl rfl) hf hs hc
      exact ⟨σ1, a1, w1, h1, h2, h3, .of_steps (.one (stepR_cond (env_bool hs hc0))) h4⟩
  | @condF c x y cx s o hc0 _ ih =>
    cases o with
    | val v H => exact ih.elim
    | st e s2 =>
      intro B w0 b σ a w k cs it hit hf hs hc
      have := hit.code (by intro _ e; cases e)
      subst this
      obtain ⟨σ1, a1, w1, h1, h2, h3, h4⟩ := ih B w0 b σ a w k cs (.code y) (.inl rfl) hf hs hc
      exact ⟨σ1, a1, w1, h1, h2, h3, .of_steps (.one (stepR_cond (env_bool hs hc0))) h4⟩
  | @blockN id x cx s s' _ ih =>
    intro B w0 b σ a w k cs it hit hf hs hc
    have := hit.code (by intro _ e; cases e)
    subst this
    obtain ⟨σ1, a1, w1, h1, h2, h3, h4⟩ := ih B w0 b σ a w (.inBlock id :: k) cs (.code x) (.inl rfl) hf hs hc
    exact ⟨σ1, a1, w1, h1, h2, h3, .head stepR_block (Steps.trans h4 (.one stepR_inBlock))⟩
  | @blockE id x cx s s' _ ih =>
    intro B w0 b σ a w k cs it hit hf hs hc
    have := hit.code (by intro _ e; cases e)
    subst this
    obtain ⟨σ1, a1, w1, h1, h2, h3, k', h4, h5⟩ := ih B w0 b σ a w (.inBlock id :: k) cs (.code x) (.inl rfl) hf hs hc
    exact ⟨σ1, a1, w1, h1, h2, h3, .head stepR_block (Steps.trans h5 (.one (stepR_exit (by rw [h4]; simp [exitTo]))))⟩
  | @blockX id id' x cx s s' _ hne ih =>
    intro B w0 b σ a w k cs it hit hf hs hc
    have := hit.code (by intro _ e; cases e)
    subst this
    obtain ⟨σ1, a1, w1, h1, h2, h3, k', h4, h5⟩ := ih B w0 b σ a w (.inBlock id :: k) cs (.code x) (.inl rfl) hf hs hc
    exact ⟨σ1, a1, w1, h1, h2, h3, k', by rw [h4]; simp [exitTo, Ne.symm hne], .head stepR_block h5⟩
  | @blockR id x cx s s' _ ih =>
    intro B w0 b σ a w k cs it hit hf hs hc
    have := hit.code (by intro _ e; cases e)
    subst this
    obtain ⟨σ1, a1, w1, h1, h2, h3, k', h5⟩ := ih B w0 b σ a w (.inBlock id :: k) cs (.code x) (.inl rfl) hf hs hc
    exact ⟨σ1, a1, w1, h1, h2, h3, k', .head stepR_block h5⟩
  | @loopN x cx s s' o _ _ ih1 ih2 =>
    cases o with
    | val v H => exact ih2.elim
    | st e s2 =>
      intro B w0 b σ a w k cs it hit hf hs hc
      obtain ⟨σ1, a1, w1, h1, h2, h3, h4⟩ := ih1 B w0 b σ a w (.inLoop x :: k) cs (.code x) (.inl rfl) hf hs hc
      obtain ⟨σ2, a2, w2, k1, k2, k3, k4⟩ := ih2 B w0 b σ1 a1 w1 k cs (.inLoop x) (.inr ⟨x, rfl, rfl⟩) (hf.mono h3.le) h1 h2
      refine ⟨σ2, a2, w2, k1, k2, h3.trans k3, .of_steps ?_ k4⟩
      rcases hit with rfl | ⟨x', e, rfl⟩
      · exact .head stepR_loop h4
      · cases e; exact .head stepR_inLoop h4
  | @loopX x cx s s' e _ hne ih1 =>
    intro B w0 b σ a w k cs it hit hf hs hc
    obtain ⟨σ1, a1, w1, h1, h2, h3, h4⟩ := ih1 B w0 b σ a w (.inLoop x :: k) cs (.code x) (.inl rfl) hf hs hc
    refine ⟨σ1, a1, w1, h1, h2, h3, .pass (x := .inLoop x) (fun id => rfl) hne (.of_steps ?_ h4)⟩
    rcases hit with rfl | ⟨x', e, rfl⟩
    · exact .one stepR_loop
    · cases e; exact .one stepR_inLoop
  | @scope x cx s e s' _ ih =>
    intro B w0 b σ a w k cs it hit hf hs hc
    have := hit.code (by intro _ e; cases e)
    subst this
    obtain ⟨σ1, a1, w1, h1, h2, h3, h4⟩ := ih B w0 b σ a w (.inScope x :: k) cs (.code x) (.inl rfl) hf hs hc
    refine ⟨σ1, a1, w1, h1, h2, h3, .of_steps (.one stepR_scope) ?_⟩
    cases e with
    | normal => exact Steps.trans h4 (.one stepR_inScope)
    | exit id => exact h4
    | ret => exact h4
  | @exit id cx s =>
    intro B w0 b σ a w k cs it hit hf hs hc
    have := hit.code (by intro _ e; cases e)
    subst this
    exact ⟨σ, a, w, hs, hc, Stp.refl _ _ _, k, rfl, .refl _ _⟩
  | @ret cx s =>
    intro B w0 b σ a w k cs it hit hf hs hc
    have := hit.code (by intro _ e; cases e)
    subst this
    exact ⟨σ, a, w, hs, hc, Stp.refl _ _ _, k, .refl _ _⟩
  | @region id ops draw cx ss steps apart ih =>
    intro B w0 b σ a w k cs it hit hf hs hc
    have := hit.code (by intro _ e; cases e)
    subst this
    have hops : ∀ (i : Nat) (o : Oper), ops[i]? = some o → ∃ v, OpM P ops.toList o (ss i) (ss (i + 1)) v := fun i o ho => (ih i o (by simpa using ho)).2
    have hlen : ops.toList.length = ops.size := Array.length_toList
    rw [hlen]
    cases draw with
    | false => exact region_text hops hf.2.1 hs hc k cs
    | true =>
      obtain ⟨h1, h2⟩ := apart rfl
      exact region_draw O.mixed hops h1 h2 hf.2.1 hs hc k cs
  | opSkip hw hp => exact ⟨rfl, _, opM_skip hw hp⟩
  | opPlain hw hcl h hp => exact ⟨rfl, _, opM_plain hw hcl h hp⟩
  | opCall hw hcl hf has _ hp ih => exact ⟨rfl, _, opM_call hw hcl hf has ih hp⟩
  | fnExt hX hv => exact mot_ext O hX hv
  | fnBody hX hf hb hn hlen _ he ht hr ih => exact mot_body O hf hb hn hlen ih he ht hr
  | @range f ps as bd cx s fv H1 d mark v H3 st pending fn' tm' sz' ps' as' bd' d' hfv hd _ hg hst hpend ih =>
    intro B w0 b σ a w k cs it hit hf hs hc
    have := hit.code (by intro _ e; cases e)
    subst this
    subst hpend
    exact range_mid hfv hd ih hg hst hf hs hc
  | @rangeJ f ps as bd cx s fv H1 d mark v H3 st j fn' tm' sz' ps' as' bd' d' o hfv hd _ hg hst _ ih ih2 =>
    cases o with
    | val v H => exact ih2.elim
    | st e s2 =>
      intro B w0 b σ a w k cs it hit hf hs hc
      have := hit.code (by intro _ e; cases e)
      subst this
      obtain ⟨σ1, a1, w1, h1, h2, h3, h4⟩ := range_mid (k := k) (cs := cs) hfv hd ih hg hst hf hs hc
      obtain ⟨σ2, a2, w2, k1, k2, k3, k4⟩ := ih2 B w0 b σ1 a1 w1 k cs (.code j) (.inl rfl) (hf.mono h3.le) h1 h2
      exact ⟨σ2, a2, w2, k1, k2, h3.trans k3, .of_steps h4 k4⟩
  | yield h1 h2 _ h3 _ h4 ih1 ih2 => exact mot_yield h1 h2 ih1 h3 ih2 h4
  | closed _ hp hv _ ih => exact mot_closed hp hv ih

end Go.AM
