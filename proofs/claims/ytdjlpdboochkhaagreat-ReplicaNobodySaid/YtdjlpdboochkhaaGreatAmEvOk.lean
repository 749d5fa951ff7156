/-
  What the evaluator comes to, the abstract machine does.
-/
import Derived.Test.YtdjlpdboochkhaaGreatAmEval
set_option linter.unusedVariables false
namespace Go.AM
open Go.RowKit

variable {P : Program} {X : Ext} {Y : Sums} {F : FC} {fuel : Nat}

theorem optR_some {α β : Type} {x : Option α} {k : α → Option β} {r : β} (h : optR x k = some r) : ∃ a, x = some a ∧ k a = some r := by
  cases x with
  | none => cases h
  | some a => exact ⟨a, rfl, h⟩

theorem boolR_some {α : Type} {b : Bool} {x : Option α} {r : α} (h : (Bool.rec none x b : Option α) = some r) : b = true ∧ x = some r := by
  cases b with
  | false => cases h
  | true => exact ⟨rfl, h⟩

theorem exR_some {β : Type} {n : St → Option β} {x : Nat → St → Option β} {r : St → Option β} {o : CO} {v : β} (h : exR n x r o = some v) :
    (∃ s, o = some (.normal, s) ∧ n s = some v) ∨ (∃ id s, o = some (.exit id, s) ∧ x id s = some v) ∨ (∃ s, o = some (.ret, s) ∧ r s = some v) := by
  cases o with
  | none => cases h
  | some p =>
    obtain ⟨e, s⟩ := p
    cases e with
    | normal => exact .inl ⟨s, rfl, h⟩
    | exit id => exact .inr (.inl ⟨id, s, rfl, h⟩)
    | ret => exact .inr (.inr ⟨s, rfl, h⟩)

/-- Calls are the machine's. -/
def FOk (P : Program) (X : Ext) (F : FC) : Prop := ∀ f as H v H', F f as H = some (v, H') → Ev P X (.call f as H) (.val v H')

theorem evOp_ok (hF : FOk P X F) {all : List Oper} {o : Oper} {s s' : St} (h : evOp P F all o s = some s') : Ev P X (.op all o s) (.st .normal s') := by
  unfold evOp at h
  cases hw : wantedA all s.tm o with
  | false =>
    rw [hw] at h
    exact .opSkip hw h
  | true =>
    rw [hw] at h
    cases hc : callOf o.op with
    | none =>
      rw [hc] at h
      obtain ⟨p, hp, h2⟩ := optR_some h
      exact .opPlain hw hc hp h2
    | some c =>
      rw [hc] at h
      obtain ⟨fv, h1, h⟩ := optR_some h
      obtain ⟨as, h2, h⟩ := optR_some h
      obtain ⟨p, h3, h⟩ := optR_some h
      exact .opCall hw hc h1 h2 (hF _ _ _ _ _ h3) h

theorem evOps_ok (hF : FOk P X F) {all : List Oper} : ∀ {l : List Oper} {s s' : St}, evOps P F all l s = some s' → ∃ ss : Nat → St, ss 0 = s ∧ ss l.length = s' ∧ ∀ i o, l[i]? = some o → Ev P X (.op all o (ss i)) (.st .normal (ss (i + 1)))
  | [], s, s', h => by cases h; exact ⟨fun _ => s, rfl, rfl, fun i o h => by simp at h⟩
  | o :: l, s, s', h => by
    have h : optR (evOp P F all o s) (evOps P F all l) = some s' := h
    obtain ⟨s1, h1, h2⟩ := optR_some h
    obtain ⟨ss, k1, k2, k3⟩ := evOps_ok hF h2
    refine ⟨fun i => match i with | 0 => s | i + 1 => ss i, rfl, k2, fun i o' ho => ?_⟩
    cases i with
    | zero =>
      simp at ho
      subst ho
      show Ev P X (.op all o s) (.st .normal (ss 0))
      rw [k1]
      exact evOp_ok hF h1
    | succ i =>
      simp only [List.getElem?_cons_succ] at ho
      exact k3 i o' ho

theorem evTr_ok (hF : FOk P X F) {all : List Oper} : ∀ {l : List Oper} {s : St} {t : List St}, evTr P F all l s = some t →
    ∃ ss : Nat → St, ss 0 = s ∧ t.length = l.length + 1 ∧ (∀ i, i ≤ l.length → t[i]? = some (ss i)) ∧ ∀ i o, l[i]? = some o → Ev P X (.op all o (ss i)) (.st .normal (ss (i + 1)))
  | [], s, t, h => by
    cases h
    refine ⟨fun _ => s, rfl, rfl, fun i hi => ?_, fun i o h => by simp at h⟩
    have : i = 0 := by simpa using hi
    subst this
    rfl
  | o :: l, s, t, h => by
    have h : optR (evOp P F all o s) (fun s' => optR (evTr P F all l s') fun t => some (s :: t)) = some t := h
    obtain ⟨s1, h1, h2⟩ := optR_some h
    obtain ⟨t', h3, h4⟩ := optR_some h2
    cases h4
    obtain ⟨ss, k1, k2, k3, k4⟩ := evTr_ok hF h3
    refine ⟨fun i => match i with | 0 => s | i + 1 => ss i, rfl, by simp [k2], fun i hi => ?_, fun i o' ho => ?_⟩
    · cases i with
      | zero => rfl
      | succ i => simp only [List.getElem?_cons_succ]; exact k3 i (by simpa using hi)
    · cases i with
      | zero =>
        simp at ho
        subst ho
        show Ev P X (.op all o s) (.st .normal (ss 0))
        rw [k1]
        exact evOp_ok hF h1
      | succ i =>
        simp only [List.getElem?_cons_succ] at ho
        exact k4 i o' ho

theorem allB_all {α : Type} {f : α → Bool} : ∀ {l : List α}, allB f l = true → ∀ x ∈ l, f x = true
  | [], _, x, hx => by cases hx
  | y :: l, h, x, hx => by
    have h : (Bool.rec false (allB f l) (f y) : Bool) = true := h
    cases hy : f y with
    | false => rw [hy] at h; cases h
    | true =>
      rw [hy] at h
      cases hx with
      | head => exact hy
      | tail _ hm => exact allB_all h x hm

theorem lastS_eq : ∀ {t : List St} {s : St}, lastS t = some s → t[t.length - 1]? = some s
  | [], s, h => by cases h
  | x :: t, s, h => by
    have h : (Option.rec (some x) some (lastS t) : Option St) = some s := h
    cases t with
    | nil => cases h; rfl
    | cons y t =>
      cases hl : lastS (y :: t) with
      | none =>
        have : ∀ (t : List St) (y : St), lastS (y :: t) ≠ none := by
          intro t y e
          have e : (Option.rec (some y) some (lastS t) : Option St) = none := e
          cases hh : lastS t with
          | none => rw [hh] at e; cases e
          | some z => rw [hh] at e; cases e
        exact absurd hl (this t y)
      | some z =>
        rw [hl] at h
        cases h
        have := lastS_eq hl
        simpa using this

theorem region_ok (hF : FOk P X F) {id : Nat} {ops : Array Oper} {draw : Bool} {cx : Cx} {s : St} {p : AExit × St} (h : stN (Bool.rec (evOps P F ops.toList ops.toList s) (evDraw P F ops.toList s) draw) = some p) : Ev P X (.code (.region id ops draw) cx s) (.st p.1 p.2) := by
  have key : ∀ (d : Bool) (s' : St), (d = true → regOk P ops.toList = true ∧ confl P ops.toList = []) → evOps P F ops.toList ops.toList s = some s' → Ev P X (.code (.region id ops d) cx s) (.st .normal s') := by
    intro d s' hd h
    obtain ⟨ss, k1, k2, k3⟩ := evOps_ok hF h
    rw [← k1, ← k2]
    refine .region ss k3 fun e => ⟨(hd e).1, fun p hp => ?_⟩
    rw [(hd e).2] at hp
    cases hp
  cases hx : (Bool.rec (evOps P F ops.toList ops.toList s) (evDraw P F ops.toList s) draw : Option St) with
  | none => rw [hx] at h; cases h
  | some s' =>
    rw [hx] at h
    cases h
    cases draw with
    | false => exact key false s' (fun h => by cases h) hx
    | true =>
      obtain ⟨hr, h2⟩ := boolR_some (b := regOk P ops.toList) hx
      cases hc : confl P ops.toList with
      | nil => rw [hc] at h2; exact key true s' (fun _ => ⟨hr, hc⟩) h2
      | cons q qs =>
        rw [hc] at h2
        obtain ⟨t, ht, h3⟩ := optR_some (x := evTr P F ops.toList ops.toList s) h2
        obtain ⟨hall, h4⟩ := boolR_some h3
        obtain ⟨ss, k1, k2, k3, k4⟩ := evTr_ok hF ht
        have hlast := lastS_eq h4
        rw [k2, Nat.add_sub_cancel, k3 _ (Nat.le_refl _)] at hlast
        cases hlast
        rw [← k1]
        refine .region ss k4 fun _ => ⟨hr, fun p hp o ow ho how => ?_⟩
        rw [hc] at hp
        have hs := allB_all hall p hp
        have hl1 : p.1 < ops.toList.length := (List.getElem?_eq_some_iff.1 ho).1
        have hl2 : p.2 < ops.toList.length := (List.getElem?_eq_some_iff.1 how).1
        unfold sameOk at hs
        simp only [lget_eq, ho, how, k3 _ (Nat.le_of_lt hl1), k3 _ (Nat.le_of_lt hl2), k3 _ (show Nat.succ p.2 ≤ ops.toList.length from hl2)] at hs
        exact hs

theorem loopOf_some {H : Heap} {id : Nat} {α : Type} {k : LoopState → Option Code → FuncId → Tm → Nat → List Tmp → Code → Code → Nat → Option α} {r : α} (h : loopOf H id k = some r) :
    ∃ st pe fn tm sz ps as bd d, H.get id = some (.loop st pe fn tm sz ps as bd d) ∧ k st pe fn tm sz ps as bd d = some r := by
  obtain ⟨o, ho, h⟩ := bnd h
  cases o <;> try (cases h; done)
  exact ⟨_, _, _, _, _, _, _, _, _, ho, h⟩

theorem jump_ok {j : Code} {cx : Cx} {s : St} {p : AExit × St} (h : jumpC j cx s = some p) : Ev P X (.code j cx s) (.st p.1 p.2) := by
  cases j <;> try (cases h; done)
  · cases h; exact .exit
  · cases h; exact .ret

theorem range_ok (hF : FOk P X F) {f : Operand} {ps : Array Tmp} {as bd : Code} {cx : Cx} {s : St} {p : AExit × St} (h : evRange F jumpC f ps as bd cx s = some p) : Ev P X (.code (.rangeFunc f ps as bd) cx s) (.st p.1 p.2) := by
  obtain ⟨fv, hfv, h⟩ := optR_some (x := envOf s.tm f) h
  have go : ∀ (H1 : Heap) (d : Nat) (mark : List Nat),
      ((cx.rd = none ∧ H1 = s.hp.add (.defr false) ∧ d = s.hp.next ∧ mark = [s.hp.next]) ∨
       (∃ l st0 pe0 fn0 tm0 sz0 ps0 as0 bd0, cx.rd = some l ∧ s.hp.get l = some (.loop st0 pe0 fn0 tm0 sz0 ps0 as0 bd0 d) ∧ H1 = s.hp ∧ mark = [])) →
      rfGo F jumpC cx s fv ps.toList as bd H1 d mark = some p → Ev P X (.code (.rangeFunc f ps as bd) cx s) (.st p.1 p.2) := by
    intro H1 d mark hh h
    obtain ⟨q, hq, h⟩ := optR_some (x := F fv [.yield H1.next] (H1.add (.loop .ready none cx.fn s.tm s.sz ps.toList as bd d))) h
    obtain ⟨v, H3⟩ := q
    obtain ⟨st, pe, fn, tm, sz, ps', as', bd', d', hg, h⟩ := loopOf_some h
    obtain ⟨hst, h⟩ := cond_none h
    have hst : st ≠ .busy := by intro e; subst e; cases hst
    cases pe with
    | none =>
      cases h
      exact .range hfv hh (hF _ _ _ _ _ hq) hg hst rfl
    | some c => exact .rangeJ hfv hh (hF _ _ _ _ _ hq) hg hst (jump_ok h)
  cases hrd : cx.rd with
  | none =>
    rw [hrd] at h
    exact go _ _ _ (.inl ⟨hrd, rfl, rfl, rfl⟩) h
  | some l =>
    rw [hrd] at h
    obtain ⟨st, pe, fn, tm, sz, ps', as', bd', d', hg, h⟩ := loopOf_some h
    exact go _ _ _ (.inr ⟨l, st, pe, fn, tm, sz, ps', as', bd', hrd, hg, rfl, rfl⟩) h

theorem loop_ok {b : Code} {cx : Cx} {eb : Cx → St → CO} (ih : ∀ cx s p, eb cx s = some p → Ev P X (.code b cx s) (.st p.1 p.2)) : ∀ (n : Nat) (s : St) (p : AExit × St), evLoop eb cx n s = some p → Ev P X (.code (.loop b) cx s) (.st p.1 p.2)
  | 0, s, p, h => by cases h
  | n + 1, s, p, h => by
    have h : exR (evLoop eb cx n) (fun id s => some (.exit id, s)) (fun s => some (.ret, s)) (eb cx s) = some p := h
    rcases exR_some h with ⟨s1, h1, h2⟩ | ⟨id, s1, h1, h2⟩ | ⟨s1, h1, h2⟩
    · exact .loopN (ih _ _ _ h1) (loop_ok ih n s1 p h2)
    · cases h2; exact .loopX (ih _ _ _ h1) (by intro e; cases e)
    · cases h2; exact .loopX (ih _ _ _ h1) (by intro e; cases e)

theorem evC_ok (hF : FOk P X F) (c : Code) : ∀ (cx : Cx) (s : St) (p : AExit × St), evC P F fuel c cx s = some p → Ev P X (.code c cx s) (.st p.1 p.2) := by
  induction c with
  | skip => intro cx s p h; cases h; exact .skip
  | region id ops draw => intro cx s p h; exact region_ok hF h
  | seq a b iha ihb =>
    intro cx s p h
    have h : exR (evC P F fuel b cx) (fun id s => some (.exit id, s)) (fun s => some (.ret, s)) (evC P F fuel a cx s) = some p := h
    rcases exR_some h with ⟨s1, h1, h2⟩ | ⟨id, s1, h1, h2⟩ | ⟨s1, h1, h2⟩
    · exact .seqN (iha _ _ _ h1) (ihb _ _ _ h2)
    · cases h2; exact .seqX (iha _ _ _ h1) (by intro e; cases e)
    · cases h2; exact .seqX (iha _ _ _ h1) (by intro e; cases e)
  | cond c a b iha ihb =>
    intro cx s p h
    have h : (optR (envOf s.tm c) fun v => asB v fun t => (Bool.rec (evC P F fuel b cx s) (evC P F fuel a cx s) t : CO)) = some p := h
    obtain ⟨v, hv, h⟩ := optR_some h
    obtain ⟨t, rfl, h⟩ := asB_some h
    cases t with
    | true => exact .condT hv (iha _ _ _ h)
    | false => exact .condF hv (ihb _ _ _ h)
  | block id b ih =>
    intro cx s p h
    have h : exR (fun s => some (.normal, s)) (fun id' s => (Bool.rec (some (.exit id', s)) (some (.normal, s)) (Nat.beq id' id) : CO)) (fun s => some (.ret, s)) (evC P F fuel b cx s) = some p := h
    rcases exR_some h with ⟨s1, h1, h2⟩ | ⟨id', s1, h1, h2⟩ | ⟨s1, h1, h2⟩
    · cases h2; exact .blockN (ih _ _ _ h1)
    · cases hb : Nat.beq id' id with
      | true =>
        rw [hb] at h2; cases h2
        have := nbeq.1 hb
        subst this
        exact .blockE (ih _ _ _ h1)
      | false => rw [hb] at h2; cases h2; exact .blockX (ih _ _ _ h1) (nbeqf.1 hb)
    · cases h2; exact .blockR (ih _ _ _ h1)
  | loop b ih => intro cx s p h; exact loop_ok ih fuel s p h
  | rangeFunc f ps as bd _ _ => intro cx s p h; exact range_ok hF h
  | exit id => intro cx s p h; cases h; exact .exit
  | scope b ih => intro cx s p h; exact .scope (ih _ _ _ h)
  | label l => intro cx s p h; cases h; exact .label
  | goto l => intro cx s p h; cases h
  | ret => intro cx s p h; cases h; exact .ret
  | refuse w => intro cx s p h; cases h

theorem callFn_ok (hF : FOk P X F) {f : FuncId} {first cap args : List AV} {H H' : Heap} {v : AV} (hX : X f = none) (h : callFn P F fuel f (first ++ args ++ cap) H = some (v, H')) : Ev P X (.call (.func f first cap) args H) (.val v H') := by
  obtain ⟨fn, hf, h⟩ := optR_some h
  obtain ⟨c, hb, h⟩ := optR_some h
  obtain ⟨h1, h⟩ := boolR_some h
  obtain ⟨h2, h⟩ := boolR_some h
  have h1 := nble.1 h1
  have h2 := nble.1 h2
  rw [llen_eq] at h2
  have fin : ∀ (e : AExit) (s : St), evC P F fuel c ⟨f, none⟩ ⟨fillTm (first ++ args ++ cap) 0 Tm.none, fn.ntmps, [], H⟩ = some (e, s) → (∀ id, e ≠ .exit id) → fnEnd P fn s = some (v, H') → Ev P X (.call (.func f first cap) args H) (.val v H') := by
    intro e s he hne h
    obtain ⟨H2, h3, h⟩ := optR_some h
    obtain ⟨vs, h4, h⟩ := optR_some h
    cases h
    exact .fnBody hX hf hb h1 h2 (evC_ok hF c _ _ _ he) hne h3 h4
  rcases exR_some h with ⟨s1, k1, k2⟩ | ⟨id, s1, k1, k2⟩ | ⟨s1, k1, k2⟩
  · exact fin _ _ k1 (by intro id e; cases e) k2
  · cases k2
  · exact fin _ _ k1 (by intro id e; cases e) k2

theorem callYield_ok (hF : FOk P X F) {l : Nat} {args : List AV} {H H' : Heap} {v : AV} (h : callYield P F fuel l args H = some (v, H')) : Ev P X (.call (.yield l) args H) (.val v H') := by
  obtain ⟨st, pe, fn, tm, sz, ps, as, bd, d, h1, h⟩ := loopOf_some h
  obtain ⟨s0, h2, h⟩ := optR_some h
  rcases exR_some h with ⟨s1, k1, k2⟩ | ⟨id, s1, k1, k2⟩ | ⟨s1, k1, k2⟩
  · obtain ⟨st1, pe1, fn1, tm1, sz1, ps1, as1, bd1, d1, h3, h4⟩ := loopOf_some k2
    obtain ⟨hst, h5⟩ := cond_some h4
    have hst : st1 = .ready := by cases st1 <;> first | rfl | cases hst
    subst hst
    obtain ⟨p, h6, h7⟩ := optR_some h5
    obtain ⟨st2, pe2, fn2, tm2, sz2, ps2, as2, bd2, d2, h8, h9⟩ := loopOf_some h7
    cases h9
    exact .yield h1 h2 (evC_ok hF _ _ _ _ k1) h3 (evC_ok hF _ _ _ _ h6) h8
  · cases k2
  · cases k2

/-- Summaries are the machine's. -/
def YOk (P : Program) (X : Ext) (Y : Sums) : Prop := ∀ f g, Y f = some g → ∀ args H v H', g args H = some (v, H') → Ev P X (.call (.func f [] []) args H) (.val v H')

/-- A call looks at the joined list of arguments alone. -/
theorem ev_join {f : FuncId} {first cap args : List AV} {H H' : Heap} {v : AV} (h : Ev P X (.call (.func f [] []) (first ++ args ++ cap) H) (.val v H')) : Ev P X (.call (.func f first cap) args H) (.val v H') := by
  cases h with
  | fnExt h1 h2 => exact .fnExt h1 (by simpa using h2)
  | fnBody h0 hf hb hn hlen hbody he ht hr => exact .fnBody h0 hf hb hn (by simpa using hlen) (by simpa using hbody) he ht hr
  | closed h0 hp hv h => exact .closed h0 (by simpa using hp) hv (by simpa using h)

theorem ev_ok (hY : YOk P X Y) : ∀ n, FOk P X (ev P X Y fuel n)
  | 0 => fun f as H v H' h => by cases h
  | n + 1 => fun f as H v H' h => by
    have hF := ev_ok hY n
    have h : evCall P X Y (ev P X Y fuel n) fuel f as H = some (v, H') := h
    cases f with
    | func f first cap =>
      have h : (Option.rec (Option.rec (callFn P (ev P X Y fuel n) fuel f (first ++ as ++ cap) H) (fun g => g (first ++ as ++ cap) H) (Y f)) (fun g => optR (g (first ++ as ++ cap)) fun v => some (v, H)) (X f) : R) = some (v, H') := h
      cases hX : X f with
      | none =>
        rw [hX] at h
        cases hYf : Y f with
        | none => rw [hYf] at h; exact callFn_ok hF hX h
        | some g => rw [hYf] at h; exact ev_join (hY f g hYf _ _ _ _ h)
      | some g =>
        rw [hX] at h
        obtain ⟨x, hx, h⟩ := optR_some h
        cases h
        exact .fnExt hX hx
    | yield l => exact callYield_ok hF h
    | _ => cases h

/-- A run that comes to 'true'. -/
theorem trueB_ev (hY : YOk P X Y) {f : FuncId} {args : List AV} (h : trueB P X Y fuel f args = true) : ∃ H', Ev P X (.call (.func f [] []) args ⟨.e, 0⟩) (.val (.bool true) H') := by
  unfold trueB isTrue at h
  cases hr : ev P X Y fuel fuel (.func f [] []) args ⟨.e, 0⟩ with
  | none => rw [hr] at h; cases h
  | some p =>
    obtain ⟨v, H'⟩ := p
    rw [hr] at h
    cases v <;> try (cases h; done)
    have h : (match (AV.bool _ : AV) with | .bool b => b | _ => false) = true := h
    have h : _ = true := h
    subst h
    exact ⟨H', ev_ok hY _ _ _ _ _ _ hr⟩

/-- A closed run of the evaluator that comes to 'true' is a call of the model's that returns true. -/
theorem calls_true (O : Ok P X) (hY : YOk P X Y) {f : FuncId} {args : List AV} (hX : X f = none) (h : trueB P X Y fuel f args = true) {ac : Array Value} (hl : VRs (fun _ => none) args ac.toList) (w : World) :
    Calls P f ac w fun e w' => e = .returned (.bool true) ∧ Below w.heap.size w w' := by
  obtain ⟨H', hev⟩ := trueB_ev hY h
  exact calls_bool O hX hev hl w

/-- No summaries. -/
theorem YOk.none : YOk P X (fun _ => .none) := fun f g h => by cases h

end Go.AM
