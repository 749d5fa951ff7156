/-
  What the fast evaluator comes to, the abstract machine does.
-/
import Derived.Test.YtdjlpdboochkhaaGreatAmFxOp
set_option linter.unusedVariables false
namespace Go.AM
open Go.RowKit

variable {P : Program} {X : Ext} {Y : Sums}

theorem argsK_ok : ∀ {l : List Operand} {tm : Tm} {k : List AV → Bool}, (argsK l).out tm k = true → ∃ vs, argsA (envOf tm) l = some vs ∧ k vs = true
  | [], tm, k, h => ⟨[], rfl, h⟩
  | x :: l, tm, k, h => by
    obtain ⟨f, ef⟩ := Bx.ex (rdK x)
    obtain ⟨g, eg⟩ := Bx.ex (argsK l)
    have h : (@Bx.rec _ (fun _ => Bx ArgsT) (fun f => @Bx.rec _ (fun _ => Bx ArgsT) (fun g => .mk fun tm k => f tm fun v => g tm fun vs => k (v :: vs)) (argsK l)) (rdK x)).out tm k = true := h
    rw [ef, eg] at h
    obtain ⟨v, h1, h2⟩ := rdK_ok (x := x) (by rw [ef]; exact h)
    obtain ⟨vs, h3, h4⟩ := argsK_ok (l := l) (by rw [eg]; exact h2)
    refine ⟨v :: vs, ?_, h4⟩
    show ((envOf tm x).bind fun v => (argsA (envOf tm) l).bind fun vs => some (v :: vs)) = _
    rw [h1, h3]; rfl

/-- Calls of the fast evaluator are the machine's. -/
def FKOk (P : Program) (X : Ext) (F : FK) : Prop := ∀ f as H k, F f as H k = true → ∃ v H', Ev P X (.call f as H) (.val v H') ∧ k v H' = true

/-- A step's closure. -/
def StepOk (P : Program) (X : Ext) (sz : Nat) (all : List Oper) (b : Bx StepT) (o : Oper) : Prop :=
  ∀ F, FKOk P X F → ∀ tm df H k, b.out F tm H k = true → ∃ tm' H', Ev P X (.op all o ⟨tm, sz, df, H⟩) (.st .normal ⟨tm', sz, df, H'⟩) ∧ k tm' H' = true

theorem workK_ok {sz : Nat} {all : List Oper} {o : Oper} {F : FK} (hF : FKOk P X F) {tm : Tm} {df : List Nat} {H : Heap} {k : Tm → Heap → Bool} (hw : wantedA all tm o = true) (h : (workK P sz o).out F tm H k = true) :
    ∃ tm' H', Ev P X (.op all o ⟨tm, sz, df, H⟩) (.st .normal ⟨tm', sz, df, H'⟩) ∧ k tm' H' = true := by
  unfold workK at h
  obtain ⟨p, ep⟩ := Bx.ex (dstK sz o.dst)
  rw [ep] at h
  cases hc : callOf o.op with
  | none =>
    rw [hc] at h
    obtain ⟨f, ef⟩ := Bx.ex (opK P o.op)
    dsimp only at h
    rw [ef] at h
    obtain ⟨v, H', h1, h2⟩ := opK_ok (P := P) o.op tm H (fun v H => p tm v fun tm => k tm H) (by rw [ef]; exact h)
    obtain ⟨tm', h3, h4⟩ := dstK_ok (sz := sz) (dst := o.dst) (by rw [ep]; exact h2) df H H'
    exact ⟨tm', H', .opPlain hw hc h1 h3, h4⟩
  | some q =>
    obtain ⟨c, args⟩ := q
    rw [hc] at h
    obtain ⟨fc, ec⟩ := Bx.ex (rdK c)
    obtain ⟨fa, ea⟩ := Bx.ex (argsK args.toList)
    dsimp only at h
    rw [ec, ea] at h
    obtain ⟨fv, h1, h2⟩ := rdK_ok (x := c) (by rw [ec]; exact h)
    obtain ⟨as, h3, h4⟩ := argsK_ok (l := args.toList) (by rw [ea]; exact h2)
    obtain ⟨v, H', h5, h6⟩ := hF _ _ _ _ h4
    obtain ⟨tm', h7, h8⟩ := dstK_ok (sz := sz) (dst := o.dst) (by rw [ep]; exact h6) df H H'
    exact ⟨tm', H', .opCall hw hc h1 h3 h5 h7, h8⟩

theorem guardC_ok {want : Bool} {v : AV} {t e : Bool} (h : guardC want v t e = true) : (v = .bool want ∧ t = true) ∨ (v ≠ .bool want ∧ e = true) := by
  cases v with
  | bool b => cases b <;> cases want <;> first | exact .inl ⟨rfl, h⟩ | exact .inr ⟨(by intro e; cases e), h⟩
  | _ => exact .inr ⟨(by intro e; cases e), h⟩

theorem stepK_ok {sz : Nat} {all : List Oper} {o : Oper} : StepOk P X sz all (stepK P sz all o) o := by
  intro F hF tm df H k h
  unfold stepK at h
  cases hg : o.guard with
  | none =>
    rw [hg] at h
    exact workK_ok hF (by unfold wantedA; rw [hg]) h
  | some q =>
    obtain ⟨g, want⟩ := q
    rw [hg] at h
    dsimp only at h
    cases hd : (lget all g).bind fun o => o.dst with
    | none => rw [hd] at h; cases h
    | some d =>
      rw [hd] at h
      dsimp only at h
      cases hb : Nat.ble (Nat.succ d) 256 with
      | false => rw [hb] at h; cases h
      | true =>
        rw [hb] at h
        dsimp only at h
        obtain ⟨f, ef⟩ := Bx.ex (selK d)
        obtain ⟨w, ew⟩ := Bx.ex (workK P sz o)
        obtain ⟨p, ep⟩ := Bx.ex (dstK sz o.dst)
        rw [ef, ew, ep] at h
        have h : f tm (fun v => guardC want v (w F tm H k) (p tm undefA fun tm => k tm H)) = true := h
        have hs := selK_eq d tm (fun v => guardC want v (w F tm H k) (p tm undefA fun tm => k tm H))
        rw [ef] at hs
        have hs := hs.symm.trans h
        have hwant : ∀ b, wantedA all tm o = b ↔ guardB tm want d = b := by
          intro b
          unfold wantedA
          rw [hg]
          show (Option.casesOn ((lget all g).bind fun o => o.dst) false fun d => guardB tm want d : Bool) = b ↔ _
          rw [hd]
        have htg : tget tm d = some (tm.get d) := by unfold tget; rw [hb]; rfl
        rcases guardC_ok hs with ⟨h1, h2⟩ | ⟨h1, h2⟩
        · refine workK_ok hF ((hwant true).2 ?_) (by rw [ew]; exact h2)
          exact guardB_iff.2 (htg.trans (by rw [h1]))
        · obtain ⟨tm', h3, h4⟩ := dstK_ok (sz := sz) (dst := o.dst) (by rw [ep]; exact h2) df H H
          refine ⟨tm', H, .opSkip ((hwant false).2 ?_) h3, h4⟩
          cases hgb : guardB tm want d with
          | false => rfl
          | true =>
            have := guardB_iff.1 hgb
            rw [htg] at this
            exact absurd (Option.some.inj this) h1

theorem stepsK_ok {sz : Nat} {all : List Oper} {F : FK} (hF : FKOk P X F) : ∀ {l : List Oper} {tm : Tm} {df : List Nat} {H : Heap} {k : Tm → Heap → Bool}, (stepsK P sz all l).out F tm H k = true →
    ∃ ss : Nat → St, ss 0 = ⟨tm, sz, df, H⟩ ∧ (∃ tm' H', ss l.length = ⟨tm', sz, df, H'⟩ ∧ k tm' H' = true) ∧ ∀ i o, l[i]? = some o → Ev P X (.op all o (ss i)) (.st .normal (ss (i + 1)))
  | [], tm, df, H, k, h => ⟨fun _ => ⟨tm, sz, df, H⟩, rfl, ⟨tm, H, rfl, h⟩, fun i o h => by simp at h⟩
  | o :: l, tm, df, H, k, h => by
    obtain ⟨f, ef⟩ := Bx.ex (stepK P sz all o)
    obtain ⟨g, eg⟩ := Bx.ex (stepsK P sz all l)
    have h : (@Bx.rec _ (fun _ => Bx StepT) (fun f => @Bx.rec _ (fun _ => Bx StepT) (fun g => .mk fun F tm H k => f F tm H fun tm H => g F tm H k) (stepsK P sz all l)) (stepK P sz all o)).out F tm H k = true := h
    rw [ef, eg] at h
    obtain ⟨tm1, H1, h1, h2⟩ := stepK_ok (P := P) (X := X) F hF tm df H (fun tm H => g F tm H k) (by rw [ef]; exact h)
    obtain ⟨ss, k1, k2, k3⟩ := stepsK_ok hF (l := l) (df := df) (by rw [eg]; exact h2)
    refine ⟨fun i => match i with | 0 => ⟨tm, sz, df, H⟩ | i + 1 => ss i, rfl, k2, fun i o' ho => ?_⟩
    cases i with
    | zero =>
      simp at ho
      subst ho
      show Ev P X (.op all o ⟨tm, sz, df, H⟩) (.st .normal (ss 0))
      rw [k1]
      exact h1
    | succ i =>
      simp only [List.getElem?_cons_succ] at ho
      exact k3 i o' ho

theorem lrev_eq {α : Type} (l : List α) : ∀ acc, lrev l acc = l.reverse ++ acc := by
  induction l with
  | nil => intro acc; rfl
  | cons x l ih => intro acc; show lrev l (x :: acc) = _; rw [ih]; simp

theorem traceK_ok {sz : Nat} {all : List Oper} {F : FK} (hF : FKOk P X F) : ∀ {l : List Oper} {tm : Tm} {df : List Nat} {H : Heap} {acc : List St} {k : List St → Tm → Heap → Bool}, (traceK P sz all l).out F df tm H acc k = true →
    ∃ (ss : Nat → St) (t : List St), ss 0 = ⟨tm, sz, df, H⟩ ∧ t.length = l.length + 1 ∧ (∀ i, i ≤ l.length → t[i]? = some (ss i)) ∧ (∃ tm' H', ss l.length = ⟨tm', sz, df, H'⟩ ∧ k (t.reverse ++ acc) tm' H' = true) ∧
      ∀ i o, l[i]? = some o → Ev P X (.op all o (ss i)) (.st .normal (ss (i + 1)))
  | [], tm, df, H, acc, k, h => by
    refine ⟨fun _ => ⟨tm, sz, df, H⟩, [⟨tm, sz, df, H⟩], rfl, rfl, fun i hi => ?_, ⟨tm, H, rfl, h⟩, fun i o h => by simp at h⟩
    have : i = 0 := by simpa using hi
    subst this; rfl
  | o :: l, tm, df, H, acc, k, h => by
    obtain ⟨f, ef⟩ := Bx.ex (stepK P sz all o)
    obtain ⟨g, eg⟩ := Bx.ex (traceK P sz all l)
    have h : (@Bx.rec _ (fun _ => Bx TrT) (fun f => @Bx.rec _ (fun _ => Bx TrT) (fun g => .mk fun F df tm H acc k => f F tm H fun tm' H' => g F df tm' H' (⟨tm, sz, df, H⟩ :: acc) k) (traceK P sz all l)) (stepK P sz all o)).out F df tm H acc k = true := h
    rw [ef, eg] at h
    obtain ⟨tm1, H1, h1, h2⟩ := stepK_ok (P := P) (X := X) F hF tm df H (fun tm' H' => g F df tm' H' (⟨tm, sz, df, H⟩ :: acc) k) (by rw [ef]; exact h)
    obtain ⟨ss, t, k1, k2, k3, ⟨tm', H', k4, k5⟩, k6⟩ := traceK_ok hF (l := l) (df := df) (acc := ⟨tm, sz, df, H⟩ :: acc) (by rw [eg]; exact h2)
    refine ⟨fun i => match i with | 0 => ⟨tm, sz, df, H⟩ | i + 1 => ss i, ⟨tm, sz, df, H⟩ :: t, rfl, by simp [k2], fun i hi => ?_, ⟨tm', H', k4, by simpa using k5⟩, fun i o' ho => ?_⟩
    · cases i with
      | zero => rfl
      | succ i => simp only [List.getElem?_cons_succ]; exact k3 i (by simpa using hi)
    · cases i with
      | zero =>
        simp at ho
        subst ho
        show Ev P X (.op all o ⟨tm, sz, df, H⟩) (.st .normal (ss 0))
        rw [k1]
        exact h1
      | succ i =>
        simp only [List.getElem?_cons_succ] at ho
        exact k6 i o' ho

/-- What a piece of code hands on. -/
def Hand (sz : Nat) (kn : KK) (kx : Nat → KK) (kr : KK) (e : AExit) (s : St) : Prop :=
  s.sz = sz ∧ (match e with | .normal => kn s.tm s.df s.hp = true | .exit id => kx id s.tm s.df s.hp = true | .ret => kr s.tm s.df s.hp = true)

def CodeOk (P : Program) (X : Ext) (sz : Nat) (b : Bx CodeT) (c : Code) : Prop :=
  ∀ F, FKOk P X F → ∀ fuel cx kn kx kr tm df H, b.out F fuel cx kn kx kr tm df H = true → ∃ e s, Ev P X (.code c cx ⟨tm, sz, df, H⟩) (.st e s) ∧ Hand sz kn kx kr e s

theorem plainRK_ok {sz : Nat} {id : Nat} {ops : Array Oper} {draw : Bool} (hd : draw = true → regOk P ops.toList = true ∧ confl P ops.toList = []) : CodeOk P X sz (plainRK P sz ops.toList) (.region id ops draw) := by
  intro F hF fuel cx kn kx kr tm df H h
  obtain ⟨f, ef⟩ := Bx.ex (stepsK P sz ops.toList ops.toList)
  unfold plainRK at h
  rw [ef] at h
  obtain ⟨ss, k1, ⟨tm', H', k2, k3⟩, k4⟩ := stepsK_ok (P := P) (X := X) hF (df := df) (k := fun tm H => kn tm df H) (l := ops.toList) (by rw [ef]; exact h)
  refine ⟨.normal, ss ops.toList.length, ?_, by rw [k2], by rw [k2]; exact k3⟩
  rw [← k1]
  refine .region ss k4 fun e => ⟨(hd e).1, fun p hp => ?_⟩
  rw [(hd e).2] at hp
  cases hp

theorem regionK_ok {sz : Nat} {id : Nat} {ops : Array Oper} {draw : Bool} : CodeOk P X sz (regionK P sz ops.toList draw) (.region id ops draw) := by
  unfold regionK
  cases draw with
  | false => exact plainRK_ok (fun h => by cases h)
  | true =>
    cases hr : regOk P ops.toList with
    | false => intro F hF fuel cx kn kx kr tm df H h; cases h
    | true =>
      cases hc : confl P ops.toList with
      | nil => exact plainRK_ok (fun _ => ⟨hr, hc⟩)
      | cons q qs =>
        intro F hF fuel cx kn kx kr tm df H h
        have h : (traceRK P sz ops.toList (q :: qs)).out F fuel cx kn kx kr tm df H = true := h
        obtain ⟨f, ef⟩ := Bx.ex (traceK P sz ops.toList ops.toList)
        unfold traceRK at h
        rw [ef] at h
        obtain ⟨ss, t, k1, k2, k3, ⟨tm', H', k4, k5⟩, k6⟩ := traceK_ok (P := P) (X := X) hF (df := df) (acc := []) (k := fun acc tm H => @Bool.rec (fun _ => Bool) false (kn tm df H) (allB (sameOk P ops.toList (lrev acc [])) (q :: qs))) (l := ops.toList) (by rw [ef]; exact h)
        obtain ⟨hall, k7⟩ := boolF k5
        rw [lrev_eq] at hall
        simp only [List.append_nil, List.reverse_reverse] at hall
        refine ⟨.normal, ss ops.toList.length, ?_, by rw [k4], by rw [k4]; exact k7⟩
        rw [← k1]
        refine .region ss k6 fun _ => ⟨hr, fun p hp o ow ho how => ?_⟩
        rw [hc] at hp
        have hs := allB_all hall p hp
        have hl1 : p.1 < ops.toList.length := (List.getElem?_eq_some_iff.1 ho).1
        have hl2 : p.2 < ops.toList.length := (List.getElem?_eq_some_iff.1 how).1
        unfold sameOk at hs
        simp only [lget_eq, ho, how, k3 _ (Nat.le_of_lt hl1), k3 _ (Nat.le_of_lt hl2), k3 _ (show Nat.succ p.2 ≤ ops.toList.length from hl2)] at hs
        exact hs

theorem isBusy_ok {st : LoopState} {e : Bool} (h : isBusy st false e = true) : st ≠ .busy ∧ e = true := by
  cases st <;> first | (cases h; done) | exact ⟨(by intro e; cases e), h⟩
theorem isReady_ok {st : LoopState} {t : Bool} (h : isReady st t false = true) : st = .ready ∧ t = true := by
  cases st <;> first | (cases h; done) | exact ⟨rfl, h⟩

theorem loopR_ok {b : Code} {sz : Nat} {F : FK} {fuel : Nat} {cx : Cx} {kn : KK} {kx : Nat → KK} {kr : KK} {a : CodeT}
    (ih : ∀ kn kx kr tm df H, a F fuel cx kn kx kr tm df H = true → ∃ e s, Ev P X (.code b cx ⟨tm, sz, df, H⟩) (.st e s) ∧ Hand sz kn kx kr e s) :
    ∀ (n : Nat) (tm : Tm) (df : List Nat) (H : Heap), (@Nat.rec (fun _ => KK) (fun _ _ _ => false) (fun _ ih tm df H => a F fuel cx ih kx kr tm df H) n) tm df H = true →
      ∃ e s, Ev P X (.code (.loop b) cx ⟨tm, sz, df, H⟩) (.st e s) ∧ Hand sz kn kx kr e s
  | 0, tm, df, H, h => by cases h
  | n + 1, tm, df, H, h => by
    have h : a F fuel cx (@Nat.rec (fun _ => KK) (fun _ _ _ => false) (fun _ ih tm df H => a F fuel cx ih kx kr tm df H) n) kx kr tm df H = true := h
    obtain ⟨e, s, h1, h2, h3⟩ := ih _ _ _ _ _ _ h
    obtain ⟨tm', sz', df', H'⟩ := s
    obtain rfl : sz' = sz := h2
    cases e with
    | normal =>
      obtain ⟨e2, s2, h4, h5⟩ := loopR_ok ih n _ _ _ h3
      exact ⟨e2, s2, .loopN h1 h4, h5⟩
    | exit id => exact ⟨_, _, .loopX h1 (by intro e; cases e), rfl, h3⟩
    | ret => exact ⟨_, _, .loopX h1 (by intro e; cases e), rfl, h3⟩

theorem jumpK_ok {j : Code} {sz : Nat} {cx : Cx} {kn : KK} {kx : Nat → KK} {kr : KK} {tm : Tm} {df : List Nat} {H : Heap} (h : jumpK j kx kr tm df H = true) :
    ∃ e s, Ev P X (.code j cx ⟨tm, sz, df, H⟩) (.st e s) ∧ Hand sz kn kx kr e s := by
  cases j <;> try (cases h; done)
  · exact ⟨_, _, .exit, rfl, h⟩
  · exact ⟨_, _, .ret, rfl, h⟩

theorem rfGoK_ok {F : FK} (hF : FKOk P X F) {sz : Nat} {f : Operand} {ps : Array Tmp} {as bd : Code} {cx : Cx} {fv : AV} {kn : KK} {kx : Nat → KK} {kr : KK} {tm : Tm} {df : List Nat} {H H1 : Heap} {d : Nat} {mark : List Nat}
    (hfv : envOf tm f = some fv)
    (hh : (cx.rd = none ∧ H1 = H.add (.defr false) ∧ d = H.next ∧ mark = [H.next]) ∨
       (∃ l st0 pe0 fn0 tm0 sz0 ps0 as0 bd0, cx.rd = some l ∧ H.get l = some (.loop st0 pe0 fn0 tm0 sz0 ps0 as0 bd0 d) ∧ H1 = H ∧ mark = []))
    (h : rfGoK F sz ps.toList as bd cx fv kn kx kr tm df H1 d mark = true) :
    ∃ e s, Ev P X (.code (.rangeFunc f ps as bd) cx ⟨tm, sz, df, H⟩) (.st e s) ∧ Hand sz kn kx kr e s := by
  unfold rfGoK at h
  rw [addH_eq] at h
  obtain ⟨v, H3, h1, h⟩ := hF _ _ _ _ h
  obtain ⟨o, h2, h⟩ := getH_ok h
  obtain ⟨st, pe, fn, tm', sz', ps', as', bd', d', rfl, h⟩ := loopC_ok h
  obtain ⟨h3, h⟩ := isBusy_ok h
  cases pe with
  | none =>
    dsimp only at h
    rw [setH_eq] at h
    exact ⟨_, _, .range hfv hh h1 h2 h3 rfl, rfl, h⟩
  | some c =>
    dsimp only at h
    rw [setH_eq] at h
    obtain ⟨e, s, h4, h5⟩ := jumpK_ok (P := P) (X := X) (sz := sz) (cx := cx) (kn := kn) h
    exact ⟨e, s, .rangeJ hfv hh h1 h2 h3 h4, h5⟩

theorem cC_ok (sz : Nat) (c : Code) : CodeOk P X sz (cC P sz c) c := by
  induction c with
  | skip => intro F hF fuel cx kn kx kr tm df H h; exact ⟨_, _, .skip, rfl, h⟩
  | region id ops draw => exact regionK_ok
  | seq a b iha ihb =>
    intro F hF fuel cx kn kx kr tm df H h
    obtain ⟨fa, ea⟩ := Bx.ex (cC P sz a)
    obtain ⟨fb, eb⟩ := Bx.ex (cC P sz b)
    have h : (@Bx.rec _ (fun _ => Bx CodeT) (fun a => @Bx.rec _ (fun _ => Bx CodeT) (fun b =>
      .mk fun F fuel cx kn kx kr tm df H => a F fuel cx (fun tm df H => b F fuel cx kn kx kr tm df H) kx kr tm df H) (cC P sz b)) (cC P sz a)).out F fuel cx kn kx kr tm df H = true := h
    rw [ea, eb] at h
    obtain ⟨e, s, h1, h2, h3⟩ := iha F hF fuel cx (fun tm df H => fb F fuel cx kn kx kr tm df H) kx kr tm df H (by rw [ea]; exact h)
    obtain ⟨tm', sz', df', H'⟩ := s
    obtain rfl : sz' = sz := h2
    cases e with
    | normal =>
      obtain ⟨e2, s2, h4, h5⟩ := ihb F hF fuel cx kn kx kr tm' df' H' (by rw [eb]; exact h3)
      exact ⟨e2, s2, .seqN h1 h4, h5⟩
    | exit id => exact ⟨_, _, .seqX h1 (by intro e; cases e), rfl, h3⟩
    | ret => exact ⟨_, _, .seqX h1 (by intro e; cases e), rfl, h3⟩
  | cond c a b iha ihb =>
    intro F hF fuel cx kn kx kr tm df H h
    obtain ⟨f, ef⟩ := Bx.ex (rdK c)
    obtain ⟨fa, ea⟩ := Bx.ex (cC P sz a)
    obtain ⟨fb, eb⟩ := Bx.ex (cC P sz b)
    have h : (@Bx.rec _ (fun _ => Bx CodeT) (fun f => @Bx.rec _ (fun _ => Bx CodeT) (fun a => @Bx.rec _ (fun _ => Bx CodeT) (fun b =>
      .mk fun F fuel cx kn kx kr tm df H => f tm fun v => v.boolC fun t => @Bool.rec (fun _ => Bool) (b F fuel cx kn kx kr tm df H) (a F fuel cx kn kx kr tm df H) t) (cC P sz b)) (cC P sz a)) (rdK c)).out F fuel cx kn kx kr tm df H = true := h
    rw [ef, ea, eb] at h
    obtain ⟨v, h1, h2⟩ := rdK_ok (x := c) (by rw [ef]; exact h)
    obtain ⟨t, rfl, h3⟩ := boolC_ok h2
    cases t with
    | true =>
      obtain ⟨e, s, h4, h5⟩ := iha F hF fuel cx kn kx kr tm df H (by rw [ea]; exact h3)
      exact ⟨e, s, .condT h1 h4, h5⟩
    | false =>
      obtain ⟨e, s, h4, h5⟩ := ihb F hF fuel cx kn kx kr tm df H (by rw [eb]; exact h3)
      exact ⟨e, s, .condF h1 h4, h5⟩
  | block id b ih =>
    intro F hF fuel cx kn kx kr tm df H h
    obtain ⟨fa, ea⟩ := Bx.ex (cC P sz b)
    have h : (@Bx.rec _ (fun _ => Bx CodeT) (fun a =>
      .mk fun F fuel cx kn kx kr tm df H => a F fuel cx kn (fun id' tm df H => @Bool.rec (fun _ => Bool) (kx id' tm df H) (kn tm df H) (Nat.beq id' id)) kr tm df H) (cC P sz b)).out F fuel cx kn kx kr tm df H = true := h
    rw [ea] at h
    obtain ⟨e, s, h1, h2, h3⟩ := ih F hF fuel cx kn (fun id' tm df H => @Bool.rec (fun _ => Bool) (kx id' tm df H) (kn tm df H) (Nat.beq id' id)) kr tm df H (by rw [ea]; exact h)
    cases e with
    | normal => exact ⟨_, _, .blockN h1, h2, h3⟩
    | ret => exact ⟨_, _, .blockR h1, h2, h3⟩
    | exit id' =>
      rcases boolT h3 with ⟨hb, h4⟩ | ⟨hb, h4⟩
      · exact ⟨_, _, .blockX h1 (nbeqf.1 hb), h2, h4⟩
      · have := nbeq.1 hb
        subst this
        exact ⟨_, _, .blockE h1, h2, h4⟩
  | loop b ih =>
    intro F hF fuel cx kn kx kr tm df H h
    obtain ⟨fa, ea⟩ := Bx.ex (cC P sz b)
    have h : (@Bx.rec _ (fun _ => Bx CodeT) (fun a =>
      .mk fun F fuel cx kn kx kr tm df H => @Nat.rec (fun _ => KK) (fun _ _ _ => false) (fun _ ih tm df H => a F fuel cx ih kx kr tm df H) fuel tm df H) (cC P sz b)).out F fuel cx kn kx kr tm df H = true := h
    rw [ea] at h
    exact loopR_ok (a := fa) (fun kn kx kr tm df H h => ih F hF fuel cx kn kx kr tm df H (by rw [ea]; exact h)) fuel tm df H h
  | rangeFunc f ps as bd _ _ =>
    intro F hF fuel cx kn kx kr tm df H h
    obtain ⟨g, eg⟩ := Bx.ex (rdK f)
    have h : (@Bx.rec _ (fun _ => Bx CodeT) (fun f =>
      .mk fun F fuel cx kn kx kr tm df H => f tm fun fv => @Option.rec Nat (fun _ => Bool) (addH H (.defr false) fun d H => rfGoK F sz ps.toList as bd cx fv kn kx kr tm df H d [d])
        (fun l => getH H l fun o => loopC o fun _ _ _ _ _ _ _ _ d => rfGoK F sz ps.toList as bd cx fv kn kx kr tm df H d []) cx.rd) (rdK f)).out F fuel cx kn kx kr tm df H = true := h
    rw [eg] at h
    obtain ⟨fv, h1, h2⟩ := rdK_ok (x := f) (by rw [eg]; exact h)
    cases hrd : cx.rd with
    | none =>
      rw [hrd] at h2
      dsimp only at h2
      rw [addH_eq] at h2
      exact rfGoK_ok hF h1 (.inl ⟨hrd, rfl, rfl, rfl⟩) h2
    | some l =>
      rw [hrd] at h2
      obtain ⟨o, h3, h4⟩ := getH_ok h2
      obtain ⟨st, pe, fn, tm', sz', ps', as', bd', d', rfl, h5⟩ := loopC_ok h4
      exact rfGoK_ok hF h1 (.inr ⟨l, st, pe, fn, tm', sz', ps', as', bd', hrd, h3, rfl, rfl⟩) h5
  | exit id => intro F hF fuel cx kn kx kr tm df H h; exact ⟨_, _, .exit, rfl, h⟩
  | scope b ih =>
    intro F hF fuel cx kn kx kr tm df H h
    obtain ⟨e, s, h1, h2⟩ := ih F hF fuel cx kn kx kr tm df H h
    exact ⟨e, s, .scope h1, h2⟩
  | label l => intro F hF fuel cx kn kx kr tm df H h; exact ⟨_, _, .label, rfl, h⟩
  | goto l => intro F hF fuel cx kn kx kr tm df H h; cases h
  | ret => intro F hF fuel cx kn kx kr tm df H h; exact ⟨_, _, .ret, rfl, h⟩
  | refuse w => intro F hF fuel cx kn kx kr tm df H h; cases h

/-! ### Calls -/
theorem resK_ok {x : ResultVar} {tm : Tm} {H : Heap} {k : AV → Bool} (h : (resK P x).out tm H k = true) : ∃ v, resA P tm H x = some v ∧ k v = true := by
  cases x with
  | tmp t =>
    have h : (@Bool.rec (fun _ => Bx ResT) (.mk fun _ _ _ => false) (@Bx.rec _ (fun _ => Bx ResT) (fun f => .mk fun tm _ k => f tm k) (selK t)) (Nat.ble (Nat.succ t) 256)).out tm H k = true := h
    cases hb : Nat.ble (Nat.succ t) 256 with
    | false => rw [hb] at h; cases h
    | true =>
      rw [hb] at h
      obtain ⟨f, ef⟩ := Bx.ex (selK t)
      dsimp only at h
      rw [ef] at h
      have hs := selK_eq t tm k
      rw [ef] at hs
      refine ⟨tm.get t, ?_, hs.symm.trans h⟩
      show tget tm t = _
      unfold tget; rw [hb]; rfl
  | cell a t => exact optT h

theorem ressK_ok : ∀ {l : List ResultVar} {tm : Tm} {H : Heap} {k : List AV → Bool}, (ressK P l).out tm H k = true → ∃ vs, resultsA P tm H l = some vs ∧ k vs = true
  | [], tm, H, k, h => ⟨[], rfl, h⟩
  | x :: l, tm, H, k, h => by
    obtain ⟨f, ef⟩ := Bx.ex (resK P x)
    obtain ⟨g, eg⟩ := Bx.ex (ressK P l)
    have h : (@Bx.rec _ (fun _ => Bx RessT) (fun f => @Bx.rec _ (fun _ => Bx RessT) (fun g => .mk fun tm H k => f tm H fun v => g tm H fun vs => k (v :: vs)) (ressK P l)) (resK P x)).out tm H k = true := h
    rw [ef, eg] at h
    obtain ⟨v, h1, h2⟩ := resK_ok (P := P) (x := x) (tm := tm) (H := H) (k := fun v => g tm H fun vs => k (v :: vs)) (by rw [ef]; exact h)
    obtain ⟨vs, h3, h4⟩ := ressK_ok (l := l) (tm := tm) (H := H) (k := fun vs => k (v :: vs)) (by rw [eg]; exact h2)
    refine ⟨v :: vs, ?_, h4⟩
    show ((resA P tm H x).bind fun v => (resultsA P tm H l).bind fun vs => some (v :: vs)) = _
    rw [h1, h3]; rfl

theorem oneK_eq (vs : List AV) (k : AV → Bool) : oneK vs k = k (one vs) := by
  match vs with
  | [] => rfl
  | [v] => rfl
  | v :: w :: r => rfl

theorem takeK_ok {df : List Nat} {H : Heap} {k : Heap → Bool} (h : takeK df H k = true) : ∃ H', takeA df H = some H' ∧ k H' = true := by
  cases df with
  | nil => exact ⟨H, rfl, h⟩
  | cons d ds => exact optT h

theorem fillF_eq (l : List AV) : ∀ (i : Nat) (t : Tm) (k : Tm → Bool), fillF l i t k = k (fillTm l i t) := by
  induction l with
  | nil => intro i t k; rfl
  | cons v l ih =>
    intro i t k
    show @Bx.rec PutT (fun _ => Bool) (fun p => p t v fun t => fillF l (Nat.succ i) t k) (putK i) = _
    have hp := putK_eq i t v fun t => fillF l (Nat.succ i) t k
    obtain ⟨p, ep⟩ := Bx.ex (putK i)
    rw [ep] at hp ⊢
    exact hp.trans (ih _ _ _)

theorem lapp_eq (a b : List AV) : lapp a b = a ++ b := by
  induction a with
  | nil => rfl
  | cons x a ih => show x :: lapp a b = _; rw [ih]; rfl

theorem bodyK_ok {F : FK} (hF : FKOk P X F) {fuel : Nat} {f : FuncId} {first cap args : List AV} {H : Heap} {k : VK} (hX : X f = none) (h : (bodyK P f).out F fuel (first ++ args ++ cap) H k = true) :
    ∃ v H', Ev P X (.call (.func f first cap) args H) (.val v H') ∧ k v H' = true := by
  unfold bodyK at h
  cases hf : P.funcs[f]? with
  | none => rw [hf] at h; cases h
  | some fn =>
    rw [hf] at h
    dsimp only at h
    cases hb : fn.body with
    | none => rw [hb] at h; cases h
    | some c =>
      rw [hb] at h
      dsimp only at h
      cases hn : Nat.ble fn.ntmps 256 with
      | false => rw [hn] at h; cases h
      | true =>
        rw [hn] at h
        dsimp only at h
        obtain ⟨g, eg⟩ := Bx.ex (cC P fn.ntmps c)
        obtain ⟨r, er⟩ := Bx.ex (ressK P fn.results.toList)
        rw [eg, er] at h
        obtain ⟨hl, h⟩ := boolF h
        rw [fillF_eq] at h
        have hl := nble.1 hl
        rw [llen_eq] at hl
        obtain ⟨e, s, h1, h2, h3⟩ := cC_ok (P := P) (X := X) fn.ntmps c F hF fuel ⟨f, none⟩ (fun tm df H => takeK df H fun H => r tm H fun vs => oneK vs fun v => k v H) (fun _ _ _ _ => false)
          (fun tm df H => takeK df H fun H => r tm H fun vs => oneK vs fun v => k v H) (fillTm (first ++ args ++ cap) 0 Tm.none) [] H (by rw [eg]; exact h)
        have fin : (∀ id, e ≠ .exit id) → (takeK s.df s.hp fun H => r s.tm H fun vs => oneK vs fun v => k v H) = true → ∃ v H', Ev P X (.call (.func f first cap) args H) (.val v H') ∧ k v H' = true := by
          intro he h3
          obtain ⟨H', h4, h5⟩ := takeK_ok h3
          obtain ⟨vs, h6, h7⟩ := ressK_ok (P := P) (l := fn.results.toList) (tm := s.tm) (H := H') (k := fun vs => oneK vs fun v => k v H') (by rw [er]; exact h5)
          rw [oneK_eq] at h7
          exact ⟨_, _, .fnBody hX hf hb (nble.1 hn) hl h1 he h4 h6, h7⟩
        cases e with
        | normal => exact fin (by intro id e; cases e) h3
        | ret => exact fin (by intro id e; cases e) h3
        | exit id => cases h3

theorem cFn_ok {F : FK} (hF : FKOk P X F) (hY : YOk P X Y) {fuel : Nat} {f : FuncId} {first cap args : List AV} {H : Heap} {k : VK} (h : (cFn P X Y f).out F fuel (first ++ args ++ cap) H k = true) :
    ∃ v H', Ev P X (.call (.func f first cap) args H) (.val v H') ∧ k v H' = true := by
  unfold cFn at h
  cases hX : X f with
  | some g =>
    rw [hX] at h
    obtain ⟨v, h1, h2⟩ := optT h
    exact ⟨v, H, .fnExt hX h1, h2⟩
  | none =>
    rw [hX] at h
    dsimp only at h
    cases hYf : Y f with
    | some g =>
      rw [hYf] at h
      obtain ⟨v, H', h1, h2⟩ := rK_ok h
      exact ⟨v, H', ev_join (hY f g hYf _ _ _ _ h1), h2⟩
    | none =>
      rw [hYf] at h
      exact bodyK_ok hF hX h

theorem setArgsK_ok {sz : Nat} : ∀ {ts : List Tmp} {vs : List AV} {tm : Tm} {k : Tm → Bool}, setArgsK ts vs sz tm k = true → ∀ df H, ∃ tm', setArgs ts vs ⟨tm, sz, df, H⟩ = some ⟨tm', sz, df, H⟩ ∧ k tm' = true
  | [], [], tm, k, h, df, H => ⟨tm, rfl, h⟩
  | [], v :: vs, tm, k, h, df, H => by cases h
  | t :: ts, [], tm, k, h, df, H => by cases h
  | t :: ts, v :: vs, tm, k, h, df, H => by
    have h : @Bx.rec PutT (fun _ => Bool) (fun p => p tm v fun tm => setArgsK ts vs sz tm k) (dstK sz (some t)) = true := h
    obtain ⟨p, ep⟩ := Bx.ex (dstK sz (some t))
    rw [ep] at h
    obtain ⟨tm1, h1, h2⟩ := dstK_ok (sz := sz) (dst := some t) (by rw [ep]; exact h) df H H
    obtain ⟨tm2, h3, h4⟩ := setArgsK_ok h2 df H
    refine ⟨tm2, ?_, h4⟩
    show (St.put ⟨tm, sz, df, H⟩ (some t) v H).bind (setArgs ts vs) = _
    rw [h1]; exact h3

theorem yieldK_ok {F : FK} (hF : FKOk P X F) {fuel l : Nat} {args : List AV} {H : Heap} {k : VK} (h : yieldK P F fuel l args H k = true) :
    ∃ v H', Ev P X (.call (.yield l) args H) (.val v H') ∧ k v H' = true := by
  obtain ⟨o, h1, h⟩ := getH_ok h
  obtain ⟨st, pe, fn, tm, sz, ps, as, bd, d, rfl, h⟩ := loopC_ok h
  obtain ⟨tm0, h2, h⟩ := setArgsK_ok h [] H
  obtain ⟨c1, e1⟩ := Bx.ex (cC P sz as)
  rw [e1] at h
  obtain ⟨e, s1, h3, h4, h5⟩ := cC_ok (P := P) (X := X) sz as F hF fuel ⟨fn, some l⟩ _ _ _ tm0 [] H (by rw [e1]; exact h)
  obtain ⟨tm1, sz1, df1, H1⟩ := s1
  obtain rfl : sz1 = sz := h4
  cases e with
  | exit id => cases h5
  | ret => cases h5
  | normal =>
    obtain ⟨o, h6, h7⟩ := getH_ok h5
    obtain ⟨st1, pe1, fn1, tm1', sz1', ps1, as1, bd1, d1, rfl, h8⟩ := loopC_ok h7
    obtain ⟨rfl, h9⟩ := isReady_ok h8
    rw [setH_eq] at h9
    obtain ⟨c2, e2⟩ := Bx.ex (cC P sz1 bd)
    rw [e2] at h9
    obtain ⟨e, s2, k1, k2, k3⟩ := cC_ok (P := P) (X := X) sz1 bd F hF fuel ⟨fn, some l⟩ (endK l k .normal) (fun id => endK l k (.exit id)) (endK l k .ret) tm1 df1 _ (by rw [e2]; exact h9)
    have fin : endK l k e s2.tm s2.df s2.hp = true := by cases e <;> exact k3
    obtain ⟨o, k4, k5⟩ := getH_ok fin
    obtain ⟨st2, pe2, fn2, tm2, sz2, ps2, as2, bd2, d2, rfl, k6⟩ := loopC_ok k5
    rw [setH_eq] at k6
    exact ⟨_, _, .yield h1 h2 h3 h6 k1 k4, k6⟩

theorem evF_ok (hY : YOk P X Y) {fuel : Nat} : ∀ n, FKOk P X (evF P X Y fuel n)
  | 0 => fun f as H k h => by cases h
  | n + 1 => fun f as H k h => by
    have hF := evF_ok hY (fuel := fuel) n
    have h : callK P X Y (evF P X Y fuel n) fuel f as H k = true := h
    cases f with
    | func f first cap =>
      have h : @Bx.rec FnT (fun _ => Bool) (fun g => g (evF P X Y fuel n) fuel (lapp first (lapp as cap)) H k) (cFn P X Y f) = true := h
      obtain ⟨g, eg⟩ := Bx.ex (cFn P X Y f)
      rw [eg] at h
      rw [lapp_eq, lapp_eq, ← List.append_assoc] at h
      exact cFn_ok hF hY (by rw [eg]; exact h)
    | yield l => exact yieldK_ok hF h
    | _ => cases h

/-- A run that is as is asked. -/
theorem runF_ev (hY : YOk P X Y) {fuel : Nat} {f : AV} {args : List AV} {H : Heap} {k : VK} (h : runF P X Y fuel f args H k = true) : ∃ v H', Ev P X (.call f args H) (.val v H') ∧ k v H' = true :=
  evF_ok hY fuel f args H k (boolF h).1

theorem trueF_ev (hY : YOk P X Y) {fuel : Nat} {f : FuncId} {args : List AV} (h : trueF P X Y fuel f args = true) : ∃ H', Ev P X (.call (.func f [] []) args ⟨.e, 0⟩) (.val (.bool true) H') := by
  obtain ⟨v, H', h1, h2⟩ := runF_ev hY h
  obtain ⟨b, rfl, h3⟩ := boolC_ok h2
  have h3 : b = true := h3
  subst h3
  exact ⟨H', h1⟩

/-- A closed run of the fast evaluator that comes to 'true' is a call of the model's that returns true. -/
theorem calls_trueF (O : Ok P X) (hY : YOk P X Y) {fuel : Nat} {f : FuncId} {args : List AV} (hX : X f = none) (h : trueF P X Y fuel f args = true) {ac : Array Value} (hl : VRs (fun _ => none) args ac.toList) (w : World) :
    Calls P f ac w fun e w' => e = .returned (.bool true) ∧ Below w.heap.size w w' := by
  obtain ⟨H', hev⟩ := trueF_ev hY h
  exact calls_bool O hX hev hl w

end Go.AM
