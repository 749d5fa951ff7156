/-
  What is stepped through is the machine's.
-/
import Derived.Test.YtdjlpdboochkhaaGreatAmSx
set_option linter.unusedVariables false
namespace Go.AM
open Go.RowKit

variable {P : Program} {X : Ext}

/-- A frame that is a function says what temporaries hold. -/
def Fr (tm : Tm) (f : FrF) : Prop := ∀ i, i < 256 → tm.get i = f i

theorem upd_self (f : FrF) (d : Nat) (v : AV) : upd f d v d = v := by unfold upd; rw [nbeq.2 rfl]; rfl
theorem upd_ne (f : FrF) {d i : Nat} (v : AV) (h : i ≠ d) : upd f d v i = f i := by unfold upd; rw [nbeqf.2 h]; rfl

theorem Fr.upd {tm : Tm} {f : FrF} (h : Fr tm f) {d : Nat} (hd : d < 256) (v : AV) : Fr (tm.put d v) (upd f d v) := by
  intro i hi
  rw [Tm.get_put _ _ _ _ hd hi]
  by_cases e : i = d
  · subst e; rw [if_pos rfl, upd_self]
  · rw [if_neg e, upd_ne _ _ e]; exact h i hi

theorem valS_ok {x : Operand} {tm : Tm} {f : FrF} (h : okX x = true) (hf : Fr tm f) : envOf tm x = some (valS f x) := by
  cases x with
  | tmp t =>
    have ht : t < 256 := nble.1 h
    show cond (Nat.ble (Nat.succ t) 256) (some (tm.get t)) none = some (f t)
    rw [show Nat.ble (Nat.succ t) 256 = true from h, hf t ht]; rfl
  | const v =>
    show ofV v = some (@Option.rec AV (fun _ => AV) undefA (fun a => a) (ofV v))
    have h : (ofV v).isSome = true := h
    cases hv : ofV v with
    | none => rw [hv] at h; cases h
    | some a => rfl
  | global g => cases h
  | func g => rfl

theorem valsS_ok {l : List Operand} {tm : Tm} {f : FrF} (h : l.all okX = true) (hf : Fr tm f) : argsA (envOf tm) l = some (l.map (valS f)) := by
  induction l with
  | nil => rfl
  | cons x l ih =>
    rw [List.all_cons, Bool.and_eq_true] at h
    show ((envOf tm x).bind fun v => (argsA (envOf tm) l).bind fun vs => some (v :: vs)) = _
    rw [valS_ok h.1 hf, ih h.2]; rfl

theorem putd_ok {dst : Option Tmp} {sz : Nat} {tm : Tm} {f : FrF} (h : (match dst with | none => true | some d => Nat.ble (Nat.succ d) sz) = true) (hsz : sz ≤ 256) (hf : Fr tm f) (v : AV) (df : List Nat) (H0 H : Heap) :
    ∃ tm', St.put ⟨tm, sz, df, H0⟩ dst v H = some ⟨tm', sz, df, H⟩ ∧ Fr tm' (putd f dst v) := by
  cases dst with
  | none => exact ⟨tm, rfl, hf⟩
  | some d =>
    have hd : d < sz := nble.1 h
    refine ⟨tm.put d v, ?_, hf.upd (Nat.lt_of_lt_of_le hd hsz) v⟩
    show cond (Nat.ble (Nat.succ d) sz) _ none = _
    rw [show Nat.ble (Nat.succ d) sz = true from h]; rfl

theorem opS_ok {op : Op} {tm : Tm} {f : FrF} {H : Heap} {k : HK} (hop : op.operands.toList.all okX = true) (hf : Fr tm f) (h : opS P op f H k) : ∃ v H', opA P (envOf tm) H op = some (v, H') ∧ k v H' := by
  have e : opA P (envV f) H op = opA P (envOf tm) H op := opA_congr fun x hx => (valS_ok (List.all_eq_true.1 hop x (by simpa using hx)) hf).symm
  have mv : ∀ x, op = .move x ∨ op = .assign x → k (valS f x) H → ∃ v H', opA P (envOf tm) H op = some (v, H') ∧ k v H' := by
    intro x hx hk
    refine ⟨valS f x, H, ?_, hk⟩
    rw [← e]
    rcases hx with rfl | rfl <;> rfl
  unfold opS at h
  split at h
  · exact mv _ (.inl rfl) h
  · exact mv _ (.inr rfl) h
  · obtain ⟨v, H', h1, h2⟩ := OS2_ex h
    exact ⟨v, H', e ▸ h1, h2⟩

structure OpGood (sz : Nat) (all : List Oper) (o : Oper) : Prop where
  ops : o.op.operands.toList.all okX = true
  dst : (match o.dst with | none => true | some d => Nat.ble (Nat.succ d) sz) = true
  call : (match callOf o.op with | none => true | some (c, args) => okX c && args.toList.all okX) = true
  guard : (match o.guard with | none => true | some q => (match opDst all q.1 with | none => false | some d => Nat.ble (Nat.succ d) 256)) = true

theorem okO_good {sz : Nat} {all : List Oper} {o : Oper} (h : okO sz all o = true) : OpGood sz all o := by
  unfold okO at h
  simp only [Bool.and_eq_true] at h
  exact ⟨h.1.1.1, h.1.1.2, h.1.2, h.2⟩

theorem workS_ok {sz : Nat} {all : List Oper} {o : Oper} (g : OpGood sz all o) (hsz : sz ≤ 256) {tm : Tm} {f : FrF} {df : List Nat} {H : Heap} {k : HK} (hf : Fr tm f) (hw : wantedA all tm o = true) (h : workS P X o f H k) :
    ∃ tm' H' v, Ev P X (.op all o ⟨tm, sz, df, H⟩) (.st .normal ⟨tm', sz, df, H'⟩) ∧ Fr tm' (putd f o.dst v) ∧ k v H' := by
  unfold workS at h
  have gc := g.call
  cases hc : callOf o.op with
  | none =>
    rw [hc] at h
    obtain ⟨v, H', h1, h2⟩ := opS_ok g.ops hf h
    obtain ⟨tm', h3, h4⟩ := putd_ok g.dst hsz hf v df H H'
    exact ⟨tm', H', v, .opPlain hw hc h1 h3, h4, h2⟩
  | some q =>
    obtain ⟨c, args⟩ := q
    rw [hc] at h gc
    simp only [Bool.and_eq_true] at gc
    obtain ⟨v, H', h1, h2⟩ := h
    obtain ⟨tm', h3, h4⟩ := putd_ok g.dst hsz hf v df H H'
    exact ⟨tm', H', v, .opCall hw hc (valS_ok gc.1 hf) (valsS_ok gc.2 hf) h1 h3, h4, h2⟩

/-- Operations, one behind the other. -/
inductive Stps (P : Program) (X : Ext) (all : List Oper) : List Oper → St → St → Prop
  | nil {s} : Stps P X all [] s s
  | cons {o l s s1 s2} : Ev P X (.op all o s) (.st .normal s1) → Stps P X all l s1 s2 → Stps P X all (o :: l) s s2

theorem Stps.append {all l m : List Oper} {s s1 s2 : St} (h : Stps P X all l s s1) (k : Stps P X all m s1 s2) : Stps P X all (l ++ m) s s2 := by
  induction h with
  | nil => exact k
  | cons h _ ih => exact .cons h (ih k)

theorem Stps.fn {all l : List Oper} {s s' : St} (h : Stps P X all l s s') : ∃ ss : Nat → St, ss 0 = s ∧ ss l.length = s' ∧ ∀ i o, l[i]? = some o → Ev P X (.op all o (ss i)) (.st .normal (ss (i + 1))) := by
  induction h with
  | nil => exact ⟨fun _ => _, rfl, rfl, fun i o h => by simp at h⟩
  | @cons o l s s1 s2 h _ ih =>
    obtain ⟨ss, k1, k2, k3⟩ := ih
    refine ⟨fun i => match i with | 0 => s | i + 1 => ss i, rfl, k2, fun i o' ho => ?_⟩
    cases i with
    | zero =>
      simp at ho
      subst ho
      show Ev P X (.op all o s) (.st .normal (ss 0))
      rw [k1]; exact h
    | succ i =>
      simp only [List.getElem?_cons_succ] at ho
      exact k3 i o' ho

theorem wanted_none {all : List Oper} {tm : Tm} {o : Oper} (h : o.guard = none) : wantedA all tm o = true := by unfold wantedA; rw [h]
theorem wanted_some {all : List Oper} {tm : Tm} {o : Oper} {q : Nat × Bool} {d : Nat} (h : o.guard = some q) (hd : opDst all q.1 = some d) : wantedA all tm o = guardB tm q.2 d := by
  unfold wantedA
  rw [h]
  show (Option.casesOn ((lget all q.1).bind fun o => o.dst) false fun d => guardB tm q.2 d : Bool) = _
  have : ((lget all q.1).bind fun o => o.dst) = some d := by
    rw [lget_eq]
    unfold opDst at hd
    cases ho : all[q.1]? with
    | none => rw [ho] at hd; cases hd
    | some o' => rw [ho] at hd; exact hd
  rw [this]

theorem guardIs_eq {q : Nat × Bool} {o : Oper} (h : guardIs q o = true) : o.guard = some q := by
  unfold guardIs at h
  split at h
  · rename_i g b hg
    simp only [Bool.and_eq_true, beq_iff_eq] at h
    rw [hg]
    have := nbeq.1 h.1
    subst this
    rw [h.2]
  · cases h

theorem takeG_dropG (q : Nat × Bool) (l : List Oper) : takeG q l ++ dropG q l = l := by
  induction l with
  | nil => rfl
  | cons o l ih =>
    show (cond (guardIs q o) (o :: takeG q l) []) ++ (cond (guardIs q o) (dropG q l) (o :: l)) = _
    cases guardIs q o
    · rfl
    · show o :: (takeG q l ++ dropG q l) = _; rw [ih]

theorem takeG_guard {q : Nat × Bool} {l : List Oper} : ∀ o ∈ takeG q l, guardIs q o = true := by
  induction l with
  | nil => intro o h; cases h
  | cons x l ih =>
    intro o h
    have h : o ∈ cond (guardIs q x) (x :: takeG q l) [] := h
    cases hx : guardIs q x with
    | false => rw [hx] at h; cases h
    | true =>
      rw [hx] at h
      cases h with
      | head => exact hx
      | tail _ h => exact ih o h

theorem dropG_le (q : Nat × Bool) (l : List Oper) : (dropG q l).length ≤ l.length := by
  have := congrArg List.length (takeG_dropG q l)
  simp only [List.length_append] at this
  omega

/-- A guard's group is done. -/
theorem stepsU_ok {sz : Nat} {all : List Oper} (hsz : sz ≤ 256) {q : Nat × Bool} {d : Nat} (hd : opDst all q.1 = some d) (hd2 : d < 256) {df : List Nat} : ∀ {l : List Oper}, (∀ o ∈ l, OpGood sz all o) → (∀ o ∈ l, o.guard = some q ∧ o.dst ≠ some d) →
    ∀ {tm : Tm} {f : FrF} {H : Heap} {k : PK}, Fr tm f → f d = .bool q.2 → stepsU P X l f H k → ∃ tm' H' f', Stps P X all l ⟨tm, sz, df, H⟩ ⟨tm', sz, df, H'⟩ ∧ Fr tm' f' ∧ k f' H'
  | [], _, _, tm, f, H, k, hf, _, h => ⟨tm, H, f, .nil, hf, h⟩
  | o :: l, hg, hq, tm, f, H, k, hf, hv, h => by
    have ho := hq o (List.mem_cons_self ..)
    have hw : wantedA all tm o = true := by
      rw [wanted_some ho.1 hd, guardB_iff]
      unfold tget
      rw [nble.2 (show Nat.succ d ≤ 256 from hd2), hf d hd2, hv]; rfl
    obtain ⟨tm1, H1, v, h1, h2, h3⟩ := workS_ok (df := df) (hg o (List.mem_cons_self ..)) hsz hf hw h
    have hv1 : putd f o.dst v d = .bool q.2 := by
      cases hdst : o.dst with
      | none => exact hv
      | some e =>
        have : d ≠ e := fun x => ho.2 (by rw [hdst, x])
        exact (upd_ne f v this).trans hv
    obtain ⟨tm2, H2, f2, h4, h5, h6⟩ := stepsU_ok hsz hd hd2 (fun o h => hg o (List.mem_cons_of_mem _ h)) (fun o h => hq o (List.mem_cons_of_mem _ h)) h2 hv1 h3
    exact ⟨tm2, H2, f2, .cons h1 h4, h5, h6⟩

/-- A guard's group is passed by. -/
theorem undefs_ok {sz : Nat} {all : List Oper} (hsz : sz ≤ 256) {q : Nat × Bool} {d : Nat} (hd : opDst all q.1 = some d) (hd2 : d < 256) {df : List Nat} {H : Heap} : ∀ {l : List Oper}, (∀ o ∈ l, OpGood sz all o) → (∀ o ∈ l, o.guard = some q ∧ o.dst ≠ some d) →
    ∀ {tm : Tm} {f : FrF}, Fr tm f → f d ≠ .bool q.2 → ∃ tm', Stps P X all l ⟨tm, sz, df, H⟩ ⟨tm', sz, df, H⟩ ∧ Fr tm' (undefs l f)
  | [], _, _, tm, f, hf, _ => ⟨tm, .nil, hf⟩
  | o :: l, hg, hq, tm, f, hf, hv => by
    have ho := hq o (List.mem_cons_self ..)
    have hw : wantedA all tm o = false := by
      rw [wanted_some ho.1 hd]
      cases hb : guardB tm q.2 d with
      | false => rfl
      | true =>
        rw [guardB_iff] at hb
        unfold tget at hb
        rw [nble.2 (show Nat.succ d ≤ 256 from hd2), hf d hd2] at hb
        exact absurd (Option.some.inj hb) hv
    obtain ⟨tm1, h1, h2⟩ := putd_ok (hg o (List.mem_cons_self ..)).dst hsz hf undefA df H H
    have hv1 : putd f o.dst undefA d ≠ .bool q.2 := by
      cases hdst : o.dst with
      | none => exact hv
      | some e =>
        have : d ≠ e := fun x => ho.2 (by rw [hdst, x])
        show upd f e undefA d ≠ _
        rw [upd_ne f _ this]; exact hv
    obtain ⟨tm2, h3, h4⟩ := undefs_ok hsz hd hd2 (fun o h => hg o (List.mem_cons_of_mem _ h)) (fun o h => hq o (List.mem_cons_of_mem _ h)) h2 hv1
    exact ⟨tm2, .cons (.opSkip hw h1) h3, h4⟩

theorem guardS_ok {want : Bool} {v : AV} {t e : Prop} (h : guardS want v t e) : (v = .bool want ∧ t) ∨ (v ≠ .bool want ∧ e) := by
  cases v with
  | bool b => cases b <;> cases want <;> first | exact .inl ⟨rfl, h⟩ | exact .inr ⟨(by intro e; cases e), h⟩
  | _ => exact .inr ⟨(by intro e; cases e), h⟩

theorem stepsS_drop (all : List Oper) (q : Nat × Bool) (l : List Oper) (f : FrF) (H : Heap) (k : PK) : stepsS P X all l (some q) f H k = stepsS P X all (dropG q l) none f H k := by
  induction l with
  | nil => rfl
  | cons o l ih =>
    show @Bool.rec (fun _ => Prop) _ (stepsS P X all l (some q) f H k) (guardIs q o) = stepsS P X all (cond (guardIs q o) (dropG q l) (o :: l)) none f H k
    cases hg : guardIs q o with
    | true => exact ih
    | false => rfl

theorem okG_mem {all l : List Oper} (h : okG all l = true) {o o' : Oper} (ho : o ∈ l) (ho' : o' ∈ l) {q : Nat × Bool} (hq : o.guard = some q) {d : Nat} (hd : opDst all q.1 = some d) (hg : guardIs q o' = true) : o'.dst ≠ some d := by
  have h1 := List.all_eq_true.1 h o ho
  rw [hq] at h1
  dsimp only at h1
  rw [hd] at h1
  have h2 := List.all_eq_true.1 h1 o' ho'
  rw [hg] at h2
  intro e
  rw [e] at h2
  simp at h2

theorem stepsS_ok {sz : Nat} {all : List Oper} (hsz : sz ≤ 256) (hall : okG all all = true) {df : List Nat} : ∀ (n : Nat) {l : List Oper}, l.length ≤ n → (∀ o ∈ l, OpGood sz all o) → (∀ o ∈ l, o ∈ all) →
    ∀ {tm : Tm} {f : FrF} {H : Heap} {k : PK}, Fr tm f → stepsS P X all l none f H k → ∃ tm' H' f', Stps P X all l ⟨tm, sz, df, H⟩ ⟨tm', sz, df, H'⟩ ∧ Fr tm' f' ∧ k f' H'
  | _, [], _, _, _, tm, f, H, k, hf, h => ⟨tm, H, f, .nil, hf, h⟩
  | 0, o :: l, hn, _, _, _, _, _, _, _, _ => by simp at hn
  | n + 1, o :: l, hn, hg, hin, tm, f, H, k, hf, h => by
    have hn : l.length ≤ n := by simpa using hn
    have h : (match o.guard with
      | none => workS P X o f H fun v H => stepsS P X all l none (putd f o.dst v) H k
      | some q => match opDst all q.1 with
        | none => False
        | some d => guardS q.2 (f d) (stepsU P X (o :: takeG q l) f H fun f H => stepsS P X all l (some q) f H k) (stepsS P X all l (some q) (undefs (o :: takeG q l) f) H k)) := h
    cases hgd : o.guard with
    | none =>
      rw [hgd] at h
      obtain ⟨tm1, H1, v, h1, h2, h3⟩ := workS_ok (df := df) (hg o (List.mem_cons_self ..)) hsz hf (wanted_none hgd) h
      obtain ⟨tm2, H2, f2, h4, h5, h6⟩ := stepsS_ok hsz hall n hn (fun o h => hg o (List.mem_cons_of_mem _ h)) (fun o h => hin o (List.mem_cons_of_mem _ h)) h2 h3
      exact ⟨tm2, H2, f2, .cons h1 h4, h5, h6⟩
    | some q =>
      rw [hgd] at h
      dsimp only at h
      have gg := (hg o (List.mem_cons_self ..)).guard
      rw [hgd] at gg
      dsimp only at gg
      cases hd : opDst all q.1 with
      | none => rw [hd] at h; cases h
      | some d =>
        rw [hd] at h gg
        have hd2 : d < 256 := nble.1 gg
        have hgrp : ∀ x ∈ o :: takeG q l, x ∈ o :: l ∧ guardIs q x = true := by
          intro x hx
          cases hx with
          | head => exact ⟨List.mem_cons_self .., by unfold guardIs; rw [hgd]; simp⟩
          | tail _ hx => exact ⟨List.mem_cons_of_mem _ (by rw [← takeG_dropG q l]; exact List.mem_append_left _ hx), takeG_guard x hx⟩
        have hgood : ∀ x ∈ o :: takeG q l, OpGood sz all x := fun x hx => hg x (hgrp x hx).1
        have hq : ∀ x ∈ o :: takeG q l, x.guard = some q ∧ x.dst ≠ some d := fun x hx =>
          ⟨guardIs_eq (hgrp x hx).2, okG_mem hall (hin o (List.mem_cons_self ..)) (hin x (hgrp x hx).1) hgd hd (hgrp x hx).2⟩
        have hdl : (dropG q l).length ≤ n := Nat.le_trans (dropG_le q l) hn
        have hdm : ∀ x ∈ dropG q l, x ∈ o :: l := fun x hx => List.mem_cons_of_mem _ (by rw [← takeG_dropG q l]; exact List.mem_append_right _ hx)
        have fin : ∀ {tm1 : Tm} {H1 : Heap} {f1 : FrF}, Stps P X all (o :: takeG q l) ⟨tm, sz, df, H⟩ ⟨tm1, sz, df, H1⟩ → Fr tm1 f1 → stepsS P X all l (some q) f1 H1 k →
            ∃ tm' H' f', Stps P X all (o :: l) ⟨tm, sz, df, H⟩ ⟨tm', sz, df, H'⟩ ∧ Fr tm' f' ∧ k f' H' := by
          intro tm1 H1 f1 h1 h2 h3
          rw [stepsS_drop] at h3
          obtain ⟨tm2, H2, f2, h4, h5, h6⟩ := stepsS_ok hsz hall n hdl (fun x hx => hg x (hdm x hx)) (fun x hx => hin x (hdm x hx)) h2 h3
          refine ⟨tm2, H2, f2, ?_, h5, h6⟩
          have := h1.append h4
          rwa [List.cons_append, takeG_dropG] at this
        rcases guardS_ok h with ⟨hv, h⟩ | ⟨hv, h⟩
        · obtain ⟨tm1, H1, f1, h1, h2, h3⟩ := stepsU_ok (df := df) hsz hd hd2 hgood hq hf hv h
          exact fin h1 h2 h3
        · obtain ⟨tm1, h1, h2⟩ := undefs_ok (P := P) (X := X) (df := df) (H := H) hsz hd hd2 hgood hq hf hv
          exact fin h1 h2 h

theorem boolS_ok {v : AV} {t e : Prop} (h : boolS v t e) : (v = .bool true ∧ t) ∨ (v = .bool false ∧ e) := by
  cases v with
  | bool b => cases b
              · exact .inr ⟨rfl, h⟩
              · exact .inl ⟨rfl, h⟩
  | _ => cases h

/-- How a piece of code ends. -/
def EndP (kn : PK) (kx : Nat → PK) (kr : PK) (sz : Nat) (df : List Nat) (e : AExit) (s : St) : Prop :=
  s.sz = sz ∧ s.df = df ∧ ∃ f, Fr s.tm f ∧ (match e with | .normal => kn f s.hp | .exit id => kx id f s.hp | .ret => kr f s.hp)

theorem evP_ok {sz : Nat} (hsz : sz ≤ 256) {c : Code} (hok : okC P sz c = true) : ∀ {kn : PK} {kx : Nat → PK} {kr : PK} {f : FrF} {H : Heap} {tm : Tm} {df : List Nat} {cx : Cx}, Fr tm f → evP P X c kn kx kr f H →
    ∃ e s, Ev P X (.code c cx ⟨tm, sz, df, H⟩) (.st e s) ∧ EndP kn kx kr sz df e s := by
  induction c with
  | skip => intro kn kx kr f H tm df cx hf h; exact ⟨_, _, .skip, rfl, rfl, f, hf, h⟩
  | region id ops draw =>
    intro kn kx kr f H tm df cx hf h
    have hok : okR P sz ops.toList draw = true := hok
    unfold okR at hok
    simp only [Bool.and_eq_true] at hok
    obtain ⟨⟨h1, h2⟩, h3⟩ := hok
    obtain ⟨tm', H', f', k1, k2, k3⟩ := stepsS_ok (P := P) (X := X) (df := df) hsz h2 ops.toList.length (Nat.le_refl _) (fun o ho => okO_good (List.all_eq_true.1 h1 o ho)) (fun o ho => ho) hf h
    obtain ⟨ss, e1, e2, e3⟩ := k1.fn
    refine ⟨.normal, ⟨tm', sz, df, H'⟩, ?_, rfl, rfl, f', k2, k3⟩
    rw [← e1, ← e2]
    refine .region ss e3 fun hd => ?_
    rw [hd] at h3
    simp only [Bool.not_true, Bool.false_or, Bool.and_eq_true, List.isEmpty_iff] at h3
    exact ⟨h3.1, fun p hp => by rw [h3.2] at hp; cases hp⟩
  | seq a b iha ihb =>
    intro kn kx kr f H tm df cx hf h
    have hok : (okC P sz a && okC P sz b) = true := hok
    rw [Bool.and_eq_true] at hok
    obtain ⟨e, s, h1, h2, h3, f1, h4, h5⟩ := iha hok.1 (kn := fun f H => evP P X b kn kx kr f H) (df := df) (cx := cx) hf h
    obtain ⟨tm', sz', df', H'⟩ := s
    obtain rfl : sz' = sz := h2
    obtain rfl : df' = df := h3
    cases e with
    | normal =>
      obtain ⟨e2, s2, k1, k2⟩ := ihb hok.2 (df := df') (cx := cx) h4 h5
      exact ⟨e2, s2, .seqN h1 k1, k2⟩
    | exit id => exact ⟨_, _, .seqX h1 (by intro e; cases e), rfl, rfl, f1, h4, h5⟩
    | ret => exact ⟨_, _, .seqX h1 (by intro e; cases e), rfl, rfl, f1, h4, h5⟩
  | cond c a b iha ihb =>
    intro kn kx kr f H tm df cx hf h
    have hok : (okX c && okC P sz a && okC P sz b) = true := hok
    simp only [Bool.and_eq_true] at hok
    have hc := valS_ok hok.1.1 hf
    rcases boolS_ok h with ⟨hv, h⟩ | ⟨hv, h⟩
    · rw [hv] at hc
      obtain ⟨e, s, h1, h2⟩ := iha hok.1.2 (df := df) (cx := cx) hf h
      exact ⟨e, s, .condT hc h1, h2⟩
    · rw [hv] at hc
      obtain ⟨e, s, h1, h2⟩ := ihb hok.2 (df := df) (cx := cx) hf h
      exact ⟨e, s, .condF hc h1, h2⟩
  | block id b ih =>
    intro kn kx kr f H tm df cx hf h
    obtain ⟨e, s, h1, h2, h3, f1, h4, h5⟩ := ih hok (kn := kn) (kx := fun id' f H => cond (Nat.beq id' id) (kn f H) (kx id' f H)) (kr := kr) (df := df) (cx := cx) hf h
    cases e with
    | normal => exact ⟨_, _, .blockN h1, h2, h3, f1, h4, h5⟩
    | ret => exact ⟨_, _, .blockR h1, h2, h3, f1, h4, h5⟩
    | exit id' =>
      cases hb : Nat.beq id' id with
      | true =>
        have := nbeq.1 hb
        subst this
        have h5 : cond (Nat.beq id' id') (kn f1 s.hp) (kx id' f1 s.hp) := h5
        rw [hb] at h5
        exact ⟨_, _, .blockE h1, h2, h3, f1, h4, h5⟩
      | false =>
        have h5 : cond (Nat.beq id' id) (kn f1 s.hp) (kx id' f1 s.hp) := h5
        rw [hb] at h5
        exact ⟨_, _, .blockX h1 (nbeqf.1 hb), h2, h3, f1, h4, h5⟩
  | loop b ih =>
    intro kn kx kr f H tm df cx hf h
    obtain ⟨n, h⟩ := h
    revert f H tm
    induction n with
    | zero => intro f H tm hf h; cases h
    | succ n ihn =>
      intro f H tm hf h
      obtain ⟨e, s, h1, h2, h3, f1, h4, h5⟩ := ih hok (kx := kx) (kr := kr) (df := df) (cx := cx) hf h
      obtain ⟨tm', sz', df', H'⟩ := s
      obtain rfl : sz' = sz := h2
      obtain rfl : df' = df := h3
      cases e with
      | normal =>
        obtain ⟨e2, s2, k1, k2⟩ := ihn h4 h5
        exact ⟨e2, s2, .loopN h1 k1, k2⟩
      | exit id => exact ⟨_, _, .loopX h1 (by intro e; cases e), rfl, rfl, f1, h4, h5⟩
      | ret => exact ⟨_, _, .loopX h1 (by intro e; cases e), rfl, rfl, f1, h4, h5⟩
  | rangeFunc f ps as bd _ _ => cases hok
  | exit id => intro kn kx kr f H tm df cx hf h; exact ⟨_, _, .exit, rfl, rfl, f, hf, h⟩
  | scope b ih =>
    intro kn kx kr f H tm df cx hf h
    obtain ⟨e, s, h1, h2⟩ := ih hok (df := df) (cx := cx) hf h
    exact ⟨e, s, .scope h1, h2⟩
  | label l => intro kn kx kr f H tm df cx hf h; exact ⟨_, _, .label, rfl, rfl, f, hf, h⟩
  | goto l => cases hok
  | ret => intro kn kx kr f H tm df cx hf h; exact ⟨_, _, .ret, rfl, rfl, f, hf, h⟩
  | refuse w => cases hok

/-! ### Functions -/
/-- A frame of arguments. -/
noncomputable def frF (l : List AV) : FrF := @List.rec AV (fun _ => FrF) (fun _ => undefA) (fun v _ ih i => @Nat.rec (fun _ => AV) v (fun j _ => ih j) i) l

theorem frF_get (l : List AV) : ∀ i, frF l i = l.getD i undefA := by
  induction l with
  | nil => intro i; rfl
  | cons v l ih =>
    intro i
    cases i with
    | zero => rfl
    | succ i => show frF l i = _; rw [ih, List.getD_cons_succ]

theorem frF_Fr {l : List AV} (h : l.length ≤ 256) : Fr (fillTm l 0 Tm.none) (frF l) := by
  intro i hi
  rw [fillTm_get l 0 Tm.none i (by omega) hi, frF_get]
  by_cases h1 : i < l.length
  · rw [if_pos ⟨Nat.zero_le _, by omega⟩, Nat.sub_zero]
  · rw [if_neg (by omega), Tm.get_none, List.getD_eq_getElem?_getD, List.getElem?_eq_none (by omega)]; rfl

noncomputable def resS (P : Program) (f : FrF) (H : Heap) (x : ResultVar) : Option AV :=
  @ResultVar.rec (fun _ => Option AV) (fun t => some (f t)) (fun a t => asPtr (f a) fun id off => oLoad P H t id off) x
noncomputable def ressS (P : Program) (f : FrF) (H : Heap) (l : List ResultVar) : Option (List AV) :=
  @List.rec ResultVar (fun _ => Option (List AV)) (some []) (fun x _ ih => (resS P f H x).bind fun v => ih.bind fun vs => some (v :: vs)) l
/-- What a function hands back. -/
noncomputable def endS (P : Program) (l : List ResultVar) (Q : HK) : PK := fun f H => OS2 ((ressS P f H l).bind fun vs => some (one vs, H)) Q
def okV (l : List ResultVar) : Bool := l.all fun x => match x with
  | .tmp t => Nat.ble (Nat.succ t) 256
  | .cell a _ => Nat.ble (Nat.succ a) 256

theorem ressS_ok {l : List ResultVar} {f : FrF} {tm : Tm} {H : Heap} (h : okV l = true) (hf : Fr tm f) : resultsA P tm H l = ressS P f H l := by
  induction l with
  | nil => rfl
  | cons x l ih =>
    unfold okV at h
    rw [List.all_cons, Bool.and_eq_true] at h
    show ((resA P tm H x).bind fun v => (resultsA P tm H l).bind fun vs => some (v :: vs)) = (resS P f H x).bind fun v => (ressS P f H l).bind fun vs => some (v :: vs)
    rw [ih h.2]
    have : resA P tm H x = resS P f H x := by
      cases x with
      | tmp t =>
        have ht : t < 256 := nble.1 h.1
        show cond (Nat.ble (Nat.succ t) 256) (some (tm.get t)) none = some (f t)
        rw [show Nat.ble (Nat.succ t) 256 = true from h.1, hf t ht]; rfl
      | cell a t =>
        have ht : a < 256 := nble.1 h.1
        show ((cond (Nat.ble (Nat.succ a) 256) (some (tm.get a)) none).bind fun p => asPtr p fun id off => oLoad P H t id off) = asPtr (f a) fun id off => oLoad P H t id off
        rw [show Nat.ble (Nat.succ a) 256 = true from h.1, hf a ht]; rfl
    rw [this]

/-- May a function be stepped through so? -/
noncomputable def okF (P : Program) (f : FuncId) : Bool := match P.funcs[f]? with
  | none => false
  | some fn => match fn.body with
    | none => false
    | some c => Nat.ble fn.ntmps 256 && okC P fn.ntmps c && okV fn.results.toList
noncomputable def bodyOf (P : Program) (f : FuncId) : Code := match P.funcs[f]? with
  | none => .skip
  | some fn => match fn.body with
    | none => .skip
    | some c => c
noncomputable def resOf (P : Program) (f : FuncId) : List ResultVar := match P.funcs[f]? with
  | none => []
  | some fn => fn.results.toList
noncomputable def szF (P : Program) (f : FuncId) : Nat := match P.funcs[f]? with
  | none => 0
  | some fn => fn.ntmps

/-- A function is stepped through. -/
theorem WF_fn {f : FuncId} (hX : X f = none) (hok : okF P f = true) {first cap args : List AV} {H : Heap} {Q : HK} (hl : Nat.ble (first ++ args ++ cap).length (szF P f) = true)
    (h : evP P X (bodyOf P f) (endS P (resOf P f) Q) nk (endS P (resOf P f) Q) (frF (first ++ args ++ cap)) H) : WF P X (.func f first cap) args H Q := by
  unfold okF at hok
  unfold bodyOf resOf at h
  unfold szF at hl
  cases hf : P.funcs[f]? with
  | none => rw [hf] at hok; cases hok
  | some fn =>
    rw [hf] at hok h hl
    dsimp only at hok h hl
    cases hb : fn.body with
    | none => rw [hb] at hok; cases hok
    | some c =>
      rw [hb] at hok h
      simp only [Bool.and_eq_true] at hok
      have hn : fn.ntmps ≤ 256 := nble.1 hok.1.1
      have hl := nble.1 hl
      obtain ⟨e, s, h1, h2, h3, f1, h4, h5⟩ := evP_ok (P := P) (X := X) hn hok.1.2 (df := []) (cx := ⟨f, none⟩) (frF_Fr (by omega)) h
      have fin : (∀ id, e ≠ .exit id) → endS P fn.results.toList Q f1 s.hp → WF P X (.func f first cap) args H Q := by
        intro he h
        obtain ⟨v, H', k1, k2⟩ := OS2_ex h
        cases hr : ressS P f1 s.hp fn.results.toList with
        | none => rw [hr] at k1; cases k1
        | some vs =>
          rw [hr] at k1
          cases k1
          refine ⟨one vs, s.hp, .fnBody hX hf hb hn hl h1 he (H' := s.hp) ?_ ?_, k2⟩
          · rw [h3]; rfl
          · rw [ressS_ok hok.2 h4]; exact hr
      cases e with
      | normal => exact fin (by intro id e; cases e) h5
      | ret => exact fin (by intro id e; cases e) h5
      | exit id => cases h5

end Go.AM
