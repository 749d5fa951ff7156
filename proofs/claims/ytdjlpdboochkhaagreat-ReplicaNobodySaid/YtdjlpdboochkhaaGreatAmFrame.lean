/-
  Frames: what the abstract machine's states say of the model's, and one operation's step.
-/
import Derived.Test.YtdjlpdboochkhaaGreatAmCls
import Derived.AtR
import Derived.Orders
set_option linter.unusedVariables false
namespace Go.AM
open Go.RowKit

variable {P : Program} {B : Nat} {w0 w : World} {σ : Sg} {H : Heap}

/-- Marks of ranges over functions. -/
inductive DR (σ : Sg) : List Nat → List Deferred → Prop
  | nil : DR σ [] []
  | cons {id p l ds} : σ id = some p → DR σ l ds → DR σ (id :: l) ({ target := .collected p.b, args := #[] } :: ds)

theorem DR.mono {σ σ' : Sg} (hl : Le σ σ') {l : List Nat} {ds : List Deferred} (h : DR σ l ds) : DR σ' l ds := by
  induction h with
  | nil => exact .nil
  | cons h _ ih => exact .cons (hl _ _ h) ih

theorem DR.append {l m : List Nat} {ds es : List Deferred} (h : DR σ l ds) (k : DR σ m es) : DR σ (l ++ m) (ds ++ es) := by
  induction h with
  | nil => exact k
  | cons h _ ih => exact .cons h ih

/-- A frame's state. -/
def SR (σ : Sg) (s : St) (a : Act) : Prop := TR σ s.tm s.sz a.tmps ∧ DR σ s.df a.defers

theorem SR.mono {σ σ' : Sg} (hl : Le σ σ') {s : St} {a : Act} (h : SR σ s a) : SR σ' s a := ⟨h.1.mono hl, h.2.mono hl⟩

/-- A frame of a function, or of a round. -/
def FrR (σ : Sg) (cx : Cx) (b : Frame) : Prop := b.fn = cx.fn ∧ b.kind = .normal ∧ (match cx.rd with | none => b.roundOf = none | some l => ∃ p, σ l = some p ∧ b.roundOf = some p.b)

theorem FrR.mono {σ σ' : Sg} (hl : Le σ σ') {cx : Cx} {b : Frame} (h : FrR σ cx b) : FrR σ' cx b := by
  obtain ⟨h1, h2, h3⟩ := h
  refine ⟨h1, h2, ?_⟩
  cases hr : cx.rd with
  | none => rw [hr] at h3; exact h3
  | some l => rw [hr] at h3; obtain ⟨p, hp, e⟩ := h3; exact ⟨p, hl _ _ hp, e⟩

theorem tget_some {tm : Tm} {t : Nat} {v : AV} (h : tget tm t = some v) : t < 256 ∧ v = tm.get t := by
  obtain ⟨h1, h⟩ := cond_some h
  cases h
  exact ⟨nble.1 h1, rfl⟩

theorem TR.get {tm : Tm} {sz : Nat} {tmps : Array Value} (h : TR σ tm sz tmps) {t : Nat} {v : AV} (hv : tget tm t = some v) : VR σ v (tmps.getD t undef) := by
  obtain ⟨h1, rfl⟩ := tget_some hv
  exact h.2.2.1 t h1

theorem envOf_plain {tm : Tm} {x : Operand} {v : AV} {a : Act} (h : envOf tm x = some v) (hx : ∀ t, x = .tmp t → VR σ v (a.tmps.getD t undef)) : VR σ v (a.eval x) := by
  cases x with
  | tmp t => exact hx t rfl
  | const c => exact ofV_VR h
  | global g => cases h
  | func f => cases h; exact ⟨#[], #[], rfl, rfl, rfl⟩

theorem SR.env {s : St} {a : Act} (h : SR σ s a) : EnvR σ (envOf s.tm) a.eval := by
  intro x v hv
  refine envOf_plain hv fun t e => ?_
  subst e
  exact h.1.get hv

/-- What an operation looks at. -/
def OpR (σ : Sg) (ops : List Oper) (o : Oper) (s : St) (a : Act) : Prop :=
  (∀ t v, .tmp t ∈ o.op.operands → tget s.tm t = some v → VR σ v (a.tmps.getD t undef)) ∧
  (∀ d ∈ guardDst ops o.guard, ∀ v, tget s.tm d = some v → VR σ v (a.tmps.getD d undef)) ∧
  (∀ t, 256 ≤ t → a.tmps.getD t undef = undef)

theorem SR.op {s : St} {a : Act} (h : SR σ s a) (ops : List Oper) (o : Oper) : OpR σ ops o s a :=
  ⟨fun _ _ _ hv => h.1.get hv, fun _ _ _ hv => h.1.get hv, h.1.2.2.2⟩

open Classical in
/-- The environment of an operation's operands alone. -/
noncomputable def envIn (tm : Tm) (o : Oper) : Env := fun x => if x ∈ o.op.operands then envOf tm x else none

theorem envIn_op {s : St} {o : Oper} : opA P (envIn s.tm o) H o.op = opA P (envOf s.tm) H o.op :=
  opA_congr fun x hx => by unfold envIn; rw [if_pos hx]

theorem OpR.env {ops : List Oper} {o : Oper} {s : St} {a : Act} (h : OpR σ ops o s a) : EnvR σ (envIn s.tm o) a.eval := by
  intro x v hv
  unfold envIn at hv
  split at hv
  · rename_i hx
    refine envOf_plain hv fun t e => ?_
    subst e
    exact h.1 t v hx hv
  · cases hv

theorem VR.bool_iff {x : AV} {v : Value} (h : VR σ x v) (b : Bool) : (v = .bool b ↔ x = .bool b) := by
  cases x with
  | bool c =>
    cases h
    constructor
    · intro e; cases e; rfl
    · intro e; cases e; rfl
  | int _ _ => cases h; constructor <;> (intro e; cases e)
  | str _ => obtain ⟨_, rfl, _⟩ := h; constructor <;> (intro e; cases e)
  | ptr _ _ => obtain ⟨_, _, _, rfl⟩ := h; constructor <;> (intro e; cases e)
  | nilp => cases h; constructor <;> (intro e; cases e)
  | slice _ _ _ _ => obtain ⟨_, _, _, rfl⟩ := h; constructor <;> (intro e; cases e)
  | oslice _ _ _ => obtain ⟨_, _, _, _, _, rfl, _⟩ := h; constructor <;> (intro e; cases e)
  | nils => cases h; constructor <;> (intro e; cases e)
  | map _ => obtain ⟨_, _, rfl⟩ := h; constructor <;> (intro e; cases e)
  | nilm => cases h; constructor <;> (intro e; cases e)
  | func _ _ _ => obtain ⟨_, _, rfl, _⟩ := h; constructor <;> (intro e; cases e)
  | yield _ => obtain ⟨_, _, rfl⟩ := h; constructor <;> (intro e; cases e)
  | nilf => cases h; constructor <;> (intro e; cases e)
  | iface _ _ => obtain ⟨_, rfl, _⟩ := h; constructor <;> (intro e; cases e)
  | nili => cases h; constructor <;> (intro e; cases e)
  | agg _ => obtain ⟨_, rfl, _⟩ := h; constructor <;> (intro e; cases e)
  | tup _ => obtain ⟨_, rfl, _⟩ := h; constructor <;> (intro e; cases e)

theorem getD_bool {tmps : Array Value} {d : Nat} {b : Bool} : tmps[d]? = some (.bool b) ↔ tmps.getD d undef = .bool b := by
  rw [Array.getD_eq_getD_getElem?]
  cases tmps[d]? with
  | none => simp [undef]
  | some x => simp

theorem yield_iff {tmps : Array Value} {d : Nat} {b : Bool} : ((match tmps[d]? with | some (.bool b) => some b | _ => none : Option Bool) = some b) ↔ tmps.getD d undef = .bool b := by
  rw [← getD_bool]
  cases tmps[d]? with
  | none => simp
  | some x => cases x <;> simp

theorem guardB_iff {tm : Tm} {want : Bool} {d : Nat} : guardB tm want d = true ↔ tget tm d = some (.bool want) := by
  unfold guardB
  cases tget tm d with
  | none => simp
  | some x => cases x <;> simp

/-- Whether an operation is done is seen alike. -/
theorem wanted_eq {ops : Array Oper} {o : Oper} {s : St} {a : Act} (h : OpR σ ops.toList o s a) : Region.wanted o (yielded ops a.tmps) = wantedA ops.toList s.tm o := by
  unfold Region.wanted wantedA
  cases hg : o.guard with
  | none => rfl
  | some g =>
    obtain ⟨j, want⟩ := g
    have h2 := h.2.1
    rw [hg] at h2
    simp only [guardDst, Array.getElem?_toList] at h2
    show (yielded ops a.tmps j == some want) = Option.casesOn ((lget ops.toList j).bind fun o => o.dst) false fun d => guardB s.tm want d
    rw [lget_eq, Array.getElem?_toList]
    unfold yielded
    cases ho : ops[j]? with
    | none => cases want <;> rfl
    | some oj =>
      rw [ho] at h2
      simp only [Option.bind_some]
      cases hd : oj.dst with
      | none => cases want <;> rfl
      | some d =>
        have h3 := h2 d (by simp [hd])
        simp only [Option.bind_some]
        rw [Bool.eq_iff_iff, beq_iff_eq]
        refine yield_iff.trans ?_
        refine Iff.trans ?_ guardB_iff.symm
        cases ht : tget s.tm d with
        | none =>
          have h256 : 256 ≤ d := by
            rcases Nat.lt_or_ge d 256 with hlt | hge
            · unfold tget at ht; rw [nble.2 hlt] at ht; cases ht
            · exact hge
          rw [h.2.2 d h256]
          simp [undef]
        | some v =>
          rw [(h3 v ht).bool_iff want]
          simp

/-! ### One operation's step -/

theorem step_value {b : Frame} {a : Act} {ops : Array Oper} {i : Nat} {rest : List Nat} {k : List Item} {cs : List Frame} {o : Oper} {r : Next} {cv : Value} {w' : World} (ho : ops[i]? = some o) (hd : ∀ c, o.op ≠ .defer c)
    (hw : Region.wanted o (yielded ops a.tmps) = true) (hr : (execOp a.eval o).run P w = .ok r w') (hv : r = .value cv ∨ (r = .skip ∧ cv = undef)) :
    step P (lone (b.atR a (.inRegion ops (i :: rest) :: k)) cs w) = .next (lone (b.atR (a.put o.dst cv) (.inRegion ops rest :: k)) cs w') := by
  have hf := Frame.finish_atR b a ops i rest k cv
  rw [ho] at hf
  refine step_lone_go ?_
  rw [stepGR_op ho hw, Oper.semAt_eq _ _ _ hd]
  rcases hv with rfl | ⟨rfl, rfl⟩
  · simp only [stepG.apply, Sem.runT_eq, hr, GStep.bare_after]
    exact congrArg (fun fr => GStep.go { frame := fr, callers := cs, status := .running, dying := none } w') hf
  · simp only [stepG.apply, Sem.runT_eq, hr, GStep.bare_after]
    exact congrArg (fun fr => GStep.go { frame := fr, callers := cs, status := .running, dying := none } w') hf

theorem step_unwanted {b : Frame} {a : Act} {ops : Array Oper} {i : Nat} {rest : List Nat} {k : List Item} {cs : List Frame} {o : Oper} (ho : ops[i]? = some o)
    (hw : Region.wanted o (yielded ops a.tmps) = false) :
    step P (lone (b.atR a (.inRegion ops (i :: rest) :: k)) cs w) = .next (lone (b.atR (a.put o.dst undef) (.inRegion ops rest :: k)) cs w) := by
  have := stepR_op_skip (P := P) (b := b) (a := a) (k := k) (cs := cs) (w := w) (ops := ops) (i := i) (rest := rest) (by rw [ho]; simpa using hw)
  rw [ho] at this
  exact this

theorem opA_nodefer {ρ : Env} {op : Op} {v : AV} {H' : Heap} (h : opA P ρ H op = some (v, H')) : ∀ c, op ≠ .defer c := by
  intro c e
  subst e
  cases h

/-- What an operation does, over every frame. -/
structure OpM (P : Program) (all : List Oper) (o : Oper) (s s' : St) (v : AV) : Prop where
  put : s.put o.dst v s'.hp = some s'
  kind : (wantedA all s.tm o = false ∧ v = undefA ∧ s'.hp = s.hp) ∨
    (wantedA all s.tm o = true ∧ ((callOf o.op = none ∧ opA P (envOf s.tm) s.hp o.op = some (v, s'.hp)) ∨ callOf o.op ≠ none))
  run : ∀ (B : Nat) (w0 : World) (ops : Array Oper) (i : Nat) (rest : List Nat) (b : Frame) (σ : Sg) (a : Act) (w : World) (k : List Item) (cs : List Frame), ops.toList = all → ops[i]? = some o → b.kind = .normal → OpR σ all o s a → Conc B w0 σ s.hp w →
    ∃ σ' w' cv, VR σ' v cv ∧ Conc B w0 σ' s'.hp w' ∧ Stp σ s.hp w σ' s'.hp w' ∧
      Steps P (lone (b.atR a (.inRegion ops (i :: rest) :: k)) cs w) (lone (b.atR (a.put o.dst cv) (.inRegion ops rest :: k)) cs w')

theorem put_hp {s s' : St} {d : Option Tmp} {v : AV} {H' : Heap} (h : s.put d v H' = some s') : s'.hp = H' ∧ s'.sz = s.sz ∧ s'.df = s.df := by
  cases d with
  | none => cases h; exact ⟨rfl, rfl, rfl⟩
  | some d =>
    obtain ⟨_, h⟩ := cond_some h
    cases h
    exact ⟨rfl, rfl, rfl⟩

theorem opM_skip {all : List Oper} {o : Oper} {s s' : St} (hw : wantedA all s.tm o = false) (hp : s.put o.dst undefA s.hp = some s') : OpM P all o s s' undefA := by
  obtain ⟨e, _, _⟩ := put_hp hp
  refine ⟨by rw [e]; exact hp, .inl ⟨hw, rfl, e⟩, fun B w0 ops i rest b σ a w k cs h1 ho hk hr hc => ?_⟩
  subst h1
  rw [e]
  refine ⟨σ, w, undef, ⟨_, rfl, rfl⟩, hc, Stp.refl _ _ _, .one (step_unwanted ho ?_)⟩
  rw [wanted_eq hr, hw]

theorem opM_plain {all : List Oper} {o : Oper} {s s' : St} {v : AV} {H' : Heap} (hw : wantedA all s.tm o = true) (hcl : callOf o.op = none) (h : opA P (envOf s.tm) s.hp o.op = some (v, H')) (hp : s.put o.dst v H' = some s') :
    OpM P all o s s' v := by
  obtain ⟨e, _, _⟩ := put_hp hp
  subst e
  refine ⟨hp, .inr ⟨hw, .inl ⟨hcl, h⟩⟩, fun B w0 ops i rest b σ a w k cs h1 ho hk hr hc => ?_⟩
  subst h1
  rw [← envIn_op] at h
  obtain ⟨σ', w', r, cv, hrun, hv, h2, h3, h4⟩ := opA_run hc hr.env h
  exact ⟨σ', w', cv, h2, h3, h4, .one (step_value ho (opA_nodefer h) (by rw [wanted_eq hr, hw]) hrun hv)⟩

/-! ### States and puts -/

theorem put_get {a : Act} {d : Option Tmp} {v : Value} {t : Nat} (ht : ∀ x, d = some x → x < a.tmps.size) : (a.put d v).tmps.getD t undef = if d = some t then v else a.tmps.getD t undef := by
  cases d with
  | none => rw [if_neg (by simp)]; rfl
  | some x =>
    have hx := ht x rfl
    simp only [Act.put, Array.getD_eq_getD_getElem?, Array.getElem?_setIfInBounds]
    by_cases e : x = t
    · subst e; simp [hx]
    · rw [if_neg e, if_neg (by simpa using e)]

theorem put_size {a : Act} {d : Option Tmp} {v : Value} : (a.put d v).tmps.size = a.tmps.size := by
  cases d <;> simp [Act.put]

theorem put_defs {a : Act} {d : Option Tmp} {v : Value} : (a.put d v).defers = a.defers := by
  cases d <;> rfl

theorem St.put_lt {s s' : St} {d : Option Tmp} {v : AV} {H' : Heap} (h : s.put d v H' = some s') : ∀ x, d = some x → x < s.sz := by
  intro x e
  subst e
  exact nble.1 (cond_some h).1

theorem St.put_tm {s s' : St} {d : Option Tmp} {v : AV} {H' : Heap} (h : s.put d v H' = some s') (hsz : s.sz ≤ 256) {t : Nat} (ht : t < 256) : s'.tm.get t = if d = some t then v else s.tm.get t := by
  cases d with
  | none => cases h; rw [if_neg (by simp)]
  | some x =>
    obtain ⟨h1, h2⟩ := cond_some h
    cases h2
    have h1 := nble.1 h1
    rw [Tm.get_put _ _ _ _ (by omega) ht]
    by_cases e : t = x
    · subst e; simp
    · rw [if_neg e, if_neg (by simp; exact fun h => e h.symm)]

theorem SR.put {s s' : St} {a : Act} {d : Option Tmp} {v : AV} {cv : Value} {H' : Heap} {σ' : Sg} (hs : SR σ s a) (hl : Le σ σ') (hv : VR σ' v cv) (hp : s.put d v H' = some s') : SR σ' s' (a.put d cv) := by
  obtain ⟨⟨h1, h2, h3, h4⟩, h5⟩ := hs
  obtain ⟨e1, e2, e3⟩ := put_hp hp
  have hlt := St.put_lt hp
  have hlt' : ∀ x, d = some x → x < a.tmps.size := fun x e => Nat.lt_of_lt_of_le (hlt x e) h2
  refine ⟨⟨by rw [e2]; exact h1, by rw [e2, put_size]; exact h2, fun t ht => ?_, fun t ht => ?_⟩, by rw [e3, put_defs]; exact h5.mono hl⟩
  · rw [St.put_tm hp h1 ht, put_get hlt']
    by_cases e : d = some t
    · rw [if_pos e, if_pos e]; exact hv
    · rw [if_neg e, if_neg e]; exact (h3 t ht).mono hl
  · rw [put_get hlt', if_neg, h4 t ht]
    intro e
    exact absurd (hlt t e) (Nat.not_lt.2 (Nat.le_trans h1 ht))

end Go.AM
