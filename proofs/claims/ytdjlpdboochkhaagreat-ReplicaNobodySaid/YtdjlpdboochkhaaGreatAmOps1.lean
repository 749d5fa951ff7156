/-
  What the abstract machine's operations say of the model's: operations without the heap.
-/
import Derived.Test.YtdjlpdboochkhaaGreatAmRel
import Derived.WalkKit
import Derived.ChangeKeysEq
namespace Go.AM
open Go.RowKit

variable {P : Program} {w : World} {σ : Sg}

theorem bnd {α β : Type} {x : Option α} {f : α → Option β} {b : β} (h : x.bind f = some b) : ∃ a, x = some a ∧ f a = some b := by
  cases x with
  | none => cases h
  | some a => exact ⟨a, rfl, h⟩

theorem asI_some {x : AV} {α : Type} {k : Int → Option α} {r : α} (h : asI x k = some r) : ∃ kd n, x = .int kd n ∧ k n = some r := by
  cases x <;> try (cases h; done)
  exact ⟨_, _, rfl, h⟩
theorem asB_some {x : AV} {α : Type} {k : Bool → Option α} {r : α} (h : asB x k = some r) : ∃ b, x = .bool b ∧ k b = some r := by
  cases x <;> try (cases h; done)
  exact ⟨_, rfl, h⟩
theorem asPtr_some {x : AV} {α : Type} {k : Nat → Nat → Option α} {r : α} (h : asPtr x k = some r) : ∃ id off, x = .ptr id off ∧ k id off = some r := by
  cases x <;> try (cases h; done)
  exact ⟨_, _, rfl, h⟩
theorem asAg_some {x : AV} {α : Type} {k : List AV → Option α} {r : α} (h : asAg x k = some r) : ∃ l, x = .agg l ∧ k l = some r := by
  cases x <;> try (cases h; done)
  exact ⟨_, rfl, h⟩
theorem asTup_some {x : AV} {α : Type} {k : List AV → Option α} {r : α} (h : asTup x k = some r) : ∃ l, x = .tup l ∧ k l = some r := by
  cases x <;> try (cases h; done)
  exact ⟨_, rfl, h⟩
theorem asStruct_some {u : TypeDesc} {α : Type} {k : Array Field → Option α} {r : α} (h : asStruct u k = some r) : ∃ fs, u = .struct fs ∧ k fs = some r := by
  cases u <;> try (cases h; done)
  exact ⟨_, rfl, h⟩
theorem asSlice_some {u : TypeDesc} {α : Type} {k : TypeId → Option α} {r : α} (h : asSlice u k = some r) : ∃ e, u = .slice e ∧ k e = some r := by
  cases u <;> try (cases h; done)
  exact ⟨_, rfl, h⟩
theorem asMapT_some {u : TypeDesc} {α : Type} {k : TypeId → TypeId → Option α} {r : α} (h : asMapT u k = some r) : ∃ a b, u = .map a b ∧ k a b = some r := by
  cases u <;> try (cases h; done)
  exact ⟨_, _, rfl, h⟩
theorem ret_some {H H' : Heap} {x : Option AV} {v : AV} (h : ret H x = some (v, H')) : x = some v ∧ H' = H := by
  obtain ⟨a, ha, hb⟩ := bnd h
  cases hb
  exact ⟨ha, rfl⟩

/-! ### The types -/
theorem run_und {t : TypeId} {d : TypeDesc} (h : und P t = some d) : (underlying t).run P w = .ok d w := run_underlying h w

theorem szOf_info {t : TypeId} {n : Nat} (h : szOf P t = some n) : ∃ i, P.info? t = some i ∧ i.size = n := by
  obtain ⟨i, hi, h2⟩ := bnd h
  cases h2
  exact ⟨i, hi, rfl⟩
theorem byOf_info {t : TypeId} {n : Nat} (h : byOf P t = some n) : ∃ i, P.info? t = some i ∧ i.bytes = n := by
  obtain ⟨i, hi, h2⟩ := bnd h
  cases h2
  exact ⟨i, hi, rfl⟩
theorem run_info {t : TypeId} {i : TypeInfo} (h : P.info? t = some i) : (typeInfo t).run P w = .ok i w := by
  simp [typeInfo, h]
theorem run_sz {t : TypeId} {n : Nat} (h : szOf P t = some n) : (sizeOf t).run P w = .ok n w := by
  obtain ⟨i, hi, rfl⟩ := szOf_info h
  simp [sizeOf, run_info hi]
theorem run_agg {t : TypeId} {b : Bool} (h : aggO P t = some b) : (isAgg t).run P w = .ok b w := by
  obtain ⟨d, hd, h2⟩ := bnd h
  cases h2
  unfold isAgg
  rw [Sem.run_bind, run_und hd, Result.andThen_ok]
  cases d <;> rfl

/-! ### Constants -/
theorem ofV1_VR {v : Value} {a : AV} (h : ofV1 v = some a) : VR σ a v := by
  unfold ofV1 at h
  split at h <;> first
    | (cases h; done)
    | (cases h; exact rfl)
    | (cases h; exact ⟨_, rfl, rfl⟩)

theorem omap2_VRs {l : List Value} {as : List AV} (h : omap2 ofV1 l = some as) : VRs σ as l := by
  induction l generalizing as with
  | nil => cases h; rfl
  | cons v vs ih =>
    obtain ⟨a, ha, h⟩ := bnd h
    obtain ⟨as', has, h⟩ := bnd h
    cases h
    exact VRs.cons (ofV1_VR ha) (ih has)

theorem ofV_VR {v : Value} {a : AV} (h : ofV v = some a) : VR σ a v := by
  unfold ofV at h
  split at h
  · obtain ⟨l, hl, h⟩ := bnd h
    cases h
    exact ⟨_, rfl, omap2_VRs hl⟩
  · obtain ⟨l, hl, h⟩ := bnd h
    cases h
    exact ⟨_, rfl, omap2_VRs hl⟩
  · exact ofV1_VR h

theorem zeroOf_info {t : TypeId} {z : AV} (h : zeroOf P t = some z) : ∃ i v, P.info? t = some i ∧ i.zero = some v ∧ ofV v = some z := by
  obtain ⟨i, hi, h⟩ := bnd h
  obtain ⟨v, hv, h⟩ := bnd h
  exact ⟨i, v, hi, hv, h⟩

theorem run_zero {t : TypeId} {z : AV} (h : zeroOf P t = some z) : ∃ v, (∀ w, (zeroValue t).run P w = .ok v w) ∧ ofV v = some z := by
  obtain ⟨i, v, hi, hv, h⟩ := zeroOf_info h
  exact ⟨v, fun w => by simp [zeroValue, run_info hi, hv], h⟩

/-! ### Environments -/
def EnvR (σ : Sg) (ρ : Env) (ρc : Operand → Value) : Prop := ∀ x v, ρ x = some v → VR σ v (ρc x)

theorem EnvR.mono {σ σ' : Sg} (hl : Le σ σ') {ρ : Env} {ρc : Operand → Value} (h : EnvR σ ρ ρc) : EnvR σ' ρ ρc := fun x v hx => (h x v hx).mono hl

theorem argsA_VRs {ρ : Env} {ρc : Operand → Value} (he : EnvR σ ρ ρc) : ∀ {l : List Operand} {as : List AV}, argsA ρ l = some as → VRs σ as (l.map ρc)
  | [], _, h => by cases h; rfl
  | x :: l, _, h => by
    obtain ⟨v, hv, h⟩ := bnd h
    obtain ⟨vs, hvs, h⟩ := bnd (x := argsA ρ l) h
    cases h
    exact VRs.cons (he x v hv) (argsA_VRs he hvs)

/-- Pairs of a number and a value. -/
def PRs (σ : Sg) : List (Nat × AV) → List (Nat × Value) → Prop
  | [], l => l = []
  | p :: ps, l => ∃ v vs, l = (p.1, v) :: vs ∧ VR σ p.2 v ∧ PRs σ ps vs

theorem partsA_PRs {ρ : Env} {ρc : Operand → Value} (he : EnvR σ ρ ρc) : ∀ {l : List (Nat × Operand)} {as : List (Nat × AV)}, partsA ρ l = some as → PRs σ as (l.map fun p => (p.1, ρc p.2))
  | [], _, h => by cases h; rfl
  | x :: l, _, h => by
    obtain ⟨v, hv, h⟩ := bnd h
    obtain ⟨vs, hvs, h⟩ := bnd (x := partsA ρ l) h
    cases h
    exact ⟨_, _, rfl, he x.2 v hv, partsA_PRs he hvs⟩

/-! ### Parts -/
theorem partA_run {t : TypeId} {cs : List AV} {off : Nat} {v : AV} {ca : Array Value} (h : partA P t cs off = some v) (hcs : VRs σ cs ca.toList) :
    ∃ cv, (part t ca off).run P w = .ok cv w ∧ VR σ v cv := by
  obtain ⟨b, hb, h⟩ := bnd h
  unfold part
  cases b with
  | true =>
    obtain ⟨n, hn, h⟩ := bnd (x := szOf P t) h
    cases h
    refine ⟨.agg (ca.extract off (off + n)), by simp [run_agg hb, run_sz hn], ca.extract off (off + n), rfl, ?_⟩
    rw [ltake_eq, ldrop_eq, Array.toList_extract, List.extract_eq_take_drop]
    simpa using (hcs.drop off).take n
  | false =>
    have h : lget cs off = some v := h
    rw [lget_eq] at h
    obtain ⟨y, hy, hv⟩ := VRs.get hcs h
    exact ⟨y, by have : ca[off]? = some y := by simpa using hy
                 simp [run_agg hb, this], hv⟩

/-! ### Numbers -/
theorem wrap_id (k : IntKind) (n : Int) : VR σ (.int k n) (.int k n) := rfl

theorem intBin_run {op : BinOp} {k : IntKind} {x y : Int} {v : AV} (h : intBin op k x y = some v) (hs : isShift op = false) :
    ∃ cv, VR σ v cv ∧ ∀ t w, (binOp op t (.int k x) (.int k y)).run P w = .ok cv w := by
  cases op <;> simp only [isShift] at hs <;> try (cases hs; done)
  all_goals simp only [intBin] at h
  case add => cases h; exact ⟨_, rfl, fun t w => by first | (simp [binOp, Op.intArith]; done) | (simp [binOp, Op.intArith]; rfl)⟩
  case sub => cases h; exact ⟨_, rfl, fun t w => by first | (simp [binOp, Op.intArith]; done) | (simp [binOp, Op.intArith]; rfl)⟩
  case mul => cases h; exact ⟨_, rfl, fun t w => by first | (simp [binOp, Op.intArith]; done) | (simp [binOp, Op.intArith]; rfl)⟩
  case quo =>
    obtain ⟨h0, h⟩ := cond_none h
    cases h
    rw [intEq_eq] at h0
    have : y ≠ 0 := by simpa using h0
    exact ⟨_, rfl, fun t w => by simp [binOp, Op.intDiv, this]⟩
  case rem =>
    obtain ⟨h0, h⟩ := cond_none h
    cases h
    rw [intEq_eq] at h0
    have : y ≠ 0 := by simpa using h0
    exact ⟨_, rfl, fun t w => by simp [binOp, Op.intDiv, this]⟩
  case and => cases h; exact ⟨_, rfl, fun t w => by simp [binOp, Op.intBits]⟩
  case or => cases h; exact ⟨_, rfl, fun t w => by simp [binOp, Op.intBits]⟩
  case xor => cases h; exact ⟨_, rfl, fun t w => by simp [binOp, Op.intBits]⟩
  case andNot => cases h; exact ⟨_, rfl, fun t w => by simp [binOp, Op.intBits]⟩
  case eql => cases h; rw [intEq_eq]; exact ⟨_, rfl, fun t w => by simp [binOp, Op.intCmp]⟩
  case neq => cases h; rw [intEq_eq]; exact ⟨_, rfl, fun t w => by simp [binOp, Op.intCmp]; rfl⟩
  case lss => cases h; rw [intLt_eq]; exact ⟨_, rfl, fun t w => by simp [binOp, Op.intCmp]⟩
  case leq => cases h; rw [intLe_eq]; exact ⟨_, rfl, fun t w => by simp [binOp, Op.intCmp]⟩
  case gtr => cases h; rw [intLt_eq]; exact ⟨_, rfl, fun t w => by simp [binOp, Op.intCmp]⟩
  case geq => cases h; rw [intLe_eq]; exact ⟨_, rfl, fun t w => by simp [binOp, Op.intCmp]⟩


theorem shiftA_run {op : BinOp} {k k' : IntKind} {x y : Int} {v : AV} (h : shiftA op k x y = some v) :
    ∃ cv, VR σ v cv ∧ ∀ t w, (binOp op t (.int k x) (.int k' y)).run P w = .ok cv w := by
  obtain ⟨h0, h⟩ := cond_none h
  rw [intLt_eq] at h0
  have hy : ¬ y < 0 := by simpa using h0
  cases op <;> simp only at h <;> try (cases h; done)
  · cases h; exact ⟨_, rfl, fun t w => by simp [binOp, Op.shift, hy]⟩
  · cases h; exact ⟨_, rfl, fun t w => by simp [binOp, Op.shift, hy]⟩

theorem str_beq (a b : ByteArray) : (a.data.toList.map (·.toNat) == b.data.toList.map (·.toNat)) = (a.toList == b.toList) := by
  rw [ByteArray.toList_eq, ByteArray.toList_eq, Bool.eq_iff_iff, beq_iff_eq, beq_iff_eq]
  constructor
  · intro h
    have := congrArg (List.map UInt8.ofNat) h
    simpa [List.map_map, Function.comp_def] using this
  · intro h; rw [h]

theorem strBin_run {op : BinOp} {a b : ByteArray} {v : AV} (h : strBin op (a.data.toList.map (·.toNat)) (b.data.toList.map (·.toNat)) = some v) :
    ∃ cv, VR σ v cv ∧ ∀ t w, (binOp op t (.string a) (.string b)).run P w = .ok cv w := by
  cases op <;> simp only [strBin] at h <;> try (cases h; done)
  case add =>
    obtain ⟨h1, h⟩ := cond_some h
    cases h
    have h1 := nble.1 h1
    simp only [llen_eq, List.length_map, Array.length_toList] at h1
    have hs : ¬ (((a.size + b.size : Nat) : Int) > IntKind.i64.max) := by
      have : IntKind.i64.max = 9223372036854775807 := rfl
      rw [this]
      have ha : a.data.size = a.size := rfl
      have hb : b.data.size = b.size := rfl
      have h2 : a.data.size + b.data.size ≤ 4611686018427387904 := h1
      omega
    refine ⟨.string (a ++ b), ⟨a ++ b, rfl, by simp⟩, fun t w => ?_⟩
    simp only [binOp, Op.stringOp, if_neg hs, Sem.run_pure]
  case eql =>
    cases h
    refine ⟨_, rfl, fun t w => ?_⟩
    simp only [binOp, Op.stringOp, Sem.run_pure]
    rw [natsEq_eq, str_beq]
  case neq =>
    cases h
    refine ⟨_, rfl, fun t w => ?_⟩
    simp only [binOp, Op.stringOp, Sem.run_pure]
    rw [natsEq_eq, str_beq]

/-! ### '==' -/
theorem und_def {t : TypeId} {d : TypeDesc} (h : und P t = some d) : P.underlying t = some d := h

theorem eqPtr_run {d : Nat} {t e : TypeId} {x y : AV} {b : Bool} {cx cy : Value} (hu : P.underlying t = some (.pointer e)) (h : eqPtr x y = some b) (hx : VR σ x cx) (hy : VR σ y cy) :
    (Op.equalIn (d + 1) t cx cy).run P w = .ok b w := by
  unfold eqPtr at h
  split at h <;> cases h
  · cases hx; cases hy; simp [Op.equalIn, run_underlying hu]
  · cases hx; obtain ⟨p, _, _, rfl⟩ := hy; simp [Op.equalIn, run_underlying hu]
  · cases hy; obtain ⟨p, _, _, rfl⟩ := hx; simp [Op.equalIn, run_underlying hu]

theorem eqIface_run {d : Nat} {t : TypeId} {ms : Array (String × TypeId)} {x y : AV} {b : Bool} {cx cy : Value} (hu : P.underlying t = some (.interface ms)) (h : eqIface x y = some b) (hx : VR σ x cx) (hy : VR σ y cy) :
    (Op.equalIn (d + 1) t cx cy).run P w = .ok b w := by
  unfold eqIface at h
  split at h <;> cases h
  · cases hx; obtain ⟨p, rfl, _⟩ := hy; simp [Op.equalIn, run_underlying hu]
  · cases hy; obtain ⟨p, rfl, _⟩ := hx; simp [Op.equalIn, run_underlying hu]

theorem eqSlice_run {d : Nat} {t e : TypeId} {x y : AV} {b : Bool} {cx cy : Value} (hu : P.underlying t = some (.slice e)) (h : eqSlice x y = some b) (hx : VR σ x cx) (hy : VR σ y cy) :
    (Op.equalIn (d + 1) t cx cy).run P w = .ok b w := by
  unfold eqSlice at h
  split at h <;> cases h
  · cases hx; cases hy; simp [Op.equalIn, run_underlying hu]
  · cases hx; obtain ⟨p, _, _, rfl⟩ := hy; simp [Op.equalIn, run_underlying hu]
  · cases hx; obtain ⟨p, o, c, _, _, rfl, _⟩ := hy; simp [Op.equalIn, run_underlying hu]
  · cases hy; obtain ⟨p, _, _, rfl⟩ := hx; simp [Op.equalIn, run_underlying hu]
  · cases hy; obtain ⟨p, o, c, _, _, rfl, _⟩ := hx; simp [Op.equalIn, run_underlying hu]

theorem eqMap_run {d : Nat} {t k e : TypeId} {x y : AV} {b : Bool} {cx cy : Value} (hu : P.underlying t = some (.map k e)) (h : eqMap x y = some b) (hx : VR σ x cx) (hy : VR σ y cy) :
    (Op.equalIn (d + 1) t cx cy).run P w = .ok b w := by
  unfold eqMap at h
  split at h <;> cases h
  · cases hx; cases hy; simp [Op.equalIn, run_underlying hu]
  · cases hx; obtain ⟨p, _, rfl⟩ := hy; simp [Op.equalIn, run_underlying hu]
  · cases hy; obtain ⟨p, _, rfl⟩ := hx; simp [Op.equalIn, run_underlying hu]

theorem eqFunc_run {d : Nat} {t : TypeId} {ps rs : Array TypeId} {vr : Bool} {x y : AV} {b : Bool} {cx cy : Value} (hu : P.underlying t = some (.func ps rs vr)) (h : eqFunc x y = some b) (hx : VR σ x cx) (hy : VR σ y cy) :
    (Op.equalIn (d + 1) t cx cy).run P w = .ok b w := by
  unfold eqFunc at h
  split at h <;> cases h
  · cases hx; cases hy; simp [Op.equalIn, run_underlying hu]
  · cases hx; obtain ⟨a, c, rfl, _⟩ := hy; simp [Op.equalIn, run_underlying hu]
  · cases hy; obtain ⟨a, c, rfl, _⟩ := hx; simp [Op.equalIn, run_underlying hu]

def EqOk (P : Program) (σ : Sg) (eq : Eqs) (D : Nat) : Prop :=
  ∀ t x y b cx cy, eq t x y = some b → VR σ x cx → VR σ y cy → ∀ w, (Op.equalIn D t cx cy).run P w = .ok b w

theorem eqFields_run {eq : Eqs} {D : Nat} (hok : EqOk P σ eq D) {xs ys : List AV} {cx cy : Array Value} (hx : VRs σ xs cx.toList) (hy : VRs σ ys cy.toList) :
    ∀ {fs : List Field} {b : Bool} {w : World}, eqFields P eq xs ys fs = some b → (Op.eqFields D cx cy fs).run P w = .ok b w
  | [], b, w, h => by cases h; simp [Op.eqFields]
  | f :: fs, b, w, h => by
    have h : cond (f.name == "_") (eqFields P eq xs ys fs) ((partA P f.type xs f.offset).bind fun a => (partA P f.type ys f.offset).bind fun b => (eq f.type a b).bind fun r => eqAnd r (eqFields P eq xs ys fs)) = some b := h
    cases hn : (f.name == "_") with
    | true =>
      rw [hn] at h
      have : f.name = "_" := by simpa using hn
      simp only [Op.eqFields, this, ne_eq, not_true_eq_false, if_false]
      exact eqFields_run hok hx hy h
    | false =>
      rw [hn] at h
      have hne : f.name ≠ "_" := by simpa using hn
      obtain ⟨a, ha, h⟩ := bnd h
      obtain ⟨a', ha', h⟩ := bnd h
      obtain ⟨r, hr, h⟩ := bnd h
      obtain ⟨ca, hca, hva⟩ := partA_run (w := w) ha hx
      obtain ⟨cb, hcb, hvb⟩ := partA_run (w := w) ha' hy
      simp only [Op.eqFields, hne, ne_eq, not_false_eq_true, if_true, Sem.run_bind, hca, hcb, Result.andThen_ok, hok _ _ _ _ _ _ hr hva hvb]
      cases r with
      | false => cases h; simp
      | true => simpa using eqFields_run hok hx hy h

theorem eqElems_run {eq : Eqs} {D : Nat} (hok : EqOk P σ eq D) {elem : TypeId} {n : Nat} {xs ys : List AV} {cx cy : Array Value} (hx : VRs σ xs cx.toList) (hy : VRs σ ys cy.toList) :
    ∀ {m i : Nat} {b : Bool} {w : World}, eqElems P eq elem n xs ys m i = some b → (Op.eqItems D elem n cx cy (List.range' i m)).run P w = .ok b w
  | 0, i, b, w, h => by cases h; simp [Op.eqItems]
  | m + 1, i, b, w, h => by
    have h : ((partA P elem xs (i * n)).bind fun a => (partA P elem ys (i * n)).bind fun b => (eq elem a b).bind fun r => eqAnd r (eqElems P eq elem n xs ys m (i + 1))) = some b := h
    obtain ⟨a, ha, h⟩ := bnd h
    obtain ⟨a', ha', h⟩ := bnd h
    obtain ⟨r, hr, h⟩ := bnd h
    obtain ⟨ca, hca, hva⟩ := partA_run (w := w) ha hx
    obtain ⟨cb, hcb, hvb⟩ := partA_run (w := w) ha' hy
    simp only [List.range'_succ, Op.eqItems, Sem.run_bind, hca, hcb, Result.andThen_ok, hok _ _ _ _ _ _ hr hva hvb]
    cases r with
    | false => cases h; simp
    | true => simpa using eqElems_run hok hx hy h

theorem eqA_run : ∀ (d D : Nat), d ≤ D → EqOk P σ (eqA P d) D
  | 0, _, _ => fun _ _ _ _ _ _ h => by cases h
  | d + 1, 0, h => by omega
  | d + 1, D + 1, hd => by
    intro t x y b cx cy h hx hy w
    have ih : EqOk P σ (eqA P d) D := eqA_run d D (by omega)
    have h : ((und P t).bind fun u => eqBy P (eqA P d) t u x y) = some b := h
    obtain ⟨u, hu, h⟩ := bnd h
    have hu := und_def hu
    cases u with
    | bool =>
      have h : eqBool x y = some b := h
      unfold eqBool at h
      split at h <;> cases h
      cases hx; cases hy
      exact run_equalIn_bool w D t _ _ hu
    | int k0 =>
      have h : eqInt x y = some b := h
      unfold eqInt at h
      split at h
      · obtain ⟨hk, h⟩ := cond_some h
        cases h
        cases hx; cases hy
        have := beq_iff_eq.1 hk
        subst this
        rw [intEq_eq]
        exact run_equalIn_int w D t _ _ _ _ hu
      · cases h
    | string =>
      have h : eqStr x y = some b := h
      unfold eqStr at h
      split at h <;> cases h
      obtain ⟨a, rfl, rfl⟩ := hx
      obtain ⟨b, rfl, rfl⟩ := hy
      rw [natsEq_eq, str_beq]
      exact run_equalIn_string w D t _ _ hu
    | pointer e => exact eqPtr_run hu h hx hy
    | interface ms => exact eqIface_run hu h hx hy
    | slice e => exact eqSlice_run hu h hx hy
    | map k e => exact eqMap_run hu h hx hy
    | func ps rs vr => exact eqFunc_run hu h hx hy
    | struct fs =>
      have h : eqStruct P (eqA P d) t fs x y = some b := h
      unfold eqStruct at h
      split at h
      · obtain ⟨h0, h⟩ := cond_none h
        obtain ⟨cx, rfl, hx⟩ := hx
        obtain ⟨cy, rfl, hy⟩ := hy
        have hf : P.fieldsOf t = fs := by simp [Program.fieldsOf, hu]
        have hs : P.stoodInHeld t = false := by
          cases hh : P.stoodInHeld t with
          | false => rfl
          | true => rw [hh] at h0; cases h0
        rw [run_equalIn_struct w D t cx cy (by rw [hf]; exact hu) hs, hf]
        exact eqFields_run ih hx hy h
      · cases h
    | array m e =>
      have h : eqArray P (eqA P d) t m e x y = some b := h
      unfold eqArray at h
      split at h
      · obtain ⟨h0, h⟩ := cond_none h
        obtain ⟨n, hn, h⟩ := bnd h
        obtain ⟨cx, rfl, hx⟩ := hx
        obtain ⟨cy, rfl, hy⟩ := hy
        obtain ⟨i, hi, rfl⟩ := szOf_info hn
        rw [run_equalIn_array w D cx cy hu hi, List.range_eq_range']
        have hc : P.cellsOf e = i.size := by simp [Program.cellsOf, hi]
        rw [hc]
        exact eqElems_run ih hx hy h
      · cases h
    | _ => cases h

end Go.AM
