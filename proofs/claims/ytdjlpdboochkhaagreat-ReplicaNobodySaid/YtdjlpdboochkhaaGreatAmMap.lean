/-
  What the abstract machine's operations say of the model's: maps.
-/
import Derived.Test.YtdjlpdboochkhaaGreatAmSlice
namespace Go.AM
open Go.RowKit

variable {P : Program} {B : Nat} {w0 w : World} {σ : Sg} {H : Heap}

/-! ### Equality of abstract values -/
mutual
theorem AV.beq_eq : ∀ {a b : AV}, a.beq b = true → a = b
  | .bool _, b, h => by cases b <;> simp [AV.beq] at h; rw [h]
  | .int _ _, b, h => by cases b <;> simp [AV.beq] at h; rw [h.1, h.2]
  | .str _, b, h => by cases b <;> simp [AV.beq] at h; rw [h]
  | .ptr _ _, b, h => by cases b <;> simp [AV.beq] at h; rw [h.1, h.2]
  | .nilp, b, h => by cases b <;> simp [AV.beq] at h; rfl
  | .slice _ _ _ _, b, h => by cases b <;> simp [AV.beq] at h; obtain ⟨⟨⟨h1, h2⟩, h3⟩, h4⟩ := h; rw [h1, h2, h3, h4]
  | .oslice _ _ _, b, h => by cases b <;> simp [AV.beq] at h; obtain ⟨⟨h1, h2⟩, h3⟩ := h; rw [h1, h2, h3]
  | .nils, b, h => by cases b <;> simp [AV.beq] at h; rfl
  | .map _, b, h => by cases b <;> simp [AV.beq] at h; rw [h]
  | .nilm, b, h => by cases b <;> simp [AV.beq] at h; rfl
  | .func _ x y, b, h => by
    cases b <;> simp [AV.beq] at h
    obtain ⟨⟨h1, h2⟩, h3⟩ := h
    rw [h1, AV.beqs_eq h2, AV.beqs_eq h3]
  | .yield _, b, h => by cases b <;> simp [AV.beq] at h; rw [h]
  | .nilf, b, h => by cases b <;> simp [AV.beq] at h; rfl
  | .iface _ x, b, h => by
    cases b <;> simp [AV.beq] at h
    rw [h.1, AV.beq_eq h.2]
  | .nili, b, h => by cases b <;> simp [AV.beq] at h; rfl
  | .agg x, b, h => by cases b <;> simp [AV.beq] at h; rw [AV.beqs_eq h]
  | .tup x, b, h => by cases b <;> simp [AV.beq] at h; rw [AV.beqs_eq h]
theorem AV.beqs_eq : ∀ {a b : List AV}, AV.beqs a b = true → a = b
  | [], b, h => by cases b <;> simp [AV.beqs] at h; rfl
  | x :: xs, b, h => by
    cases b with
    | nil => simp [AV.beqs] at h
    | cons y ys =>
      simp [AV.beqs] at h
      rw [AV.beq_eq h.1, AV.beqs_eq h.2]
end

theorem plain1_det {a : AV} {c d : Value} (h : plain1 a = true) (hc : VR σ a c) (hd : VR σ a d) : c = d := by
  cases a <;> try (cases h; done)
  · cases hc; cases hd; rfl
  · cases hc; cases hd; rfl
  · obtain ⟨x, rfl, hx⟩ := hc
    obtain ⟨y, rfl, hy⟩ := hd
    congr 1
    have : x.data.toList = y.data.toList := by
      have := congrArg (List.map UInt8.ofNat) (hx.trans hy.symm)
      simpa [List.map_map, Function.comp_def] using this
    cases x; cases y
    congr 1
    exact Array.toList_inj.1 this

theorem plains_det : ∀ {vs : List AV} {cs ds : List Value}, (List.rec true (fun v _ ih => cond (plain1 v) ih false) vs : Bool) = true → VRs σ vs cs → VRs σ vs ds → cs = ds
  | [], _, _, _, hc, hd => by cases hc; cases hd; rfl
  | v :: vs, _, _, h, ⟨c, cs, e1, hc, hcs⟩, ⟨d, ds, e2, hd, hds⟩ => by
    subst e1; subst e2
    have h : cond (plain1 v) (List.rec true (fun v _ ih => cond (plain1 v) ih false) vs : Bool) false = true := h
    cases hp : plain1 v with
    | false => rw [hp] at h; cases h
    | true =>
      rw [hp] at h
      rw [plain1_det hp hc hd, plains_det h hcs hds]

theorem plainK_det {a : AV} {c d : Value} (h : plainK a = true) (hc : VR σ a c) (hd : VR σ a d) : c = d := by
  cases a with
  | agg vs =>
    obtain ⟨cs, rfl, hcs⟩ := hc
    obtain ⟨ds, rfl, hds⟩ := hd
    have := plains_det h hcs hds
    rw [Array.toList_inj.1 this]
  | _ =>
    refine plain1_det ?_ hc hd
    exact h

/-! ### Entries -/
theorem ERs.length {a : List (AV × AV × Nat)} {es : List MapEntry} (h : ERs σ a es) : es.length = a.length := by
  induction h with
  | nil => rfl
  | cons _ _ ih => simp [ih]

theorem ERs.get {a : List (AV × AV × Nat)} {es : List MapEntry} (h : ERs σ a es) : ∀ {i : Nat} {x : AV × AV × Nat}, a[i]? = some x → ∃ e, es[i]? = some e ∧ ER σ x e := by
  induction h with
  | nil => intro i x hi; simp at hi
  | cons h1 _ ih =>
    intro i x hi
    cases i with
    | zero => simp at hi; subst hi; exact ⟨_, by simp, h1⟩
    | succ i => simp at hi ⊢; exact ih hi

theorem ERs.of_get : ∀ {a : List (AV × AV × Nat)} {es : List MapEntry}, es.length = a.length → (∀ (i : Nat) (x : AV × AV × Nat) (e : MapEntry), a[i]? = some x → es[i]? = some e → ER σ x e) → ERs σ a es
  | [], [], _, _ => .nil
  | _ :: a, e :: es, hl, h => .cons (h 0 _ _ rfl rfl) (ERs.of_get (by simpa using hl) fun i x y hx hy => h (i + 1) x y (by simpa using hx) (by simpa using hy))

theorem ERs.append {a b : List (AV × AV × Nat)} {es fs : List MapEntry} (h : ERs σ a es) (k : ERs σ b fs) : ERs σ (a ++ b) (es ++ fs) := by
  induction h with
  | nil => exact k
  | cons h1 _ ih => exact .cons h1 ih

theorem ERs.filter {a : List (AV × AV × Nat)} {es : List MapEntry} (h : ERs σ a es) (p : Nat → Bool) : ERs σ (a.filter fun x => p x.2.2) (es.filter fun e => p e.born) := by
  induction h with
  | nil => exact .nil
  | @cons x as e es h1 _ ih =>
    simp only [List.filter_cons, h1.2.2]
    cases p x.2.2 with
    | true => exact .cons h1 ih
    | false => exact ih

theorem ERs.all {a : List (AV × AV × Nat)} {es : List MapEntry} (h : ERs σ a es) (p : Nat → Bool) : (es.all fun e => p e.born) = a.all fun x => p x.2.2 := by
  induction h with
  | nil => rfl
  | cons h1 _ ih => simp only [List.all_cons, h1.2.2, ih]

theorem lmod_get {α : Type} (f : α → α) (l : List α) : ∀ (i j : Nat), (lmod f l i)[j]? = if j = i then l[j]?.map f else l[j]? := by
  induction l with
  | nil => intro i j; show ([] : List α)[j]? = _; simp
  | cons x xs ih =>
    intro i j
    show (cond (Nat.beq i 0) (f x :: xs) (x :: lmod f xs (Nat.pred i)))[j]? = _
    cases i with
    | zero => cases j <;> simp
    | succ i =>
      show (x :: lmod f xs i)[j]? = _
      cases j with
      | zero => simp
      | succ j => simp [ih]

theorem lmod_length {α : Type} (f : α → α) (l : List α) : ∀ (i : Nat), (lmod f l i).length = l.length := by
  induction l with
  | nil => intro i; rfl
  | cons x xs ih =>
    intro i
    show (cond (Nat.beq i 0) (f x :: xs) (x :: lmod f xs (Nat.pred i))).length = _
    cases i with
    | zero => rfl
    | succ i =>
      show (x :: lmod f xs i).length = _
      simp [ih]

theorem lerase_eq {α : Type} (l : List α) : ∀ (i : Nat), lerase l i = l.eraseIdx i := by
  induction l with
  | nil => intro i; rfl
  | cons x xs ih =>
    intro i
    show cond (Nat.beq i 0) xs (x :: lerase xs (Nat.pred i)) = _
    cases i with
    | zero => rfl
    | succ i =>
      show x :: lerase xs i = _
      simp [ih]

/-! ### Keys -/
theorem keyFields_run {n : Nat} : ∀ {fs : List Field} {ca : Array Value} {d : Nat} {e : Bool} {w : World}, keyFields P n fs = true → ca.size = n →
    (forIn fs PUnit.unit fun f (_ : PUnit) => (do
        if f.name ≠ "_" then Instr.checkKey e (d + 1) f.type (← part f.type ca f.offset)
        pure (ForInStep.yield PUnit.unit) : Sem (ForInStep PUnit))).run P w = .ok PUnit.unit w
  | [], ca, d, e, w, _, _ => by simp
  | f :: fs, ca, d, e, w, h, hn => by
    have h : cond (f.name == "_") false (cond (plainD (und P f.type)) (cond (Nat.ble (Nat.succ f.offset) n) (keyFields P n fs) false) false) = true := h
    cases h1 : (f.name == "_") with
    | true => rw [h1] at h; cases h
    | false =>
      rw [h1] at h
      cases h2 : plainD (und P f.type) with
      | false => rw [h2] at h; cases h
      | true =>
        rw [h2] at h
        cases h3 : Nat.ble (Nat.succ f.offset) n with
        | false => rw [h3] at h; cases h
        | true =>
          rw [h3] at h
          have h3 : f.offset < ca.size := by rw [hn]; exact nble.1 h3
          have hne : f.name ≠ "_" := by simpa using h1
          have ih := keyFields_run (ca := ca) (d := d) (e := e) (w := w) h hn
          have hund : ∃ u, und P f.type = some u ∧ isAggD u = false ∧ ∀ v w, (Instr.checkKey e (d + 1) f.type v).run P w = .ok () w := by
            unfold plainD at h2
            split at h2
            · rename_i hu; exact ⟨_, hu, rfl, fun v w => by simp [Instr.checkKey, run_und hu]⟩
            · rename_i hu; exact ⟨_, hu, rfl, fun v w => by simp [Instr.checkKey, run_und hu]⟩
            · rename_i hu; exact ⟨_, hu, rfl, fun v w => by simp [Instr.checkKey, run_und hu]⟩
            · cases h2
          obtain ⟨u, hu, ha, hck⟩ := hund
          have hag : aggO P f.type = some false := by unfold aggO; rw [hu]; simp [ha]
          have hpart : ∀ w, (part f.type ca f.offset).run P w = .ok ca[f.offset] w := fun w => by simp [part, run_agg hag, h3]
          simp only [List.forIn_cons, Sem.run_bind, hne, ne_eq, not_false_eq_true, if_true, hpart, Result.andThen_ok, hck, Sem.run_pure]
          exact ih

theorem keyOk_at {t : TypeId} {k : AV} {c : Value} {e : Bool} (d : Nat) (h : keyOk P t k = true) (hk : VR σ k c) (w : World) : (Instr.checkKey e (d + 2) t c).run P w = .ok () w := by
  unfold keyOk at h
  split at h
  · rename_i hu; simp [Instr.checkKey, run_und hu]
  · rename_i hu; simp [Instr.checkKey, run_und hu]
  · rename_i hu; simp [Instr.checkKey, run_und hu]
  · rename_i fs hu
    split at h
    · obtain ⟨ca, rfl, hca⟩ := hk
      have hl := hca.length
      rw [llen_eq] at h
      have := keyFields_run (P := P) (ca := ca) (d := d) (e := e) (w := w) h (by simpa using hl)
      rw [Instr.checkKey]
      simp only [Sem.run_bind, run_und hu, Result.andThen_ok]
      rw [← Array.forIn_toList]
      have this2 : (forIn fs.toList PUnit.unit fun f (_ : PUnit) => (if f.name ≠ "_" then do
            let v ← part f.type ca f.offset
            Instr.checkKey e (d + 1) f.type v
            pure (ForInStep.yield PUnit.unit)
          else pure (ForInStep.yield PUnit.unit) : Sem (ForInStep PUnit))).run P w = .ok PUnit.unit w := this
      rw [this2]
      rfl
    · cases h
  · cases h


theorem keyOk_run {t : TypeId} {k : AV} {c : Value} {e : Bool} (h : keyOk P t k = true) (hk : VR σ k c) (w : World) : (Instr.checkKey e 10000 t c).run P w = .ok () w := keyOk_at 9998 h hk w

/-- What a search came to. -/
def FR (σ : Sg) : Option (Nat × AV) → Option (Nat × Value) → Prop
  | none, r => r = none
  | some p, r => ∃ v, r = some (p.1, v) ∧ VR σ p.2 v

theorem findAsking_run {t : TypeId} {k : AV} {c : Value} (hk : VR σ k c) : ∀ {es : List (AV × AV × Nat)} {ec : List MapEntry} {i : Nat} {r : Option (Nat × AV)}, ERs σ es ec → findA P t k es i = some r →
    ∃ rc, (∀ w, (Instr.findAsking t c ec i).run P w = .ok rc w) ∧ FR σ r rc := by
  intro es ec i r he
  induction he generalizing i r with
  | nil => intro h; cases h; exact ⟨none, fun w => by simp [Instr.findAsking], rfl⟩
  | @cons x as e es hx _ ih =>
    intro h
    have h : ((eqA P 100 t k x.1).bind fun b => cond b (some (some (i, x.2.1))) (findA P t k as (i + 1))) = some r := h
    obtain ⟨b, hb, h⟩ := bnd h
    have heq : ∀ w, (Op.equal t c e.key).run P w = .ok b w := fun w => eqA_run 100 10000 (by omega) t k x.1 b c e.key hb hk hx.1 w
    cases b with
    | true =>
      cases h
      exact ⟨some (i, e.val), fun w => by simp [Instr.findAsking, heq], e.val, rfl, hx.2.1⟩
    | false =>
      obtain ⟨rc, h1, h2⟩ := ih h
      exact ⟨rc, fun w => by simp [Instr.findAsking, heq, h1], h2⟩

theorem sameNow_eqA {t : TypeId} {u : TypeDesc} {d : Nat} {x y : AV} {a b : Value} {r s : Bool} (hu : und P t = some u) (h : eqA P (d + 1) t x y = some r) (hx : VR σ x a) (hy : VR σ y b) (hs : Instr.sameNow u a b = some s) : s = r := by
  have h : ((und P t).bind fun u => eqBy P (eqA P d) t u x y) = some r := h
  rw [hu] at h
  cases u <;> try (cases hs; done)
  · have h : eqBool x y = some r := h
    unfold eqBool at h
    split at h <;> cases h
    cases hx; cases hy
    simpa [Instr.sameNow] using hs.symm
  · have h : eqInt x y = some r := h
    unfold eqInt at h
    split at h
    · obtain ⟨hk, h⟩ := cond_some h
      cases h
      cases hx; cases hy
      have := beq_iff_eq.1 hk
      subst this
      rw [intEq_eq]
      simpa [Instr.sameNow] using hs.symm
    · cases h
  · have h : eqStr x y = some r := h
    unfold eqStr at h
    split at h <;> cases h
    obtain ⟨p, rfl, rfl⟩ := hx
    obtain ⟨q, rfl, rfl⟩ := hy
    rw [natsEq_eq, str_beq, ← beq_toListBytes]
    simpa [Instr.sameNow] using hs.symm

theorem findNow_run {t : TypeId} {u : TypeDesc} {k : AV} {c : Value} (hu : und P t = some u) (hk : VR σ k c) : ∀ {es : List (AV × AV × Nat)} {ec : List MapEntry} {i : Nat} {r : Option (Nat × AV)} {rn : Option (Nat × Value)}, ERs σ es ec → findA P t k es i = some r →
    Instr.findNow u c ec i = some rn → FR σ r rn := by
  intro es ec i r rn he
  induction he generalizing i r with
  | nil => intro h hn; cases h; simp [Instr.findNow] at hn; subst hn; rfl
  | @cons x as e es hx _ ih =>
    intro h hn
    have h : ((eqA P 100 t k x.1).bind fun b => cond b (some (some (i, x.2.1))) (findA P t k as (i + 1))) = some r := h
    obtain ⟨b, hb, h⟩ := bnd h
    unfold Instr.findNow at hn
    split at hn
    · rename_i hs
      have := sameNow_eqA (d := 99) hu hb hk hx.1 hs
      subst this
      cases h; cases hn
      exact ⟨e.val, rfl, hx.2.1⟩
    · rename_i hs
      have := sameNow_eqA (d := 99) hu hb hk hx.1 hs
      subst this
      exact ih h hn
    · cases hn

theorem findKey_run {t : TypeId} {k : AV} {c : Value} {es : List (AV × AV × Nat)} {ec : List MapEntry} {r : Option (Nat × AV)} (hkey : keyOk P t k = true) (hk : VR σ k c) (he : ERs σ es ec) (h : findA P t k es 0 = some r) :
    ∃ rc, (∀ w, (Instr.findKey t c ec).run P w = .ok rc w) ∧ FR σ r rc := by
  have hu : ∃ u, und P t = some u := by
    unfold keyOk at hkey
    split at hkey <;> first | (rename_i hu; exact ⟨_, hu⟩) | cases hkey
  obtain ⟨u, hu⟩ := hu
  cases hn : Instr.findNow u c ec 0 with
  | some rn => exact ⟨rn, fun w => by simp [Instr.findKey, run_und hu, hn], findNow_run hu hk he h hn⟩
  | none =>
    obtain ⟨rc, h1, h2⟩ := findAsking_run (P := P) hk he h
    exact ⟨rc, fun w => by simp [Instr.findKey, run_und hu, hn, h1], h2⟩

/-! ### Operations on maps -/

theorem mapOf_some {id : Nat} {α : Type} {k : List (AV × AV × Nat) → Nat → Option α} {r : α} (h : mapOf H id k = some r) : ∃ es clock, H.get id = some (.map es clock) ∧ k es clock = some r := by
  obtain ⟨o, ho, h⟩ := bnd h
  cases o <;> try (cases h; done)
  exact ⟨_, _, ho, h⟩

theorem run_getObj {r : Nat} {o : Obj} (h : w.heap[r]? = some o) (hn : ∀ c e f, o ≠ .cells c e f) : (getObj r).run P w = .ok o w := by
  cases o <;> first | (exact absurd rfl (hn _ _ _)) | simp [getObj, Sem.run, h]

theorem lookRes_run {et : TypeId} {ok : Bool} {r : Option (Nat × AV)} {v : AV} (h : lookRes P et ok r = some v) : ∃ x b, v = cond ok (.tup [x, .bool b]) x ∧ ((r = none ∧ b = false ∧ zeroOf P et = some x) ∨ ∃ i, r = some (i, x) ∧ b = true) := by
  cases r with
  | none =>
    obtain ⟨z, hz, h⟩ := bnd h
    cases h
    exact ⟨z, false, rfl, .inl ⟨rfl, rfl, hz⟩⟩
  | some p =>
    cases h
    exact ⟨p.2, true, rfl, .inr ⟨p.1, rfl, rfl⟩⟩

theorem VR.pair {x : AV} {c : Value} {ok b : Bool} (h : VR σ x c) : VR σ (cond ok (.tup [x, .bool b]) x) (if ok then .tuple #[c, .bool b] else c) := by
  cases ok with
  | false => exact h
  | true => exact ⟨_, rfl, VRs.cons h (VRs.cons rfl .nil)⟩

theorem lookup_run {t kt et : TypeId} {m k v : AV} {ok : Bool} {a c : Value} (hc : Rd σ H w) (hu : und P t = some (.map kt et)) (h : lookupA P H m k ok kt et = some v) (hm : VR σ m a) (hk : VR σ k c) :
    ∃ cv, (Instr.lookup t a c ok).run P w = .ok cv w ∧ VR σ v cv := by
  obtain ⟨hkey, g0⟩ := cond_some h
  clear h
  have hck := fun e => keyOk_run (e := e) hkey hk
  cases m with
  | map id =>
    obtain ⟨es, clock, hg, g1⟩ := mapOf_some g0
    obtain ⟨r, hr, g2⟩ := bnd g1
    obtain ⟨p, hp, rfl⟩ := hm
    obtain ⟨ec, h1, h2⟩ := hc.obj id p _ hp hg
    obtain ⟨rc, h3, h4⟩ := findKey_run (P := P) hkey hk h2 hr
    obtain ⟨x, b, rfl, hx⟩ := lookRes_run g2
    have hobj := run_getObj (P := P) h1 (by intro _ _ _ e; cases e)
    rcases hx with ⟨rfl, rfl, hz⟩ | ⟨i, rfl, rfl⟩
    · have : rc = none := h4
      subst this
      obtain ⟨zv, hzr, hzv⟩ := run_zero hz
      refine ⟨_, ?_, VR.pair (ofV_VR hzv)⟩
      simp only [Instr.lookup, Sem.run_bind, run_und hu, Result.andThen_ok, hobj, Sem.run_pure, hck, h3, hzr]
    · obtain ⟨cv, rfl, hv⟩ := h4
      refine ⟨_, ?_, VR.pair hv⟩
      simp only [Instr.lookup, Sem.run_bind, run_und hu, Result.andThen_ok, hobj, Sem.run_pure, hck, h3]
  | nilm =>
    cases hm
    obtain ⟨x, b, rfl, hx⟩ := lookRes_run g0
    rcases hx with ⟨_, rfl, hz⟩ | ⟨i, hr, _⟩
    · obtain ⟨zv, hzr, hzv⟩ := run_zero hz
      have hfk : ∀ w, (Instr.findKey kt c (#[] : Array MapEntry).toList).run P w = .ok none w := by
        obtain ⟨rc, h3, h4⟩ := findKey_run (P := P) (σ := σ) (es := []) (ec := []) (r := none) hkey hk .nil rfl
        have : rc = none := h4
        subst this
        exact h3
      refine ⟨_, ?_, VR.pair (ofV_VR hzv)⟩
      simp only [Instr.lookup, Sem.run_bind, run_und hu, Result.andThen_ok, Sem.run_pure, hck, hfk, hzr]
    · cases hr
  | _ => cases g0

theorem lenMap_run {t : TypeId} {kt et : TypeId} {x v : AV} {a : Value} {ty : TypeId} (hc : Rd σ H w) (hu : und P t = some (.map kt et)) (h : lenMap H x = some v) (hx : VR σ x a) :
    ∃ cv, (Builtin.len_ #[t] ty #[a]).run P w = .ok cv w ∧ VR σ v cv := by
  cases x with
  | map id =>
    obtain ⟨es, clock, hg, g1⟩ := mapOf_some h
    cases g1
    obtain ⟨p, hp, rfl⟩ := hx
    obtain ⟨ec, h1, h2⟩ := hc.obj id p _ hp hg
    have hobj := run_getObj (P := P) h1 (by intro _ _ _ e; cases e)
    refine ⟨.int .i64 es.length, ?_, by rw [llen_eq]; rfl⟩
    have : ec.size = es.length := by have := h2.length; simpa using this
    simp [Builtin.len_, run_und hu, hobj, goInt, this]
  | nilm => cases h; cases hx; exact ⟨.int .i64 0, by simp [Builtin.len_, run_und hu, goInt], rfl⟩
  | _ => cases h

/-! ### Objects that are turned -/

def World.putObj' (w : World) (r : Nat) (o : Obj) : World := { w with heap := w.heap.setIfInBounds r o }

theorem run_setObj {r : Nat} {o o' : Obj} (h : w.heap[r]? = some o) (hn : ∀ c e f, o ≠ .cells c e f) : (setObj r o').run P w = .ok () (World.putObj' w r o') := by
  cases o <;> first | (exact absurd rfl (hn _ _ _)) | simp [setObj, Sem.run, h, World.putObj']

theorem below_putObj {r : Nat} {o : Obj} (hB : B ≤ r) : Below B w (World.putObj' w r o) :=
  ⟨rfl, rfl, rfl, by simp [World.putObj'], fun k hk => by simp only [World.putObj', Array.getElem?_setIfInBounds]; rw [if_neg (by omega)]⟩

/-- One object that is no row is turned. -/
theorem Conc.putObj (hc : Conc B w0 σ H w) {id : Nat} {p : Pl} {o : AObj} {oc : Obj} (hp : σ id = some p) (hlive : live H id) (ho : OR σ (World.putObj' w p.b oc) p o) (hm : o.mine := by intro _ _ _ _ e; first | (cases e; done) | (injection e with _ _ _ _ e; revert e; decide)) :
    Conc B w0 σ (H.put id o) (World.putObj' w p.b oc) ∧ Stp σ H w σ (H.put id o) (World.putObj' w p.b oc) :=
  hc.put hp hlive (by simp [World.putObj']) (fun b hb => by simp only [World.putObj', Array.getElem?_setIfInBounds]; rw [if_neg (Ne.symm hb)]) (below_putObj ((hc.blk id p hp).1 hlive)) ho hm

theorem putObj_at {r : Nat} {o oc : Obj} (h : w.heap[r]? = some o) : (World.putObj' w r oc).heap[r]? = some oc := by
  have := (Array.getElem?_eq_some_iff.1 h).1
  simp [World.putObj', this]

theorem asMapV_some {m : AV} {α : Type} {k : Nat → Option α} {r : α} (h : asMapV m k = some r) : ∃ id, m = .map id ∧ k id = some r := by
  cases m <;> try (cases h; done)
  exact ⟨_, rfl, h⟩

theorem modify_get (es : Array MapEntry) (i j : Nat) (f : MapEntry → MapEntry) : (es.modify i f).toList[j]? = if j = i then es.toList[j]?.map f else es.toList[j]? := by
  rw [Array.getElem?_toList, Array.getElem?_modify, Array.getElem?_toList]
  by_cases e : j = i
  · subst e; simp
  · rw [if_neg (Ne.symm e), if_neg e]

theorem mapPut_run {t kt et : TypeId} {m k v r : AV} {a c d : Value} {H' : Heap} (hc : Conc B w0 σ H w) (hu : und P t = some (.map kt et)) (h : mapPutA P H m k v kt = some (r, H')) (hm : VR σ m a) (hk : VR σ k c) (hv : VR σ v d) :
    ∃ w', (Instr.mapUpdate t a c d).run P w = .ok () w' ∧ r = undefA ∧ Conc B w0 σ H' w' ∧ Stp σ H w σ H' w' := by
  obtain ⟨hkey, g0⟩ := cond_some h
  clear h
  have hck := fun e => keyOk_run (e := e) hkey hk
  obtain ⟨id, rfl, g0⟩ := asMapV_some g0
  obtain ⟨es, clock, hg, g1⟩ := mapOf_some g0
  obtain ⟨r', hr, g2⟩ := bnd g1
  obtain ⟨p, hp, rfl⟩ := hm
  obtain ⟨ec, h1, h2⟩ := hc.obj id p _ hp hg
  obtain ⟨rc, h3, h4⟩ := findKey_run (P := P) hkey hk h2 hr
  have hnc : ∀ c e f, Obj.map ec clock ≠ .cells c e f := by intro _ _ _ e; cases e
  have hobj := run_getObj (P := P) h1 hnc
  have hlive : live H id := ⟨_, hg, rfl⟩
  cases r' with
  | none =>
    have : rc = none := h4
    subst this
    cases g2
    have ho : OR σ (World.putObj' w p.b (.map (ec.push { key := c, val := d, born := clock }) (clock + 1))) p (.map (es ++ [(k, v, clock)]) (clock + 1)) := by
      refine ⟨ec.push { key := c, val := d, born := clock }, putObj_at h1, ?_⟩
      rw [Array.toList_push]
      exact h2.append (.cons ⟨hk, hv, rfl⟩ .nil)
    obtain ⟨k1, k2⟩ := hc.putObj hp hlive ho
    refine ⟨_, ?_, rfl, k1, k2⟩
    simp only [Instr.mapUpdate, Sem.run_bind, run_und hu, Result.andThen_ok, hobj, hck, h3, run_setObj h1 hnc]
  | some q =>
    obtain ⟨cv, rfl, hcv⟩ := h4
    obtain ⟨x, hx, g3⟩ := bnd g2
    obtain ⟨hb, g4⟩ := cond_some g3
    cases g4
    simp only [Bool.and_eq_true] at hb
    have hxk := AV.beq_eq hb.1
    rw [lget_eq] at hx
    obtain ⟨e, he, hxe⟩ := h2.get hx
    have hkeyEq : e.key = c := by
      have h5 := hxe.1
      rw [hxk] at h5
      exact plainK_det hb.2 h5 hk
    have he' : ec[q.1]? = some e := by simpa using he
    have hstay : ∃ n, (Instr.keyThatStays (((ec[q.1]?).map (·.key)).getD c) c).run P w = .ok c { w with drawn := n } := by
      rw [he']
      simp only [Option.map_some, Option.getD_some, hkeyEq, Instr.keyThatStays]
      split
      · exact ⟨w.drawn, rfl⟩
      · refine ⟨w.drawn + 1, ?_⟩
        simp [Question.forced]
    obtain ⟨n, hstay⟩ := hstay
    have hc2 : Conc B w0 σ H { w with drawn := n } := hc.same rfl (hc.below.trans ⟨rfl, rfl, rfl, Nat.le_refl _, fun _ _ => rfl⟩)
    have s2 : Stp σ H w σ H { w with drawn := n } := Stp.same σ H rfl
    have ho : OR σ (World.putObj' { w with drawn := n } p.b (.map (ec.modify q.1 fun e => { e with key := c, val := d }) clock)) p (.map (lmod (fun e => (k, v, e.2.2)) es q.1) clock) := by
      refine ⟨_, putObj_at (w := { w with drawn := n }) h1, ?_⟩
      apply ERs.of_get
      · rw [lmod_length, ← h2.length]; simp
      · intro i y f hy hf
        rw [lmod_get] at hy
        rw [modify_get] at hf
        by_cases ei : i = q.1
        · rw [if_pos ei] at hy hf
          cases hy1 : es[i]? with
          | none => rw [hy1] at hy; cases hy
          | some y1 =>
            obtain ⟨f1, hf1, hr1⟩ := h2.get hy1
            rw [hy1] at hy
            rw [hf1] at hf
            cases hy; cases hf
            exact ⟨hk, hv, hr1.2.2⟩
        · rw [if_neg ei] at hy hf
          obtain ⟨f1, hf1, hr1⟩ := h2.get hy
          rw [hf1] at hf
          cases hf
          exact hr1
    obtain ⟨k1, k2⟩ := hc2.putObj hp hlive ho
    refine ⟨_, ?_, rfl, k1, s2.trans k2⟩
    simp only [Instr.mapUpdate, Sem.run_bind, run_und hu, Result.andThen_ok, hobj, hck, h3]
    rw [hstay]
    simp only [Result.andThen_ok]
    exact run_setObj (w := { w with drawn := n }) h1 hnc

theorem mapDel_run {t kt et : TypeId} {m k r : AV} {a c : Value} {H' : Heap} {ty u : TypeId} (hc : Conc B w0 σ H w) (hu : und P t = some (.map kt et)) (h : mapDelA P H m k kt = some (r, H')) (hm : VR σ m a) (hk : VR σ k c) :
    ∃ w', (Builtin.delete_ #[t, u] ty #[a, c]).run P w = .ok (.tuple #[]) w' ∧ r = undefA ∧ Conc B w0 σ H' w' ∧ Stp σ H w σ H' w' := by
  obtain ⟨hkey, g0⟩ := cond_some h
  clear h
  have hck := fun e => keyOk_run (e := e) hkey hk
  cases m with
  | nilm =>
    cases g0
    cases hm
    exact ⟨w, by simp [Builtin.delete_, run_und hu, hck], rfl, hc, Stp.refl _ _ _⟩
  | map id =>
    obtain ⟨es, clock, hg, g1⟩ := mapOf_some g0
    obtain ⟨r', hr, g2⟩ := bnd g1
    obtain ⟨p, hp, rfl⟩ := hm
    obtain ⟨ec, h1, h2⟩ := hc.obj id p _ hp hg
    obtain ⟨rc, h3, h4⟩ := findKey_run (P := P) hkey hk h2 hr
    have hnc : ∀ c e f, Obj.map ec clock ≠ .cells c e f := by intro _ _ _ e; cases e
    have hobj := run_getObj (P := P) h1 hnc
    have hlive : live H id := ⟨_, hg, rfl⟩
    cases r' with
    | none =>
      have : rc = none := h4
      subst this
      cases g2
      have hput : World.putObj' w p.b (.map ec clock) = w := by
        unfold World.putObj'
        have : w.heap.setIfInBounds p.b (.map ec clock) = w.heap := by
          apply Array.ext_getElem?
          intro i
          rw [Array.getElem?_setIfInBounds]
          by_cases e : p.b = i
          · subst e
            rw [if_pos rfl]
            have := (Array.getElem?_eq_some_iff.1 h1).1
            rw [if_pos this, h1]
          · rw [if_neg e]
        rw [this]
      refine ⟨w, ?_, rfl, hc, Stp.refl _ _ _⟩
      have hset := run_setObj (P := P) (o' := .map ec clock) h1 hnc
      rw [hput] at hset
      simp [Builtin.delete_, run_und hu, hobj, hck, h3, hset]
    | some q =>
      obtain ⟨cv, rfl, hcv⟩ := h4
      cases g2
      have ho : OR σ (World.putObj' w p.b (.map (ec.eraseIdxIfInBounds q.1) clock)) p (.map (lerase es q.1) clock) := by
        refine ⟨_, putObj_at h1, ?_⟩
        rw [lerase_eq]
        have : (ec.eraseIdxIfInBounds q.1).toList = ec.toList.eraseIdx q.1 := by
          unfold Array.eraseIdxIfInBounds
          split
          · simp [Array.toList_eraseIdx]
          · rw [List.eraseIdx_of_length_le (by simpa using Nat.le_of_not_lt ‹_›)]
        rw [this]
        apply ERs.of_get
        · simp only [List.length_eraseIdx, h2.length]
        · intro i y f hy hf
          rw [List.getElem?_eraseIdx] at hy hf
          by_cases ei : i < q.1
          · rw [if_pos ei] at hy hf
            obtain ⟨f1, hf1, hr1⟩ := h2.get hy
            rw [hf1] at hf; cases hf
            exact hr1
          · rw [if_neg ei] at hy hf
            obtain ⟨f1, hf1, hr1⟩ := h2.get hy
            rw [hf1] at hf; cases hf
            exact hr1
      obtain ⟨k1, k2⟩ := hc.putObj hp hlive ho
      refine ⟨_, ?_, rfl, k1, k2⟩
      simp [Builtin.delete_, run_und hu, hobj, hck, h3, run_setObj h1 hnc]
  | _ => cases g0

end Go.AM
