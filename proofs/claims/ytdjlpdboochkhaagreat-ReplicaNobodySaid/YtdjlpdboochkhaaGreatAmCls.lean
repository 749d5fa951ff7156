/-
  Classes of operations: what an operation looks at, and what it turns.
-/
import Derived.Test.YtdjlpdboochkhaaGreatAmOp
set_option linter.unusedVariables false
namespace Go.AM
open Go.RowKit

variable {P : Program} {B : Nat} {w0 w : World} {σ : Sg} {H : Heap}

/-! ### An operation looks at its operands alone -/

theorem argsA_congr {ρ ρ' : Env} : ∀ {l : List Operand}, (∀ x ∈ l, ρ x = ρ' x) → argsA ρ l = argsA ρ' l
  | [], _ => rfl
  | x :: l, h => by
    show ((ρ x).bind fun v => (argsA ρ l).bind fun vs => some (v :: vs)) = ((ρ' x).bind fun v => (argsA ρ' l).bind fun vs => some (v :: vs))
    rw [h x (by simp), argsA_congr fun y hy => h y (by simp [hy])]

theorem partsA_congr {ρ ρ' : Env} : ∀ {l : List (Nat × Operand)}, (∀ p ∈ l, ρ p.2 = ρ' p.2) → partsA ρ l = partsA ρ' l
  | [], _ => rfl
  | x :: l, h => by
    show ((ρ x.2).bind fun v => (partsA ρ l).bind fun vs => some ((x.1, v) :: vs)) = ((ρ' x.2).bind fun v => (partsA ρ' l).bind fun vs => some ((x.1, v) :: vs))
    rw [h x (by simp), partsA_congr fun y hy => h y (by simp [hy])]

theorem arg1_congr {ρ ρ' : Env} {l : List Operand} {α : Type} {k : AV → Option α} (h : ∀ x ∈ l, ρ x = ρ' x) : arg1 ρ l k = arg1 ρ' l k := by
  unfold arg1
  rw [lget_eq]
  cases hx : l[0]? with
  | none => rfl
  | some x => simp only [Option.bind_some]; rw [h x (List.mem_of_getElem? hx)]

theorem arg2_congr {ρ ρ' : Env} {l : List Operand} {α : Type} {k : AV → AV → Option α} (h : ∀ x ∈ l, ρ x = ρ' x) : arg2 ρ l k = arg2 ρ' l k := by
  unfold arg2
  rw [lget_eq, lget_eq]
  cases hx : l[0]? with
  | none => rfl
  | some x =>
    simp only [Option.bind_some]
    rw [h x (List.mem_of_getElem? hx)]
    cases hy : l[1]? with
    | none => rfl
    | some y => simp only [Option.bind_some]; rw [h y (List.mem_of_getElem? hy)]

theorem optI_congr {ρ ρ' : Env} {x : Option Operand} {α : Type} {k : Option Int → Option α} (h : ∀ y ∈ x, ρ y = ρ' y) : optI ρ x k = optI ρ' x k := by
  cases x with
  | none => rfl
  | some y => show ((ρ y).bind _) = ((ρ' y).bind _); rw [h y rfl]

theorem oBuiltin_congr {ρ ρ' : Env} {b : Builtin} {ts : Array TypeId} {l : List Operand} (h : ∀ x ∈ l, ρ x = ρ' x) : oBuiltin P ρ H b ts l = oBuiltin P ρ' H b ts l := by
  cases b <;> simp only [oBuiltin] <;> try rfl
  all_goals first
    | (rw [argsA_congr h])
    | (congr 1; funext u; exact arg1_congr h)
    | (congr 1; funext u; congr 1; funext u; first | exact arg2_congr h | (congr 1; funext z; first | exact arg2_congr h | (congr 1; exact arg2_congr h)))

theorem opA_congr {ρ ρ' : Env} {op : Op} (h : ∀ x ∈ op.operands, ρ x = ρ' x) : opA P ρ H op = opA P ρ' H op := by
  cases op <;> simp only [Op.operands] at h <;> simp only [opA] <;> try rfl
  case call c =>
    obtain ⟨callee, args, ats⟩ := c
    cases callee with
    | builtin b => exact oBuiltin_congr fun x hx => h x (by simp [Call.operands] at hx ⊢; exact hx)
    | _ => rfl
  case build t ps => rw [partsA_congr fun p hp => h p.2 (by simp; exact ⟨p.1, Array.mem_toList_iff.1 hp⟩)]
  case buildSlice t n ps =>
    have : ∀ e, oBuildSlice P ρ H n ps.toList e = oBuildSlice P ρ' H n ps.toList e := by
      intro e
      unfold oBuildSlice
      rw [partsA_congr fun p hp => h p.2 (by simp; exact ⟨p.1, Array.mem_toList_iff.1 hp⟩)]
    simp only [this]
  case makeFunc fn a b =>
    have e1 : argsA ρ a.toList = argsA ρ' a.toList := argsA_congr fun x hx => h x (by simp at hx ⊢; exact .inl hx)
    have e2 : argsA ρ b.toList = argsA ρ' b.toList := argsA_congr fun x hx => h x (by simp at hx ⊢; exact .inr hx)
    unfold mkFn
    rw [e1, e2]
  case makeMap t r =>
    have : oMakeMap ρ H r = oMakeMap ρ' H r := by
      cases r with
      | none => rfl
      | some y => show ((ρ y).bind _) = ((ρ' y).bind _); rw [h y (by simp)]
    rw [this]
  case slice t x lo hi mx =>
    have hx := h x (by simp)
    have hl : ∀ {α : Type} {k : Option Int → Option α}, optI ρ lo k = optI ρ' lo k := optI_congr fun y hy => h y (by simp; right; left; simpa using hy)
    have hh : ∀ {α : Type} {k : Option Int → Option α}, optI ρ hi k = optI ρ' hi k := optI_congr fun y hy => h y (by simp; right; right; left; simpa using hy)
    have hm : ∀ {α : Type} {k : Option Int → Option α}, optI ρ mx k = optI ρ' mx k := optI_congr fun y hy => h y (by simp; right; right; right; simpa using hy)
    simp only [hx, hl, hh, hm]
  case pick c a b =>
    unfold oPick
    rw [h c (by simp), h a (by simp), h b (by simp)]
  all_goals simp_all

/-! ### What a plain operation comes to, over any heap -/

theorem ret_any {H H' : Heap} {x : Option AV} {v : AV} (h : ret H x = some (v, H')) : H' = H ∧ ∀ H2, ret H2 x = some (v, H2) := by
  obtain ⟨e, rfl⟩ := ret_some h
  exact ⟨rfl, fun H2 => by rw [e]; rfl⟩

theorem bind_any {α : Type} {x : Option α} {k : Heap → α → R} {v : AV} {H' : Heap} (h : x.bind (k H) = some (v, H')) (hk : ∀ a, k H a = some (v, H') → H' = H ∧ ∀ H2, k H2 a = some (v, H2)) :
    H' = H ∧ ∀ H2, x.bind (k H2) = some (v, H2) := by
  obtain ⟨a, ha, g⟩ := bnd h
  obtain ⟨e, k2⟩ := hk a g
  exact ⟨e, fun H2 => by rw [ha]; exact k2 H2⟩

theorem lenA_any {u : TypeDesc} {x : AV} (h : clsB .len (some u) = some .p) (H2 : Heap) : lenA H u x = lenA H2 u x := by
  cases u <;> try rfl
  cases h

theorem plain_any {ρ : Env} {op : Op} {v : AV} {H' : Heap} (hcls : clsOf P op = some .p) (h : opA P ρ H op = some (v, H')) : H' = H ∧ ∀ H2, opA P ρ H2 op = some (v, H2) := by
  cases op <;> try (cases hcls; done)
  case convert s d x =>
    have hcls : clsC (und P s) (und P d) = some .p := hcls
    obtain ⟨us, hus, g1⟩ := bnd (x := und P s) h
    obtain ⟨ud, hud, g2⟩ := bnd g1
    obtain ⟨a, ha, g3⟩ := bnd g2
    rw [hus, hud] at hcls
    have key : H' = H ∧ ∀ H2, oConvert P H2 s d us ud a = some (v, H2) := by
      cases ud <;> try (cases g3; done)
      case int k => exact ret_any (x := convInt k a) g3
      case string =>
        cases us <;> try (cases g3; done)
        case string => exact ret_any (x := convStr a) g3
        case slice e => cases hcls
      case slice e =>
        cases us <;> try (cases g3; done)
        case string => cases hcls
        case slice e => cases hcls
    exact ⟨key.1, fun H2 => by simp only [opA, hus, hud, ha, Option.bind_some]; exact key.2 H2⟩
  case call c =>
    obtain ⟨callee, args, ats⟩ := c
    cases callee <;> try (cases h; done)
    rename_i b
    have hcls : clsB b (ty0 P ats) = some .p := hcls
    show H' = H ∧ ∀ H2, oBuiltin P ρ H2 b ats args.toList = some (v, H2)
    have h : oBuiltin P ρ H b ats args.toList = some (v, H') := h
    cases b <;> try (cases hcls; done)
    case len =>
      obtain ⟨u, hu, g1⟩ := bnd (x := ty0 P ats) h
      rw [hu] at hcls
      obtain ⟨x, hx, g2⟩ := bnd g1
      obtain ⟨a, ha, g3⟩ := bnd g2
      obtain ⟨e, k⟩ := ret_any g3
      refine ⟨e, fun H2 => ?_⟩
      simp only [oBuiltin, hu, Option.bind_some, arg1, hx, ha]
      rw [lenA_any hcls H]
      exact k H2
    case cap =>
      obtain ⟨u, hu, g1⟩ := bnd (x := ty0 P ats) h
      obtain ⟨x, hx, g2⟩ := bnd g1
      obtain ⟨a, ha, g3⟩ := bnd g2
      obtain ⟨e, k⟩ := ret_any g3
      refine ⟨e, fun H2 => ?_⟩
      simp only [oBuiltin, hu, Option.bind_some, arg1, hx, ha]
      exact k H2
    case max =>
      obtain ⟨as, has, g1⟩ := bnd (x := argsA ρ args.toList) h
      cases as with
      | nil => cases g1
      | cons x r =>
        obtain ⟨e, k⟩ := ret_any (x := foldA maxA r x) g1
        exact ⟨e, fun H2 => by simp only [oBuiltin, has, Option.bind_some]; exact k H2⟩
    case min =>
      obtain ⟨as, has, g1⟩ := bnd (x := argsA ρ args.toList) h
      cases as with
      | nil => cases g1
      | cons x r =>
        obtain ⟨e, k⟩ := ret_any (x := foldA minA r x) g1
        exact ⟨e, fun H2 => by simp only [oBuiltin, has, Option.bind_some]; exact k H2⟩
  case move x => exact ret_any (x := ρ x) h
  case assign x => exact ret_any (x := ρ x) h
  case pick c a b => exact ret_any (x := oPick ρ c a b) h
  case makeFunc fn a b => exact ret_any (x := mkFn ρ fn a.toList b.toList) h
  case build t ps => exact bind_any (k := fun H l => ret H (buildA P t l)) h fun a g => ret_any g
  case nilCheck x => exact bind_any (k := fun H v => ret H (nilChk v)) h fun a g => ret_any g
  case unOp op t x => exact bind_any (k := fun H a => ret H (unA op a)) h fun a g => ret_any g
  case binOp op t x y _ => exact bind_any (k := fun H a => (ρ y).bind fun b => ret H (binA P op t a b)) h fun a g => bind_any (k := fun H b => ret H (binA P op t a b)) g fun b g => ret_any g
  case sliceToArrayPointer t x =>
    obtain ⟨u, hu, g1⟩ := bnd (x := und P t) h
    obtain ⟨a, ha, g2⟩ := bnd g1
    cases u <;> try (cases g2; done)
    obtain ⟨h0, g⟩ := cond_none g2
    obtain ⟨e, k⟩ := ret_any g
    exact ⟨e, fun H2 => by simp only [opA, hu, ha, Option.bind_some, h0, cond_false]; exact k H2⟩
  case makeInterface t x => exact bind_any (k := fun H u => (ρ x).bind fun v => ret H (mkIf t u v)) h fun u g => bind_any (k := fun H v => ret H (mkIf t u v)) g fun a g => ret_any g
  case fieldAddr t x f =>
    obtain ⟨u, hu, g1⟩ := bnd (x := und P t) h
    obtain ⟨fs, rfl, g2⟩ := asStruct_some g1
    obtain ⟨a, ha, g3⟩ := bnd g2
    obtain ⟨id, off, rfl, g4⟩ := asPtr_some g3
    obtain ⟨e, k⟩ := ret_any g4
    exact ⟨e, fun H2 => by simp only [opA, hu, ha, Option.bind_some, asStruct, asPtr]; exact k H2⟩
  case field t x f =>
    obtain ⟨u, hu, g1⟩ := bnd (x := und P t) h
    obtain ⟨fs, rfl, g2⟩ := asStruct_some g1
    obtain ⟨a, ha, g3⟩ := bnd g2
    obtain ⟨l, rfl, g4⟩ := asAg_some g3
    obtain ⟨fd, hfd, g5⟩ := bnd g4
    obtain ⟨e, k⟩ := ret_any g5
    exact ⟨e, fun H2 => by simp only [opA, hu, ha, Option.bind_some, asStruct, asAg, hfd]; exact k H2⟩
  case indexAddr t x i =>
    obtain ⟨u, hu, g1⟩ := bnd (x := und P t) h
    obtain ⟨a, ha, g2⟩ := bnd g1
    obtain ⟨b, hb, g3⟩ := bnd g2
    obtain ⟨kd, n, rfl, g4⟩ := asI_some g3
    obtain ⟨e, k⟩ := ret_any g4
    exact ⟨e, fun H2 => by simp only [opA, hu, ha, hb, Option.bind_some, asI]; exact k H2⟩
  case index t x i =>
    obtain ⟨u, hu, g1⟩ := bnd (x := und P t) h
    obtain ⟨a, ha, g2⟩ := bnd g1
    obtain ⟨b, hb, g3⟩ := bnd g2
    obtain ⟨kd, n, rfl, g4⟩ := asI_some g3
    obtain ⟨e, k⟩ := ret_any g4
    exact ⟨e, fun H2 => by simp only [opA, hu, ha, hb, Option.bind_some, asI]; exact k H2⟩
  case extract x i =>
    obtain ⟨a, ha, g2⟩ := bnd (x := ρ x) h
    obtain ⟨l, rfl, g3⟩ := asTup_some g2
    obtain ⟨e, k⟩ := ret_any g3
    exact ⟨e, fun H2 => by simp only [opA, ha, Option.bind_some, asTup]; exact k H2⟩

/-! ### What makes one object -/

theorem make_run {ρ : Env} {ρc : Operand → Value} {o : Oper} {v : AV} {H' : Heap} (he : EnvR σ ρ ρc) (hcls : clsOf P o.op = some .a) (h : opA P ρ H o.op = some (v, H')) :
    ∃ (ob : AObj) (f : Nat → AV), v = f H.next ∧ H' = H.add ob ∧ ob.mine ∧ ∃ s : Sem Value, execOp ρc o = (do pure (Next.value (← s))) ∧ ∀ w, NewOk P σ s ob f w := by
  obtain ⟨dst, op, type, pos, after, guard⟩ := o
  cases op <;> try (cases hcls; done)
  case alloc t =>
    obtain ⟨z, hz, g⟩ := bnd (x := zeroOf P t) h
    obtain ⟨rfl, rfl, hn⟩ := alloc_run (σ := σ) hz g
    exact ⟨_, fun n => .ptr n 0, rfl, rfl, AObj.mine_row rfl, _, rfl, hn⟩
  case box t x =>
    obtain ⟨a, ha, g⟩ := bnd (x := ρ x) h
    obtain ⟨rfl, rfl, hn⟩ := box_run (P := P) (t := t) g (he x a ha)
    exact ⟨_, fun n => .ptr n 0, rfl, rfl, AObj.mine_row rfl, _, rfl, hn⟩
  case buildSlice t n ps =>
    obtain ⟨u, hu, g1⟩ := bnd (x := und P t) h
    obtain ⟨e, rfl, g2⟩ := asSlice_some g1
    obtain ⟨s, hs, g3⟩ := bnd (x := szOf P e) g2
    obtain ⟨z, hz, g4⟩ := bnd g3
    obtain ⟨pl, hpl, g5⟩ := bnd g4
    obtain ⟨cs, rfl, rfl, _, _, hn⟩ := bslc_run (σ := σ) (pc := ps.map fun (i, x) => (i, ρc x)) hu hs hz (by simpa using partsA_PRs he hpl) g5
    exact ⟨_, fun m => .slice m 0 n n, rfl, rfl, AObj.mine_row rfl, _, rfl, hn⟩
  case makeMap t r =>
    obtain ⟨u, hu, g1⟩ := bnd (x := und P t) h
    obtain ⟨kt, et, rfl, g2⟩ := asMapT_some g1
    obtain ⟨rfl, rfl, _, hn⟩ := makeMap_run he hu g2
    exact ⟨_, .map, rfl, rfl, (by intro _ _ _ _ e; cases e), _, rfl, hn⟩
  case makeSlice t l c =>
    obtain ⟨u, hu, g1⟩ := bnd (x := und P t) h
    obtain ⟨e, rfl, g2⟩ := asSlice_some g1
    obtain ⟨lv, hl, g3⟩ := bnd g2
    obtain ⟨cv, hcv, g4⟩ := bnd g3
    obtain ⟨ob, f, rfl, rfl, hm, _, hn⟩ := makeSlice_run (σ := σ) hu g4 (he l _ hl) (he c _ hcv)
    exact ⟨ob, f, rfl, rfl, hm, _, rfl, hn⟩
  case convert s d x =>
    have hcls : clsC (und P s) (und P d) = some .a := hcls
    obtain ⟨us, hus, g1⟩ := bnd (x := und P s) h
    obtain ⟨ud, hud, g2⟩ := bnd g1
    obtain ⟨a, ha, g3⟩ := bnd g2
    rw [hus, hud] at hcls
    cases us <;> try (cases hcls; done)
    case string =>
      cases ud <;> try (cases hcls; done)
      case slice e =>
        obtain ⟨h1, g⟩ := cond_some (b := isU8 P e) g3
        have u8 : und P e = some (.int .u8) := by
          unfold isU8 at h1
          split at h1
          · assumption
          · cases h1
        obtain ⟨ob, f, rfl, rfl, hm, _, hn⟩ := bytesOfStr_run (σ := σ) hus hud u8 g (he x _ ha)
        exact ⟨ob, f, rfl, rfl, hm, _, rfl, hn⟩
    case slice e => cases ud <;> cases hcls
  case call c =>
    obtain ⟨callee, args, ats⟩ := c
    cases callee <;> try (cases hcls; done)
    rename_i b
    have hcls : clsB b (ty0 P ats) = some .a := hcls
    cases b <;> try (cases hcls; done)
    case len =>
      cases hu : ty0 P ats with
      | none => rw [hu] at hcls; cases hcls
      | some u => rw [hu] at hcls; cases u <;> cases hcls

/-! ### What reads -/

def AV.idOf : AV → Option Nat
  | .ptr id _ | .slice id _ _ _ | .oslice id _ _ | .map id => some id
  | _ => none

/-- A read looks at one object at most. -/
structure RdDep (P : Program) (ρ : Env) (op : Op) (D : Option Nat) : Prop where
  named : ∀ id, D = some id → ∃ y ∈ op.operands, ∃ a, ρ y = some a ∧ a.idOf = some id
  same : ∀ H v H', opA P ρ H op = some (v, H') → H' = H ∧ (∀ id, D = some id → H.get id ≠ none) ∧ ∀ H2, (∀ id, D = some id → H2.get id = H.get id) → opA P ρ H2 op = some (v, H2)

theorem loadN_dep {H2 : Heap} {id off n : Nat} (h : H2.get id = H.get id) : loadN H2 id off n = loadN H id off n := by unfold loadN; rw [h]
theorem oLoad_dep {H2 : Heap} {t : TypeId} {id off : Nat} (h : H2.get id = H.get id) : oLoad P H2 t id off = oLoad P H t id off := by unfold oLoad; simp only [loadN_dep h]
theorem loadN_there {id off n : Nat} {l : List AV} (h : loadN H id off n = some l) : H.get id ≠ none := by
  obtain ⟨o, ho, _⟩ := bnd h
  rw [ho]; simp
theorem oLoad_there {t : TypeId} {id off : Nat} {v : AV} (h : oLoad P H t id off = some v) : H.get id ≠ none := by
  obtain ⟨b, hb, h⟩ := bnd h
  cases b with
  | true =>
    obtain ⟨n, hn, h⟩ := bnd (x := szOf P t) h
    obtain ⟨l, hl, h⟩ := bnd h
    exact loadN_there hl
  | false =>
    obtain ⟨l, hl, h⟩ := bnd (x := loadN H id off 1) h
    exact loadN_there hl
theorem mapOf_dep {H2 : Heap} {id : Nat} {α : Type} {k : List (AV × AV × Nat) → Nat → Option α} (h : H2.get id = H.get id) : mapOf H2 id k = mapOf H id k := by unfold mapOf; rw [h]

theorem ret_dep {H H' : Heap} {x : Heap → Option AV} {v : AV} (h : ret H (x H) = some (v, H')) : H' = H ∧ x H = some v := by
  obtain ⟨e, rfl⟩ := ret_some h
  exact ⟨rfl, e⟩

theorem read_dep {ρ : Env} {op : Op} (hcls : clsOf P op = some .r) : ∃ D, RdDep P ρ op D := by
  cases op <;> try (cases hcls; done)
  case load t x =>
    refine ⟨(ρ x).bind AV.idOf, fun id hid => ?_, fun H v H' h => ?_⟩
    · obtain ⟨a, ha, h⟩ := bnd hid
      exact ⟨x, by simp [Op.operands], a, ha, h⟩
    · obtain ⟨a, ha, g1⟩ := bnd (x := ρ x) h
      obtain ⟨id, off, rfl, g2⟩ := asPtr_some g1
      obtain ⟨g3, rfl⟩ := ret_some g2
      refine ⟨rfl, fun id' hid => ?_, fun H2 h2 => ?_⟩
      · rw [ha] at hid; cases hid; exact oLoad_there g3
      · have := h2 id (by rw [ha]; rfl)
        show ((ρ x).bind fun v => asPtr v fun id off => ret H2 (oLoad P H2 t id off)) = _
        rw [ha]
        show ret H2 (oLoad P H2 t id off) = _
        rw [oLoad_dep this, g3]; rfl
  case lookup t m k ok =>
    refine ⟨(ρ m).bind AV.idOf, fun id hid => ?_, fun H v H' h => ?_⟩
    · obtain ⟨a, ha, h⟩ := bnd hid
      exact ⟨m, by simp [Op.operands], a, ha, h⟩
    · obtain ⟨u, hu, g1⟩ := bnd (x := und P t) h
      obtain ⟨kt, et, rfl, g2⟩ := asMapT_some g1
      obtain ⟨a, ha, g3⟩ := bnd g2
      obtain ⟨b, hb, g4⟩ := bnd g3
      obtain ⟨g5, rfl⟩ := ret_some g4
      obtain ⟨hk, g6⟩ := cond_some g5
      have go : ∀ H2, opA P ρ H2 (.lookup t m k ok) = ret H2 (lookupA P H2 a b ok kt et) := by
        intro H2
        simp only [opA, hu, ha, hb, Option.bind_some, asMapT]
      cases a with
      | map id =>
        refine ⟨rfl, fun id' hid => ?_, fun H2 h2 => ?_⟩
        · rw [ha] at hid; cases hid
          obtain ⟨es, clock, hg, _⟩ := mapOf_some g6
          rw [hg]; simp
        · have := h2 id (by rw [ha]; rfl)
          have e : lookupA P H2 (.map id) b ok kt et = lookupA P H' (.map id) b ok kt et := by
            unfold lookupA; simp only [mapOf_dep this]
          rw [go, e, g5]; rfl
      | nilm =>
        refine ⟨rfl, fun id' hid => ?_, fun H2 h2 => ?_⟩
        · rw [ha] at hid; cases hid
        · have e : lookupA P H2 .nilm b ok kt et = lookupA P H' .nilm b ok kt et := rfl
          rw [go, e, g5]; rfl
      | _ => cases g6
  case slice t x lo hi mx =>
    refine ⟨(ρ x).bind fun a => (match a with | .oslice id _ _ => some id | _ => none), fun id hid => ?_, fun H v H' h => ?_⟩
    · obtain ⟨a, ha, h⟩ := bnd hid
      refine ⟨x, by simp [Op.operands], a, ha, ?_⟩
      cases a <;> first | (cases h; done) | exact h
    · obtain ⟨u, hu, g1⟩ := bnd (x := und P t) h
      obtain ⟨a, ha, g2⟩ := bnd g1
      have key : ∀ (x : Option Operand) {k : Option Int → R} {r : AV × Heap}, optI ρ x k = some r → ∃ n, ∀ {k' : Option Int → R}, optI ρ x k' = k' n := by
        intro x k r h
        cases x with
        | none => exact ⟨none, rfl⟩
        | some x =>
          obtain ⟨v, hv, h⟩ := bnd h
          obtain ⟨kd, n, rfl, h⟩ := asI_some h
          exact ⟨some n, fun {k'} => by show ((ρ x).bind fun v => asI v fun n => k' (some n)) = _; rw [hv]; rfl⟩
      obtain ⟨l, hl⟩ := key lo g2
      rw [hl] at g2
      obtain ⟨hh, hhh⟩ := key hi g2
      rw [hhh] at g2
      obtain ⟨m, hm⟩ := key mx g2
      rw [hm] at g2
      obtain ⟨g6, rfl⟩ := ret_some g2
      have go : ∀ H2, opA P ρ H2 (.slice t x lo hi mx) = ret H2 (oSlice P H2 u a l hh m) := by
        intro H2
        simp only [opA, hu, ha, Option.bind_some, hl, hhh, hm]
      cases a with
      | oslice id off len =>
        refine ⟨rfl, fun id' hid => ?_, fun H2 h2 => ?_⟩
        · rw [ha] at hid; cases hid
          cases u <;> try (cases g6; done)
          case slice elem =>
            obtain ⟨s, hs, g7⟩ := bnd (x := szOf P elem) g6
            obtain ⟨h0, g8⟩ := cond_none g7
            obtain ⟨o, ho, _⟩ := bnd (x := H'.get id) g8
            rw [ho]; simp
          case array n elem =>
            obtain ⟨s, hs, g7⟩ := bnd (x := szOf P elem) g6
            obtain ⟨h0, g8⟩ := cond_none g7
            cases g8
        · have := h2 id (by rw [ha]; rfl)
          have e : oSlice P H2 u (.oslice id off len) l hh m = oSlice P H' u (.oslice id off len) l hh m := by
            cases u <;> try rfl
            simp only [oSlice, sliceA, slOpen, this]
          rw [go, e, g6]; rfl
      | _ =>
        refine ⟨rfl, fun id' hid => ?_, fun H2 h2 => ?_⟩
        · rw [ha] at hid; cases hid
        · rw [go]
          cases u <;> first | (cases g6; done) | exact congrArg (fun o => Option.bind o fun v => some (v, H2)) g6
  case convert s d x =>
    have hcls : clsC (und P s) (und P d) = some .r := hcls
    refine ⟨(ρ x).bind AV.idOf, fun id hid => ?_, fun H v H' h => ?_⟩
    · obtain ⟨a, ha, h⟩ := bnd hid
      exact ⟨x, by simp [Op.operands], a, ha, h⟩
    · obtain ⟨us, hus, g1⟩ := bnd (x := und P s) h
      obtain ⟨ud, hud, g2⟩ := bnd g1
      obtain ⟨a, ha, g3⟩ := bnd g2
      rw [hus, hud] at hcls
      cases us <;> try (cases hcls; done)
      case string => cases ud <;> cases hcls
      case slice e =>
        cases ud <;> try (cases hcls; done)
        case string =>
          obtain ⟨h1, g⟩ := cond_some (b := isU8 P e) g3
          obtain ⟨g4, rfl⟩ := ret_some g
          have go : ∀ H2, opA P ρ H2 (.convert s d x) = ret H2 (strOfBytes H2 a) := by
            intro H2
            simp only [opA, hus, hud, ha, Option.bind_some, oConvert, h1, cond_true]
          rcases asSl_some g4 with ⟨rfl, g5⟩ | ⟨id, off, len, g5, hs⟩
          · refine ⟨rfl, fun id' hid => ?_, fun H2 h2 => ?_⟩
            · rw [ha] at hid; cases hid
            · rw [go]
              have e : strOfBytes H2 .nils = strOfBytes H' .nils := rfl
              rw [e, g4]; rfl
          · have hid0 : a.idOf = some id := by rcases hs with ⟨cap, rfl⟩ | rfl <;> rfl
            refine ⟨rfl, fun id' hid => ?_, fun H2 h2 => ?_⟩
            · rw [ha, Option.bind_some, hid0] at hid
              cases hid
              obtain ⟨l, hl, _⟩ := bnd g5
              exact loadN_there hl
            · have hh := h2 id (by rw [ha, Option.bind_some, hid0])
              have e : strOfBytes H2 a = strOfBytes H' a := by
                unfold strOfBytes
                rcases hs with ⟨cap, rfl⟩ | rfl <;> simp only [asSl, loadN_dep hh]
              rw [go, e, g4]; rfl
  case call c =>
    obtain ⟨callee, args, ats⟩ := c
    cases callee <;> try (cases hcls; done)
    rename_i b
    have hcls : clsB b (ty0 P ats) = some .r := hcls
    cases b <;> try (cases hcls; done)
    case len =>
      refine ⟨(lget args.toList 0).bind fun x => (ρ x).bind AV.idOf, fun id hid => ?_, fun H v H' h => ?_⟩
      · obtain ⟨x, hx, h⟩ := bnd hid
        obtain ⟨a, ha, h⟩ := bnd h
        rw [lget_eq] at hx
        have : args[0]? = some x := by simpa using hx
        exact ⟨x, by simp [Op.operands, Call.operands]; exact Array.mem_of_getElem? this, a, ha, h⟩
      · obtain ⟨u, hu, g1⟩ := bnd (x := ty0 P ats) h
        rw [hu] at hcls
        cases u <;> try (cases hcls; done)
        obtain ⟨x, hx, g2⟩ := bnd g1
        obtain ⟨a, ha, g3⟩ := bnd g2
        obtain ⟨g4, rfl⟩ := ret_some g3
        rename_i kt et
        have go : ∀ H2, opA P ρ H2 (.call ⟨.builtin .len, args, ats⟩) = ret H2 (lenMap H2 a) := by
          intro H2
          show oBuiltin P ρ H2 .len ats args.toList = _
          simp only [oBuiltin, hu, Option.bind_some, arg1, hx, ha]
          rfl
        have g4 : lenMap H' a = some v := g4
        cases a with
        | map id =>
          refine ⟨rfl, fun id' hid => ?_, fun H2 h2 => ?_⟩
          · rw [hx, Option.bind_some, ha] at hid; cases hid
            obtain ⟨es, clock, hg, _⟩ := mapOf_some (k := fun es _ => some (goI (llen es))) g4
            rw [hg]; simp
          · have := h2 id (by rw [hx, Option.bind_some, ha]; rfl)
            have e : lenMap H2 (.map id) = lenMap H' (.map id) := by
              show mapOf H2 id _ = mapOf H' id _
              exact mapOf_dep this
            rw [go, e, g4]; rfl
        | nilm =>
          refine ⟨rfl, fun id' hid => ?_, fun H2 h2 => ?_⟩
          · rw [hx, Option.bind_some, ha] at hid; cases hid
          · rw [go, show lenMap H2 .nilm = lenMap H' .nilm from rfl, g4]; rfl
        | _ => cases g4

/-- A read, over what is said of the objects alone. -/
theorem read_run {ρ : Env} {ρc : Operand → Value} {o : Oper} {v : AV} {H' : Heap} (hc : Rd σ H w) (he : EnvR σ ρ ρc) (hcls : clsOf P o.op = some .r) (h : opA P ρ H o.op = some (v, H')) :
    ∃ cv, (execOp ρc o).run P w = .ok (.value cv) w ∧ VR σ v cv := by
  have fv : ∀ {s : Sem Value}, (∃ cv, s.run P w = .ok cv w ∧ VR σ v cv) → ∃ cv, (do pure (Next.value (← s)) : Sem Next).run P w = .ok (.value cv) w ∧ VR σ v cv := by
    intro s ⟨cv, h1, h2⟩
    exact ⟨cv, by simp [h1], h2⟩
  obtain ⟨dst, op, type, pos, after, guard⟩ := o
  cases op <;> try (cases hcls; done)
  case load t x =>
    obtain ⟨a, ha, g1⟩ := bnd (x := ρ x) h
    obtain ⟨id, off, rfl, g2⟩ := asPtr_some g1
    obtain ⟨g3, rfl⟩ := ret_some g2
    exact fv (oLoad_run hc g3 (he x _ ha))
  case lookup t m k ok =>
    obtain ⟨u, hu, g1⟩ := bnd (x := und P t) h
    obtain ⟨kt, et, rfl, g2⟩ := asMapT_some g1
    obtain ⟨a, ha, g3⟩ := bnd g2
    obtain ⟨b, hb, g4⟩ := bnd g3
    obtain ⟨g5, rfl⟩ := ret_some g4
    exact fv (lookup_run hc hu g5 (he m _ ha) (he k _ hb))
  case slice t x lo hi mx =>
    obtain ⟨u, hu, g1⟩ := bnd (x := und P t) h
    obtain ⟨a, ha, g2⟩ := bnd g1
    obtain ⟨l, g3, hl⟩ := optI_some he g2
    obtain ⟨hh, g4, hhi⟩ := optI_some he g3
    obtain ⟨m, g5, hm⟩ := optI_some he g4
    obtain ⟨g6, rfl⟩ := ret_some g5
    obtain ⟨cv, k1, k2⟩ := oSlice_run hc hu g6 (he x _ ha) hl hhi hm
    exact fv ⟨cv, k2 w, k1⟩
  case convert s d x =>
    have hcls : clsC (und P s) (und P d) = some .r := hcls
    obtain ⟨us, hus, g1⟩ := bnd (x := und P s) h
    obtain ⟨ud, hud, g2⟩ := bnd g1
    obtain ⟨a, ha, g3⟩ := bnd g2
    rw [hus, hud] at hcls
    cases us <;> try (cases hcls; done)
    case string => cases ud <;> cases hcls
    case slice e =>
      cases ud <;> try (cases hcls; done)
      case string =>
        obtain ⟨h1, g⟩ := cond_some (b := isU8 P e) g3
        have u8 : und P e = some (.int .u8) := by
          unfold isU8 at h1
          split at h1
          · assumption
          · cases h1
        obtain ⟨g4, rfl⟩ := ret_some g
        exact fv (strOfBytes_run hc hus hud u8 g4 (he x _ ha))
  case call c =>
    obtain ⟨callee, args, ats⟩ := c
    cases callee <;> try (cases hcls; done)
    rename_i b
    have hcls : clsB b (ty0 P ats) = some .r := hcls
    cases b <;> try (cases hcls; done)
    case len =>
      obtain ⟨u, hu, g1⟩ := bnd (x := ty0 P ats) h
      obtain ⟨t, ht, hu⟩ := ty0_some hu
      obtain ⟨x, xc, g2, hx, ha⟩ := arg1_some he g1
      obtain ⟨g3, rfl⟩ := ret_some g2
      have h1 := len_run (ty := type) hc hu g3 hx
      rw [← len_args ht ha] at h1
      exact fv h1

end Go.AM
