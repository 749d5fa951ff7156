/-
  Loads and stores at an object that is known; closed runs; values that are not looked into.
-/
import Derived.Test.YtdjlpdboochkhaaGreatAmBlake
import Derived.Test.YtdjlpdboochkhaaGreatAmFxRun
import Derived.Test.YtdjlpdboochkhaaGreatAmLaw
set_option linter.unusedVariables false
namespace Go.AM
open Go.RowKit

variable {P : Program} {X : Ext} {Y : Sums}

noncomputable def loadObj (P : Program) (t : TypeId) (o : AObj) (off : Nat) : Option AV :=
  (aggO P t).bind fun b => cond b ((szOf P t).bind fun n => (rowOf o fun t lo hi z _ => cellsFrom t lo hi z off n).bind fun l => some (.agg l))
    ((rowOf o fun t lo hi z _ => cellsFrom t lo hi z off 1).bind fun l => lget l 0)
noncomputable def storeObj (P : Program) (t : TypeId) (o : AObj) (off : Nat) (v : AV) : Option AObj :=
  (szOf P t).bind fun n => cond (Nat.beq (llen v.cells) n) (rowOf o fun t lo hi z g => cond (Nat.beq g roG) none (cond (Nat.ble lo off) (cond (Nat.ble (Nat.add off (llen v.cells)) hi)
    (cond (allOne v.cells) (some (.row (t.fill off v.cells) lo hi z g)) none) none) none)) none

theorem load_own {t : TypeId} {id off : Nat} {o : AObj} {v : AV} {H : Heap} (hg : H.get id = some o) (hl : loadObj P t o off = some v) : xLoad P t (.ptr id off) H = some (v, H) := by
  show ret H (oLoad P H t id off) = _
  have : oLoad P H t id off = loadObj P t o off := by
    unfold oLoad loadObj loadN
    rw [hg]; rfl
  rw [this, hl]; rfl

theorem store_own {t : TypeId} {id off : Nat} {o o' : AObj} {v : AV} {H : Heap} (hg : H.get id = some o) (hs : storeObj P t o off v = some o') : xStore P t (.ptr id off) v H = some (undefA, H.put id o') := by
  show oStore P H t id off v = _
  unfold oStore
  obtain ⟨n, hn, h1⟩ := bnd hs
  rw [hn]
  obtain ⟨h2, h3⟩ := cond_some h1
  show cond (Nat.beq (llen v.cells) n) _ none = _
  rw [h2]
  obtain ⟨tr, lo, hi, z, g, rfl, h4⟩ := rowOf_some h3
  obtain ⟨k1, h4⟩ := cond_none h4
  obtain ⟨k2, h4⟩ := cond_some h4
  obtain ⟨k3, h4⟩ := cond_some h4
  obtain ⟨k4, h4⟩ := cond_some h4
  cases h4
  show ((storeN H id off v.cells).bind fun H' => some (undefA, H')) = _
  unfold storeN
  rw [hg]
  show ((storeIn H id off v.cells tr lo hi z g).bind fun H' => some (undefA, H')) = _
  unfold storeIn
  rw [k1, k2, k3, k4]; rfl

theorem get_add_self (H : Heap) (o : AObj) : (H.add o).get H.next = some o := by rw [Heap.get_add, if_pos rfl]
theorem get_put_self (H : Heap) (i : Nat) (o : AObj) : (H.put i o).get i = some o := by rw [Heap.get_put, if_pos rfl]
theorem get_add_ne (H : Heap) (o : AObj) {j : Nat} (h : j ≠ H.next) : (H.add o).get j = H.get j := by rw [Heap.get_add, if_neg h]
theorem get_put_ne (H : Heap) (o : AObj) {i j : Nat} (h : j ≠ i) : (H.put i o).get j = H.get j := by rw [Heap.get_put, if_neg h]

theorem rowAt_row (l : List AV) (z : List AV) (j : Nat) (h : j < l.length) : rowAt ((Tr.e).fill 0 l) 0 l.length z j = l[j]? := by
  unfold rowAt
  rw [nble.2 (Nat.zero_le j), nble.2 (show Nat.succ j ≤ l.length from h), Tr.get_fill, if_pos ⟨Nat.zero_le _, by omega⟩, Nat.sub_zero, List.getElem?_eq_getElem h]
  rfl

theorem cellsFrom_row (l z : List AV) : ∀ (n i : Nat), i + n = l.length → cellsFrom ((Tr.e).fill 0 l) 0 l.length z i n = some (l.drop i)
  | 0, i, h => by rw [List.drop_of_length_le (by omega)]; rfl
  | n + 1, i, h => by
    show ((rowAt ((Tr.e).fill 0 l) 0 l.length z i).bind fun v => (cellsFrom ((Tr.e).fill 0 l) 0 l.length z (i + 1) n).bind fun vs => some (v :: vs)) = _
    have hi : i < l.length := by omega
    rw [rowAt_row l z i hi, List.getElem?_eq_getElem hi, cellsFrom_row l z n (i + 1) (by omega), List.drop_eq_getElem_cons hi]
    rfl

/-- What a boxed struct is loaded as. -/
theorem loadObj_row {t : TypeId} {l : List AV} (ha : aggO P t = some true) (hs : szOf P t = some l.length) : loadObj P t (ofRow l) 0 = some (.agg l) := by
  unfold loadObj ofRow
  rw [ha, hs, llen_eq]
  show ((cellsFrom ((Tr.e).fill 0 l) 0 l.length [] 0 l.length).bind fun l => some (AV.agg l)) = _
  rw [cellsFrom_row l [] l.length 0 (by omega)]
  rfl

theorem box_agg {l : List AV} (h : allOne l = true) (H : Heap) : xBox (.agg l) H = some (.ptr H.next 0, H.add (ofRow l)) := by
  show cond (allOne l) _ none = _
  rw [h]; rfl

/-- A closed run, wherever it begins. -/
theorem WF_closed (hY : YOk P X Y) {fuel : Nat} {f : FuncId} {args : List AV} {v : AV} (hX : X f = none) (h : runF P X Y fuel (.func f [] []) args ⟨.e, 0⟩ (fun w _ => AV.beq w v) = true)
    (hp : args.all plainC = true) (hv : plainC v = true) {H : Heap} {Q : HK} (hq : Q v H) : WF P X (.func f [] []) args H Q := by
  obtain ⟨w, H0, h1, h2⟩ := runF_ev hY h
  have := AV.beq_eq h2
  subst this
  exact ⟨w, H, .closed hX (by simpa using hp) hv (by simpa using h1), hq⟩

theorem WF_true (hY : YOk P X Y) {fuel : Nat} {f : FuncId} {args : List AV} (hX : X f = none) (h : trueF P X Y fuel f args = true) (hp : args.all plainC = true) {H : Heap} {Q : HK} (hq : Q (.bool true) H) : WF P X (.func f [] []) args H Q := by
  obtain ⟨H', h1⟩ := trueF_ev hY h
  exact ⟨_, H, .closed hX (by simpa using hp) rfl (by simpa using h1), hq⟩

theorem guardS_tt (t e : Prop) : guardS true (.bool true) t e = t := rfl
theorem guardS_ff (t e : Prop) : guardS false (.bool false) t e = t := rfl
theorem guardS_tf (t e : Prop) : guardS true (.bool false) t e = e := rfl
theorem guardS_ft (t e : Prop) : guardS false (.bool true) t e = e := rfl
theorem boolS_t (t e : Prop) : boolS (.bool true) t e = t := rfl
theorem boolS_f (t e : Prop) : boolS (.bool false) t e = e := rfl
theorem xPick_t (a b : AV) (H : Heap) : xPick (.bool true) a b H = some (a, H) := rfl
theorem xPick_f (a b : AV) (H : Heap) : xPick (.bool false) a b H = some (b, H) := rfl
theorem xNotF (H : Heap) : xUn .not (.bool false) H = some (.bool true, H) := rfl
theorem xNotT (H : Heap) : xUn .not (.bool true) H = some (.bool false, H) := rfl

/-! ### Values that are not looked into -/

/-- A value of a cell that lies in memory that is there. -/
inductive Opq (w : World) : Value → Prop
  | bool {b} : Opq w (.bool b)
  | int {k n} : Opq w (.int k n)
  | str {s} : Opq w (.string s)
  | nilp : Opq w (.pointer none)
  | nils : Opq w (.slice none 0 0)
  | slice {b o len cap} : b < w.heap.size → Opq w (.slice (some ⟨b, o, none⟩) len cap)

theorem Conc.veil {B : Nat} {w0 w : World} {σ : Sg} {H : Heap} (h : Conc B w0 σ H w) {b : Nat} (o : Nat) (hb : b < w.heap.size) : Conc B w0 (σ.add H.next ⟨b, o, 0, 0, 0, 0⟩) (H.add .dead) w := by
  have hle : Le σ (σ.add H.next ⟨b, o, 0, 0, 0, 0⟩) := Le.add h.fresh
  have hget : ∀ j q, (σ.add H.next ⟨b, o, 0, 0, 0, 0⟩) j = some q → (j = H.next ∧ q = ⟨b, o, 0, 0, 0, 0⟩) ∨ (j ≠ H.next ∧ σ j = some q) := by
    intro j q hq
    unfold Sg.add at hq
    by_cases e : j = H.next
    · rw [if_pos e] at hq; cases hq; exact .inl ⟨e, rfl⟩
    · rw [if_neg e] at hq; exact .inr ⟨e, hq⟩
  have hlv : ∀ j, live (H.add .dead) j → j ≠ H.next ∧ live H j := by
    intro j ⟨o', h1, h2⟩
    rw [Heap.get_add] at h1
    by_cases e : j = H.next
    · rw [if_pos e] at h1; cases h1; cases h2
    · rw [if_neg e] at h1; exact ⟨e, o', h1, h2⟩
  refine ⟨?_, ?_, ?_, ?_, ?_, h.below, h.size, ?_⟩
  · intro j q o' hq ho'
    rw [Heap.get_add] at ho'
    rcases hget j q hq with ⟨e, rfl⟩ | ⟨e, hq'⟩
    · rw [if_pos e] at ho'; cases ho'; trivial
    · rw [if_neg e] at ho'; exact OR.mono hle rfl (h.obj j q o' hq' ho')
  · intro j q hq
    rcases hget j q hq with ⟨e, rfl⟩ | ⟨e, hq'⟩
    · exact ⟨.dead, by rw [Heap.get_add, if_pos e]⟩
    · obtain ⟨o', ho'⟩ := h.ex j q hq'
      exact ⟨o', by rw [Heap.get_add, if_neg e, ho']⟩
  · intro i j pi pj hi hj hli hlj e
    rcases hget i pi hi with ⟨ei, rfl⟩ | ⟨ei, hi'⟩
    · exact absurd ei (hlv i hli).1
    · rcases hget j pj hj with ⟨ej, rfl⟩ | ⟨ej, hj'⟩
      · exact absurd ej (hlv j hlj).1
      · exact h.inj i j pi pj hi' hj' (hlv i hli).2 (hlv j hlj).2 e
  · intro j q hq
    rcases hget j q hq with ⟨e, rfl⟩ | ⟨e, hq'⟩
    · exact ⟨fun hl => absurd e (hlv j hl).1, hb⟩
    · exact ⟨fun hl => (h.blk j q hq').1 (hlv j hl).2, (h.blk j q hq').2⟩
  · intro j o' ho'
    rw [Heap.get_add] at ho'
    rw [Heap.next_add]
    by_cases e : j = H.next
    · omega
    · rw [if_neg e] at ho'; have := h.next _ _ ho'; omega
  · intro j q t lo hi z hq ho'
    rw [Heap.get_add] at ho'
    rcases hget j q hq with ⟨e, rfl⟩ | ⟨e, hq'⟩
    · rw [if_pos e] at ho'; cases ho'
    · rw [if_neg e] at ho'; exact h.ro j q t lo hi z hq' ho'

/-- Cells that are not looked into, as abstract values. -/
theorem veils {B : Nat} {w0 w : World} : ∀ {l : List Value} {σ : Sg} {H : Heap}, (∀ v ∈ l, Opq w v) → Conc B w0 σ H w →
    ∃ σ' H' ms, Conc B w0 σ' H' w ∧ Le σ σ' ∧ VRs σ' ms l ∧ allOne ms = true
  | [], σ, H, _, hc => ⟨σ, H, [], hc, .refl _, rfl, rfl⟩
  | v :: l, σ, H, ho, hc => by
    have step : ∀ (σ1 : Sg) (H1 : Heap) (m : AV), Conc B w0 σ1 H1 w → Le σ σ1 → VR σ1 m v → m.one = true → ∃ σ' H' ms, Conc B w0 σ' H' w ∧ Le σ σ' ∧ VRs σ' ms (v :: l) ∧ allOne ms = true := by
      intro σ1 H1 m hc1 hle hv hone
      obtain ⟨σ', H', ms, k1, k2, k3, k4⟩ := veils (fun v hv => ho v (List.mem_cons_of_mem _ hv)) hc1
      refine ⟨σ', H', m :: ms, k1, hle.trans k2, ⟨v, l, rfl, hv.mono k2, k3⟩, ?_⟩
      show cond m.one (allOne ms) false = true
      rw [hone]; exact k4
    cases ho v (List.mem_cons_self ..) with
    | @bool b => exact step σ H (.bool b) hc (.refl _) rfl rfl
    | @int k n => exact step σ H (.int k n) hc (.refl _) rfl rfl
    | @str s => exact step σ H (.str (s.data.toList.map (·.toNat))) hc (.refl _) ⟨s, rfl, rfl⟩ rfl
    | nilp => exact step σ H .nilp hc (.refl _) rfl rfl
    | nils => exact step σ H .nils hc (.refl _) rfl rfl
    | @slice b o len cap hb =>
      exact step _ _ (.slice H.next 0 len cap) (hc.veil o hb) (Le.add hc.fresh) ⟨_, Sg.add_self _ _ _, Nat.le_refl _, rfl⟩ rfl

/-- Cells of types that hold no pointers, maps or interfaces. -/
def opqT (P : Program) (t : TypeId) : Bool := match P.underlying t with
  | some .bool | some .string | some (.int _) | some (.slice _) => true
  | _ => false

theorem cell_opq {w : World} {r : _root_.Go.Reach} {base : Nat} {t : TypeId} {v : Value} (ht : opqT P t = true) (h : Cell.okWide P w r base t v) : Opq w v := by
  unfold opqT at ht
  have key : ∀ a e n, w.has P r base a e n → a.spot = none ∧ a.block < w.heap.size := by
    intro a e n ⟨_, h1, row, cells, h2, _⟩
    refine ⟨h1, ?_⟩
    unfold World.shape? at h2
    cases hb : w.heap[a.block]? with
    | none => simp [hb] at h2
    | some o => exact (Array.getElem?_eq_some_iff.1 hb).1
  split at ht <;> rename_i hu <;> simp only [Cell.okWide, Cell.ok, hu] at h
  · cases v <;> first | exact .bool | (exact h.elim)
  · cases v <;> first | exact .str | (exact h.elim)
  · cases v <;> first | exact .int | (exact h.elim)
  · cases v with
    | slice a len cap =>
      cases a with
      | none =>
        cases len with
        | zero => cases cap with
          | zero => exact .nils
          | succ n => exact h.elim
        | succ n => exact h.elim
      | some a =>
        obtain ⟨b, o, sp⟩ := a
        obtain ⟨h1, h2⟩ := key _ _ _ h.2.2
        cases h1
        exact .slice h2
    | _ => exact h.elim
  · cases ht

end Go.AM
