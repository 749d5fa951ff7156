/-
  A region that draws its order: the heap.
-/
import Derived.Test.YtdjlpdboochkhaaGreatAmDraw
set_option linter.unusedVariables false
namespace Go.AM
open Go.RowKit

variable {P : Program} {B : Nat} {w0 w w' : World} {σ : Sg} {H : Heap}

/-! ### The relation, when the world holds more -/

theorem Conc.wider (h : Conc B w0 σ H w) (hsz : w.heap.size ≤ w'.heap.size) (hold : ∀ b, b < w.heap.size → w'.heap[b]? = w.heap[b]?) (hb : Below B w w') : Conc B w0 σ H w' where
  obj id p o hp ho := OR.mono (.refl σ) (hold _ (h.blk id p hp).2) (h.obj id p o hp ho)
  ex := h.ex
  inj := h.inj
  blk id p hp := ⟨(h.blk id p hp).1, Nat.lt_of_lt_of_le (h.blk id p hp).2 hsz⟩
  next := h.next
  below := h.below.trans hb
  size := Nat.le_trans h.size hsz
  ro := h.ro

theorem Stp.wider {σs : Sg} {Hs : Heap} {ws : World} (h : Stp σs Hs ws σ H w) (hsz : w.heap.size ≤ w'.heap.size) (hold : ∀ b, b < w.heap.size → w'.heap[b]? = w.heap[b]?) : Stp σs Hs ws σ H w' where
  le := h.le
  new := h.new
  next := h.next
  size := Nat.le_trans h.size hsz
  frame b hb hf := (hold b (Nat.lt_of_lt_of_le hb h.size)).trans (h.frame b hb hf)
  aframe := h.aframe
  fresh := h.fresh
  dead := h.dead

/-- An object that stands already comes to have a place. -/
theorem Conc.known (h : Conc B w0 σ H w) {id : Nat} {ob : AObj} {p : Pl} (hn : σ id = none) (hget : H.get id = some ob) (hB : B ≤ p.b) (hb : p.b < w.heap.size) (hd : ∀ j q, σ j = some q → live H j → q.b ≠ p.b)
    (ho : OR (σ.add id p) w p ob) (hm : ob.mine) : Conc B w0 (σ.add id p) H w := by
  have hle : Le σ (σ.add id p) := Le.add hn
  have hg : ∀ j q, (σ.add id p) j = some q → (j = id ∧ q = p) ∨ (j ≠ id ∧ σ j = some q) := by
    intro j q hq
    unfold Sg.add at hq
    by_cases e : j = id
    · rw [if_pos e] at hq; cases hq; exact .inl ⟨e, rfl⟩
    · rw [if_neg e] at hq; exact .inr ⟨e, hq⟩
  refine ⟨fun j q o hq ho' => ?_, fun j q hq => ?_, fun i j pi pj hi hj hli hlj e => ?_, fun j q hq => ?_, h.next, h.below, h.size, fun j q t lo hi z hq ho' => ?_⟩
  · rcases hg j q hq with ⟨rfl, rfl⟩ | ⟨e, hq'⟩
    · rw [hget] at ho'; cases ho'; exact ho
    · exact OR.mono hle rfl (h.obj j q o hq' ho')
  · rcases hg j q hq with ⟨rfl, rfl⟩ | ⟨e, hq'⟩
    · exact ⟨ob, hget⟩
    · exact h.ex j q hq'
  · rcases hg i pi hi with ⟨rfl, rfl⟩ | ⟨ei, hi'⟩
    · rcases hg j pj hj with ⟨rfl, rfl⟩ | ⟨ej, hj'⟩
      · rfl
      · exact absurd e.symm (hd j pj hj' hlj)
    · rcases hg j pj hj with ⟨rfl, rfl⟩ | ⟨ej, hj'⟩
      · exact absurd e (hd i pi hi' hli)
      · exact h.inj i j pi pj hi' hj' hli hlj e
  · rcases hg j q hq with ⟨rfl, rfl⟩ | ⟨e, hq'⟩
    · exact ⟨fun _ => hB, hb⟩
    · exact h.blk j q hq'
  · rcases hg j q hq with ⟨rfl, rfl⟩ | ⟨e, hq'⟩
    · rw [hget] at ho'; cases ho'; exact absurd rfl (hm _ _ _ _)
    · exact h.ro j q t lo hi z hq' ho'

theorem Stp.known {σs : Sg} {Hs : Heap} {ws : World} (h : Stp σs Hs ws σ H w) {id : Nat} {p : Pl} (hn : σ id = none) (hid : Hs.next ≤ id) (hb : ws.heap.size ≤ p.b) : Stp σs Hs ws (σ.add id p) H w where
  le := h.le.trans (Le.add hn)
  new j q hq hj := by
    unfold Sg.add at hq
    by_cases e : j = id
    · subst e; exact hid
    · rw [if_neg e] at hq; exact h.new j q hq hj
  next := h.next
  size := h.size
  frame := h.frame
  aframe := h.aframe
  fresh j q hq hj := by
    unfold Sg.add at hq
    by_cases e : j = id
    · rw [if_pos e] at hq; cases hq; exact .inl hb
    · rw [if_neg e] at hq; exact h.fresh j q hq hj
  dead := h.dead

/-- A heap holds one object more, of which nothing is said. -/
theorem Conc.unsaid (h : Conc B w0 σ H w) (ob : AObj) : Conc B w0 σ (H.add ob) w := by
  have hne : ∀ id p, σ id = some p → id ≠ H.next := fun id p hp e => by have := h.dom id p hp; omega
  have hlv : ∀ id p, σ id = some p → live (H.add ob) id → live H id := by
    intro id p hp ⟨o, h1, h2⟩
    rw [Heap.get_add, if_neg (hne id p hp)] at h1
    exact ⟨o, h1, h2⟩
  refine ⟨fun id p o hp ho => ?_, fun id p hp => ?_, fun i j p q hi hj hli hlj e => h.inj i j p q hi hj (hlv i p hi hli) (hlv j q hj hlj) e, fun id p hp => ⟨fun hl => (h.blk id p hp).1 (hlv id p hp hl), (h.blk id p hp).2⟩, fun id o ho => ?_, h.below, h.size, fun id p t lo hi z hp ho => ?_⟩
  · rw [Heap.get_add, if_neg (hne id p hp)] at ho
    exact h.obj id p o hp ho
  · rw [Heap.get_add, if_neg (hne id p hp)]
    exact h.ex id p hp
  · rw [Heap.get_add] at ho
    rw [Heap.next_add]
    by_cases e : id = H.next
    · omega
    · rw [if_neg e] at ho; have := h.next id o ho; omega
  · rw [Heap.get_add, if_neg (hne id p hp)] at ho
    exact h.ro id p t lo hi z hp ho

theorem Stp.unsaid {σs : Sg} {Hs : Heap} {ws : World} (h : Stp σs Hs ws σ H w) (hd : ∀ id p, σ id = some p → id < H.next) (ob : AObj) : Stp σs Hs ws σ (H.add ob) w where
  le := h.le
  new := h.new
  next := by rw [Heap.next_add]; have := h.next; omega
  size := h.size
  frame := h.frame
  aframe j hj hn := by
    rw [Heap.get_add, if_neg (by have := h.next; omega)]
    exact h.aframe j hj hn
  fresh := h.fresh
  dead j p hj hl := by
    refine h.dead j p hj ?_
    obtain ⟨o, h1, h2⟩ := hl
    rw [Heap.get_add, if_neg (by have := hd j p (h.le j p hj); omega)] at h1
    exact ⟨o, h1, h2⟩

/-! ### The invariant -/
section
variable {ops : Array Oper} {ss : Nat → St} {vs : Nat → AV} {f : Nat → Nat} {σs : Sg} {ws : World}

/-- The heap when some operations are done: all that write ahead of m, none from m on. -/
structure HInv (P : Program) (B : Nat) (w0 : World) (ops : Array Oper) (ss : Nat → St) (σs : Sg) (ws : World) (S : Nat → Bool) (m : Nat) (σ : Sg) (w : World) : Prop where
  mn : m ≤ ops.size
  wsB : B ≤ ws.heap.size
  before : ∀ i, i < m → eff P ops ss i = some .w → S i = true
  after : ∀ i, m ≤ i → i < ops.size → eff P ops ss i = some .w → S i = false
  conc : Conc B w0 (σ.below (ss m).hp.next) (ss m).hp w
  stp : Stp σs (ss 0).hp ws (σ.below (ss m).hp.next) (ss m).hp w
  ext : ∀ i, m ≤ i → i < ops.size → S i = true → eff P ops ss i = some .a → ∃ p ob, σ (ss i).hp.next = some p ∧ (ss (i + 1)).hp = (ss i).hp.add ob ∧ OR σ w p ob ∧ ws.heap.size ≤ p.b ∧ p.b < w.heap.size ∧
    ∀ id q, σ.below (ss m).hp.next id = some q → live (ss m).hp id → q.b ≠ p.b
  extInj : ∀ i j p q, m ≤ i → i < ops.size → S i = true → eff P ops ss i = some .a → m ≤ j → j < ops.size → S j = true → eff P ops ss j = some .a → σ (ss i).hp.next = some p → σ (ss j).hp.next = some q → p.b = q.b → i = j
  pend : ∀ i, i < m → S i = false → eff P ops ss i = some .a → σ (ss i).hp.next = none ∧ ∃ ob, (ss (i + 1)).hp = (ss i).hp.add ob ∧ (ss m).hp.get (ss i).hp.next = some ob
  dom : ∀ id p, σ id = some p → id < (ss m).hp.next ∨ ∃ i, m ≤ i ∧ i < ops.size ∧ S i = true ∧ eff P ops ss i = some .a ∧ id = (ss i).hp.next

theorem HInv.start (hc : Conc B w0 σ (ss 0).hp w) : HInv P B w0 ops ss σ w (fun _ => false) 0 σ w := by
  have e : σ.below (ss 0).hp.next = σ := by
    funext id
    unfold Sg.below
    by_cases h : id < (ss 0).hp.next
    · rw [if_pos h]
    · rw [if_neg h]
      cases hs : σ id with
      | none => rfl
      | some p => exact absurd (hc.dom id p hs) h
  refine ⟨Nat.zero_le _, hc.size, fun i hi => absurd hi (Nat.not_lt_zero i), fun _ _ _ _ => rfl, by rw [e]; exact hc, by rw [e]; exact Stp.refl _ _ _, fun i _ _ h => absurd h (by simp), fun i j p q _ _ h => absurd h (by simp), fun i hi => absurd hi (Nat.not_lt_zero i), fun id p hp => .inl (hc.dom id p hp)⟩

theorem add_inj {H : Heap} {a b : AObj} (h : H.add a = H.add b) : a = b := by
  have h1 : (H.add a).get H.next = some a := by rw [Heap.get_add, if_pos rfl]
  rw [h, Heap.get_add, if_pos rfl] at h1
  cases h1; rfl

theorem Sg.below_add_lt {σ : Sg} {N id : Nat} {p : Pl} (h : id < N) : (σ.add id p).below N = (σ.below N).add id p := by
  funext j
  unfold Sg.below Sg.add
  by_cases e : j = id
  · subst e; rw [if_pos h, if_pos rfl]; simp
  · simp [e]

theorem Sg.below_add_ge {σ : Sg} {N id : Nat} {p : Pl} (h : N ≤ id) : (σ.add id p).below N = σ.below N := by
  funext j
  unfold Sg.below Sg.add
  by_cases e : j < N
  · rw [if_pos e, if_pos e, if_neg (by omega)]
  · rw [if_neg e, if_neg e]

theorem Sg.below_succ {σ : Sg} {N : Nat} {p : Pl} (h : σ N = some p) : σ.below (N + 1) = (σ.below N).add N p := by
  funext j
  unfold Sg.below Sg.add
  by_cases e : j = N
  · subst e; rw [if_pos (by omega), if_pos rfl, h]
  · rw [if_neg e]
    by_cases e2 : j < N
    · show (if j < N + 1 then σ j else none) = if j < N then σ j else none
      rw [if_pos e2, if_pos (by omega)]
    · show (if j < N + 1 then σ j else none) = if j < N then σ j else none
      rw [if_neg e2, if_neg (by omega)]

theorem Sg.below_succ_none {σ : Sg} {N : Nat} (h : σ N = none) : σ.below (N + 1) = σ.below N := by
  funext j
  unfold Sg.below
  by_cases e : j = N
  · subst e; rw [if_pos (by omega), if_neg (by omega), h]
  · by_cases e2 : j < N
    · rw [if_pos e2, if_pos (by omega)]
    · rw [if_neg e2, if_neg (by omega)]

/-- No write at m: m may be one further. -/
theorem HInv.advance {S : Nat → Bool} {m : Nat} (I : HInv P B w0 ops ss σs ws S m σ w) (C : Canon P ops ss vs f) (F : Facts P ops ss) (hm : m < ops.size) (hw : eff P ops ss m ≠ some .w) :
    HInv P B w0 ops ss σs ws S (m + 1) σ w := by
  have hbef : ∀ i, i < m + 1 → eff P ops ss i = some .w → S i = true := fun i hi he => by
    by_cases e : i = m
    · subst e; exact absurd he hw
    · exact I.before i (by omega) he
  obtain ⟨c, hc⟩ := C.eff_is hm
  by_cases hA : eff P ops ss m = some .a
  · obtain ⟨ob, e1, e2, hmine⟩ := F.new m hA
    have eN : (ss (m + 1)).hp.next = (ss m).hp.next + 1 := F.nextA hA
    have hlt : ∀ i, i < m → eff P ops ss i = some .a → (ss i).hp.next < (ss m).hp.next := fun i hi he => F.ltA he hi (by omega)
    have hgt : ∀ i, m < i → i < ops.size → (ss m).hp.next < (ss i).hp.next := fun i hi hn => F.ltA hA hi (by omega)
    cases hS : S m with
    | true =>
      obtain ⟨p, ob', k1, k2, k3, k4, k5, k6⟩ := I.ext m (Nat.le_refl _) hm hS hA
      have : ob' = ob := add_inj (k2.symm.trans e1)
      subst this
      have hsg : σ.below (ss (m + 1)).hp.next = (σ.below (ss m).hp.next).add (ss m).hp.next p := by rw [eN]; exact Sg.below_succ k1
      have hnone : (σ.below (ss m).hp.next) (ss m).hp.next = none := by unfold Sg.below; rw [if_neg (by omega)]
      have hor : OR (σ.below ((ss m).hp.next + 1)) w p ob' := k3.below e2
      rw [Sg.below_succ k1] at hor
      have hd6 : ∀ j q, (σ.below (ss m).hp.next) j = some q → live ((ss m).hp.add ob') j → q.b ≠ p.b := by
        intro j q hq hl
        refine k6 j q hq ?_
        obtain ⟨o, h1, h2⟩ := hl
        rw [Heap.get_add, if_neg (by have := (Sg.below_some hq).1; omega)] at h1
        exact ⟨o, h1, h2⟩
      have hc2 := (I.conc.unsaid ob').known (p := p) (id := (ss m).hp.next) hnone (by rw [Heap.get_add, if_pos rfl]) (Nat.le_trans I.wsB k4) k5 hd6 hor hmine
      have hs2 := (I.stp.unsaid I.conc.dom ob').known (p := p) (id := (ss m).hp.next) hnone I.stp.next k4
      rw [← hsg, ← e1] at hc2 hs2
      refine ⟨hm, I.wsB, hbef, fun i h1 => I.after i (by omega), hc2, hs2, fun i h1 h2 h3 h4 => ?_, fun i j p q h1 h2 h3 h4 h5 => I.extInj i j p q (by omega) h2 h3 h4 (by omega), fun i h1 h2 h3 => ?_, fun id q hq => ?_⟩
      · obtain ⟨q, ob2, l1, l2, l3, l4, l5, l6⟩ := I.ext i (by omega) h2 h3 h4
        refine ⟨q, ob2, l1, l2, l3, l4, l5, fun id q' hq' hl => ?_⟩
        rw [hsg] at hq'
        unfold Sg.add at hq'
        by_cases e : id = (ss m).hp.next
        · rw [if_pos e] at hq'
          cases hq'
          intro eb
          have := I.extInj m i p q (Nat.le_refl _) hm hS hA (by omega) h2 h3 h4 k1 l1 eb
          omega
        · rw [if_neg e] at hq'
          refine l6 id q' hq' ?_
          obtain ⟨o, x1, x2⟩ := hl
          rw [e1, Heap.get_add, if_neg e] at x1
          exact ⟨o, x1, x2⟩
      · have hne : i ≠ m := fun e => by subst e; rw [hS] at h2; cases h2
        obtain ⟨l1, ob2, l2, l3⟩ := I.pend i (by omega) h2 h3
        refine ⟨l1, ob2, l2, ?_⟩
        rw [e1, Heap.get_add, if_neg (by have := hlt i (by omega) h3; omega)]
        exact l3
      · rcases I.dom id q hq with h | ⟨i, h1, h2, h3, h4, h5⟩
        · exact .inl (by omega)
        · by_cases e : i = m
          · subst e; exact .inl (by omega)
          · exact .inr ⟨i, by omega, h2, h3, h4, h5⟩
    | false =>
      have hnone : σ (ss m).hp.next = none := by
        cases hs : σ (ss m).hp.next with
        | none => rfl
        | some p =>
          rcases I.dom _ p hs with h | ⟨i, h1, h2, h3, h4, h5⟩
          · omega
          · by_cases e : i = m
            · subst e; rw [hS] at h3; cases h3
            · have := hgt i (by omega) h2; omega
      have hsg : σ.below (ss (m + 1)).hp.next = σ.below (ss m).hp.next := by rw [eN]; exact Sg.below_succ_none hnone
      have hc2 := I.conc.unsaid ob
      have hs2 := I.stp.unsaid I.conc.dom ob
      rw [← hsg, ← e1] at hc2 hs2
      refine ⟨hm, I.wsB, hbef, fun i h1 => I.after i (by omega), hc2, hs2, fun i h1 h2 h3 h4 => ?_, fun i j p q h1 h2 h3 h4 h5 => I.extInj i j p q (by omega) h2 h3 h4 (by omega), fun i h1 h2 h3 => ?_, fun id q hq => ?_⟩
      · obtain ⟨q, ob2, l1, l2, l3, l4, l5, l6⟩ := I.ext i (by omega) h2 h3 h4
        refine ⟨q, ob2, l1, l2, l3, l4, l5, fun id q' hq' hl => ?_⟩
        rw [hsg] at hq'
        refine l6 id q' hq' ?_
        obtain ⟨o, x1, x2⟩ := hl
        rw [e1, Heap.get_add, if_neg (by have := (Sg.below_some hq').1; omega)] at x1
        exact ⟨o, x1, x2⟩
      · by_cases e : i = m
        · subst e
          exact ⟨hnone, ob, e1, by rw [e1, Heap.get_add, if_pos rfl]⟩
        · obtain ⟨l1, ob2, l2, l3⟩ := I.pend i (by omega) h2 h3
          refine ⟨l1, ob2, l2, ?_⟩
          rw [e1, Heap.get_add, if_neg (by have := hlt i (by omega) h3; omega)]
          exact l3
      · rcases I.dom id q hq with h | ⟨i, h1, h2, h3, h4, h5⟩
        · exact .inl (by omega)
        · by_cases e : i = m
          · subst e; rw [hS] at h3; cases h3
          · exact .inr ⟨i, by omega, h2, h3, h4, h5⟩
  · have e1 : (ss (m + 1)).hp = (ss m).hp := by
      refine F.quiet m ?_
      rw [hc]
      cases c with
      | p => exact .inl rfl
      | r => exact .inr rfl
      | a => exact absurd hc hA
      | w => exact absurd hc hw
    refine ⟨hm, I.wsB, hbef, fun i h1 => I.after i (by omega), by rw [e1]; exact I.conc, by rw [e1]; exact I.stp, fun i h1 h2 h3 h4 => ?_, fun i j p q h1 h2 h3 h4 h5 => I.extInj i j p q (by omega) h2 h3 h4 (by omega), fun i h1 h2 h3 => ?_, fun id p hp => ?_⟩
    · rw [e1]; exact I.ext i (by omega) h2 h3 h4
    · have hne : i ≠ m := fun e => by subst e; exact hA h3
      rw [e1]; exact I.pend i (by omega) h2 h3
    · rw [e1]
      rcases I.dom id p hp with h | ⟨i, h1, h2, h3, h4, h5⟩
      · exact .inl h
      · have hne : i ≠ m := fun e => by subst e; exact hA h4
        exact .inr ⟨i, by omega, h2, h3, h4, h5⟩

end

end Go.AM
