/-
  A region that draws its order: one operation more.
-/
import Derived.Test.YtdjlpdboochkhaaGreatAmDraw2
set_option linter.unusedVariables false
namespace Go.AM
open Go.RowKit

variable {P : Program} {B : Nat} {w0 w w' : World} {σ : Sg} {H : Heap}

section
variable {ops : Array Oper} {ss : Nat → St} {vs : Nat → AV} {f : Nat → Nat} {σs : Sg} {ws : World}

theorem HInv.quiet {S : Nat → Bool} {m j : Nat} (I : HInv P B w0 ops ss σs ws S m σ w) (hA : eff P ops ss j ≠ some .a) (hW : eff P ops ss j ≠ some .w) : HInv P B w0 ops ss σs ws (more S j) m σ w := by
  refine ⟨I.mn, I.wsB, fun i h1 h2 => more_of (I.before i h1 h2), fun i h1 h2 h3 => ?_, I.conc, I.stp, fun i h1 h2 h3 h4 => ?_, fun i i' p q h1 h2 h3 h4 h5 h6 h7 h8 => ?_, fun i h1 h2 h3 => I.pend i h1 (more_not h2).1 h3, fun id p hp => ?_⟩
  · have hne : i ≠ j := fun e => by subst e; exact hW h3
    have := I.after i h1 h2 h3
    simp [more, this, hne]
  · rcases more_or h3 with h | rfl
    · exact I.ext i h1 h2 h h4
    · exact absurd h4 hA
  · rcases more_or h3 with h | rfl
    · rcases more_or h7 with h' | rfl
      · exact I.extInj i i' p q h1 h2 h h4 h5 h6 h' h8
      · exact absurd h8 hA
    · exact absurd h4 hA
  · rcases I.dom id p hp with h | ⟨i, h1, h2, h3, h4, h5⟩
    · exact .inl h
    · exact .inr ⟨i, h1, h2, more_of h3, h4, h5⟩

theorem HInv.unknown {S : Nat → Bool} {m j : Nat} (I : HInv P B w0 ops ss σs ws S m σ w) (F : Facts P ops ss) (hj : j < ops.size) (hS : S j = false) (hA : eff P ops ss j = some .a) : σ (ss j).hp.next = none := by
  by_cases hjm : j < m
  · exact (I.pend j hjm hS hA).1
  · cases hs : σ (ss j).hp.next with
    | none => rfl
    | some p =>
      rcases I.dom _ p hs with h | ⟨i, h1, h2, h3, h4, h5⟩
      · have := F.mono (i := m) (j := j) (by omega) (by omega); omega
      · rcases Nat.lt_trichotomy i j with h | h | h
        · have := F.ltA h4 h (by omega); omega
        · subst h; rw [hS] at h3; cases h3
        · have := F.ltA hA h (by omega); omega

/-- An operation makes its object. -/
theorem HInv.made {S : Nat → Bool} {m j : Nat} (I : HInv P B w0 ops ss σs ws S m σ w) (F : Facts P ops ss) (hj : j < ops.size) (hS : S j = false) (hA : eff P ops ss j = some .a) {ob : AObj} (hob : (ss (j + 1)).hp = (ss j).hp.add ob) {p : Pl}
    (hpb : p.b = w.heap.size) (hsz : w'.heap.size = w.heap.size + 1) (hold : ∀ b, b < w.heap.size → w'.heap[b]? = w.heap[b]?) (hb : Below w.heap.size w w') (hor : OR (σ.add (ss j).hp.next p) w' p ob) :
    HInv P B w0 ops ss σs ws (more S j) m (σ.add (ss j).hp.next p) w' ∧ Le σ (σ.add (ss j).hp.next p) := by
  have hn := I.unknown F hj hS hA
  have hle : Le σ (σ.add (ss j).hp.next p) := Le.add hn
  have hbB : Below B w w' := hb.mono I.conc.size
  have hcw := I.conc.wider (w' := w') (by omega) hold hbB
  have hsw := I.stp.wider (w' := w') (by omega) hold
  obtain ⟨ob', eob, hbd, hmine⟩ := F.new j hA
  have : ob' = ob := add_inj (eob.symm.trans hob)
  subst this
  have hNA : ∀ i, i < ops.size → eff P ops ss i = some .a → (ss i).hp.next = (ss j).hp.next → i = j := by
    intro i hi he e
    rcases Nat.lt_trichotomy i j with h | h | h
    · have := F.ltA he h (by omega); omega
    · exact h
    · have := F.ltA hA h (by omega); omega
  have hσ : ∀ id, id ≠ (ss j).hp.next → (σ.add (ss j).hp.next p) id = σ id := fun id h => by unfold Sg.add; rw [if_neg h]
  refine ⟨?_, hle⟩
  have hafter : ∀ i, m ≤ i → i < ops.size → eff P ops ss i = some .w → more S j i = false := by
    intro i h1 h2 h3
    have hne : i ≠ j := fun e => by subst e; rw [hA] at h3; cases h3
    have := I.after i h1 h2 h3
    simp [more, this, hne]
  by_cases hjm : j < m
  · -- its object stands already
    have hlt : (ss j).hp.next < (ss m).hp.next := F.ltA hA hjm I.mn
    have hsg := Sg.below_add_lt (σ := σ) (p := p) hlt
    have hnone : (σ.below (ss m).hp.next) (ss j).hp.next = none := by rw [Sg.below_eq hlt]; exact hn
    obtain ⟨_, ob2, e2, hget⟩ := I.pend j hjm hS hA
    have : ob2 = ob' := add_inj (e2.symm.trans hob)
    subst this
    have hor2 : OR ((σ.below (ss m).hp.next).add (ss j).hp.next p) w' p ob2 := by
      rw [← hsg]
      exact hor.below (hbd.mono (by omega))
    have hd : ∀ i q, (σ.below (ss m).hp.next) i = some q → live (ss m).hp i → q.b ≠ p.b := fun i q hq _ => by have := (I.conc.blk i q hq).2; omega
    have hc2 := hcw.known hnone hget (by rw [hpb]; exact I.conc.size) (by omega) hd hor2 hmine
    have hs2 := hsw.known (p := p) hnone (F.mono (i := 0) (j := j) (by omega) (by omega)) (by rw [hpb]; exact I.stp.size)
    rw [← hsg] at hc2 hs2
    refine ⟨I.mn, I.wsB, fun i h1 h2 => more_of (I.before i h1 h2), hafter, hc2, hs2, fun i h1 h2 h3 h4 => ?_, fun i i' p1 q1 h1 h2 h3 h4 h5 h6 h7 h8 h9 h10 => ?_, fun i h1 h2 h3 => ?_, fun id q hq => ?_⟩
    · have hi : S i = true := by
        rcases more_or h3 with h | rfl
        · exact h
        · omega
      obtain ⟨q, ob3, l1, l2, l3, l4, l5, l6⟩ := I.ext i h1 h2 hi h4
      refine ⟨q, ob3, hle _ _ l1, l2, OR.mono hle (hold _ l5) l3, l4, by omega, fun id q' hq' hl => ?_⟩
      rw [hsg] at hq'
      unfold Sg.add at hq'
      by_cases e : id = (ss j).hp.next
      · rw [if_pos e] at hq'; cases hq'; omega
      · rw [if_neg e] at hq'; exact l6 id q' hq' hl
    · have hi : S i = true := by
        rcases more_or h3 with h | rfl
        · exact h
        · omega
      have hi' : S i' = true := by
        rcases more_or h7 with h | rfl
        · exact h
        · omega
      rw [hσ _ fun e => by have := hNA i h2 h4 e; omega] at h9
      rw [hσ _ fun e => by have := hNA i' h6 h8 e; omega] at h10
      exact I.extInj i i' p1 q1 h1 h2 hi h4 h5 h6 hi' h8 h9 h10
    · obtain ⟨h2a, h2b⟩ := more_not h2
      obtain ⟨l1, l2⟩ := I.pend i h1 h2a h3
      refine ⟨?_, l2⟩
      rw [hσ _ fun e => h2b (hNA i (by have := I.mn; omega) h3 e)]
      exact l1
    · by_cases e : id = (ss j).hp.next
      · exact .inl (by omega)
      · rw [hσ _ e] at hq
        rcases I.dom id q hq with h | ⟨i, h1, h2, h3, h4, h5⟩
        · exact .inl h
        · exact .inr ⟨i, h1, h2, more_of h3, h4, h5⟩
  · -- its object comes ahead of its time
    have hge : (ss m).hp.next ≤ (ss j).hp.next := F.mono (by omega) (by omega)
    have hsg := Sg.below_add_ge (σ := σ) (p := p) hge
    have hc2 := hcw
    have hs2 := hsw
    rw [← hsg] at hc2 hs2
    refine ⟨I.mn, I.wsB, fun i h1 h2 => more_of (I.before i h1 h2), hafter, hc2, hs2, fun i h1 h2 h3 h4 => ?_, fun i i' p1 q1 h1 h2 h3 h4 h5 h6 h7 h8 h9 h10 h11 => ?_, fun i h1 h2 h3 => ?_, fun id q hq => ?_⟩
    · by_cases e : i = j
      · subst e
        refine ⟨p, ob', Sg.add_self _ _ _, hob, hor, by rw [hpb]; exact I.stp.size, by omega, fun id q hq hl => ?_⟩
        rw [hsg] at hq
        have := (I.conc.blk id q hq).2
        omega
      · have hi : S i = true := by
          rcases more_or h3 with h | rfl
          · exact h
          · exact absurd rfl e
        obtain ⟨q, ob3, l1, l2, l3, l4, l5, l6⟩ := I.ext i h1 h2 hi h4
        refine ⟨q, ob3, hle _ _ l1, l2, OR.mono hle (hold _ l5) l3, l4, by omega, fun id q' hq' hl => ?_⟩
        rw [hsg] at hq'
        exact l6 id q' hq' hl
    · by_cases e : i = j
      · by_cases e' : i' = j
        · rw [e, e']
        · have hi' : S i' = true := by
            rcases more_or h7 with h | h
            · exact h
            · exact absurd h e'
          rw [hσ _ fun x => e' (hNA i' h6 h8 x)] at h10
          obtain ⟨q, ob3, l1, l2, l3, l4, l5, l6⟩ := I.ext i' h5 h6 hi' h8
          rw [h10] at l1; cases l1
          subst e
          rw [Sg.add_self] at h9; cases h9
          omega
      · have hi : S i = true := by
          rcases more_or h3 with h | h
          · exact h
          · exact absurd h e
        rw [hσ _ fun x => e (hNA i h2 h4 x)] at h9
        by_cases e' : i' = j
        · obtain ⟨q, ob3, l1, l2, l3, l4, l5, l6⟩ := I.ext i h1 h2 hi h4
          rw [h9] at l1; cases l1
          subst e'
          rw [Sg.add_self] at h10; cases h10
          omega
        · have hi' : S i' = true := by
            rcases more_or h7 with h | h
            · exact h
            · exact absurd h e'
          rw [hσ _ fun x => e' (hNA i' h6 h8 x)] at h10
          exact I.extInj i i' p1 q1 h1 h2 hi h4 h5 h6 hi' h8 h9 h10 h11
    · obtain ⟨h2a, h2b⟩ := more_not h2
      obtain ⟨l1, l2⟩ := I.pend i h1 h2a h3
      refine ⟨?_, l2⟩
      rw [hσ _ fun e => h2b (hNA i (by have := I.mn; omega) h3 e)]
      exact l1
    · by_cases e : id = (ss j).hp.next
      · exact .inr ⟨j, by omega, hj, more_self, hA, e⟩
      · rw [hσ _ e] at hq
        rcases I.dom id q hq with h | ⟨i, h1, h2, h3, h4, h5⟩
        · exact .inl h
        · exact .inr ⟨i, h1, h2, more_of h3, h4, h5⟩

/-- The next write is done. -/
theorem HInv.wrote {S : Nat → Bool} {m : Nat} (I : HInv P B w0 ops ss σs ws S m σ w) (F : Facts P ops ss) (hm : m < ops.size) (hS : S m = false) (hW : eff P ops ss m = some .w) {σ0 : Sg}
    (hc : Conc B w0 σ0 (ss (m + 1)).hp w') (hs : Stp (σ.below (ss m).hp.next) (ss m).hp w σ0 (ss (m + 1)).hp w') :
    ∃ σ', HInv P B w0 ops ss σs ws (more S m) (m + 1) σ' w' ∧ Le σ σ' ∧ Le σ0 σ' := by
  have hmono := F.mono1 m hm
  have hge : ∀ i, m ≤ i → i < ops.size → eff P ops ss i = some .a → (ss (m + 1)).hp.next ≤ (ss i).hp.next := by
    intro i h1 h2 h3
    have hne : i ≠ m := fun e => by subst e; rw [hW] at h3; cases h3
    exact F.mono (by omega) (by omega)
  obtain ⟨σ', hσ'⟩ : ∃ σ' : Sg, σ' = fun id => if id < (ss (m + 1)).hp.next then σ0 id else σ id := ⟨_, rfl⟩
  have hlo : ∀ id, id < (ss (m + 1)).hp.next → σ' id = σ0 id := fun id h => by rw [hσ']; exact if_pos h
  have hhi : ∀ id, (ss (m + 1)).hp.next ≤ id → σ' id = σ id := fun id h => by rw [hσ']; exact if_neg (by omega)
  have hle : Le σ σ' := by
    intro id p hp
    rcases I.dom id p hp with h | ⟨i, h1, h2, h3, h4, h5⟩
    · rw [hlo id (by omega)]; exact hs.le id p ((Sg.below_eq h).trans hp)
    · have := hge i h1 h2 h4
      rw [hhi id (by omega)]; exact hp
  refine ⟨σ', ?_, hle, fun id p hp => by rw [hlo id (hc.dom id p hp)]; exact hp⟩
  have hsg : σ'.below (ss (m + 1)).hp.next = σ0 := by
    funext id
    by_cases h : id < (ss (m + 1)).hp.next
    · rw [Sg.below_eq h, hlo id h]
    · unfold Sg.below
      rw [if_neg h]
      cases h0 : σ0 id with
      | none => rfl
      | some p => exact absurd (hc.dom id p h0) h
  have hblk : ∀ i, m ≤ i → i < ops.size → S i = true → eff P ops ss i = some .a → ∃ p ob, σ' (ss i).hp.next = some p ∧ σ (ss i).hp.next = some p ∧ (ss (i + 1)).hp = (ss i).hp.add ob ∧ OR σ' w' p ob ∧ ws.heap.size ≤ p.b ∧ p.b < w'.heap.size ∧
      ∀ id q, σ'.below (ss (m + 1)).hp.next id = some q → live (ss (m + 1)).hp id → q.b ≠ p.b := by
    intro i h1 h2 h3 h4
    obtain ⟨q, ob3, l1, l2, l3, l4, l5, l6⟩ := I.ext i h1 h2 h3 h4
    have hN := hge i h1 h2 h4
    have hfr : w'.heap[q.b]? = w.heap[q.b]? := hs.frame q.b l5 fun id q' hq' hl => l6 id q' hq' hl
    refine ⟨q, ob3, by rw [hhi _ hN]; exact l1, l1, l2, OR.mono hle hfr l3, l4, Nat.lt_of_lt_of_le l5 hs.size, fun id q' hq' hl => ?_⟩
    rw [hsg] at hq'
    cases h0 : (σ.below (ss m).hp.next) id with
    | some q2 =>
      have := hs.le id q2 h0
      rw [hq'] at this; cases this
      exact l6 id q' h0 (hs.dead id q' h0 hl)
    | none =>
      rcases hs.fresh id q' hq' h0 with h | ⟨j, q2, k1, k2, k3⟩
      · omega
      · rw [← k3]; exact l6 j q2 k1 k2
  refine ⟨hm, I.wsB, fun i h1 h2 => ?_, fun i h1 h2 h3 => ?_, by rw [hsg]; exact hc, by rw [hsg]; exact I.stp.trans hs, fun i h1 h2 h3 h4 => ?_, fun i i' p1 q1 h1 h2 h3 h4 h5 h6 h7 h8 h9 h10 h11 => ?_, fun i h1 h2 h3 => ?_, fun id q hq => ?_⟩
  · by_cases e : i = m
    · subst e; exact more_self
    · exact more_of (I.before i (by omega) h2)
  · have := I.after i (by omega) h2 h3
    have hne : i ≠ m := by omega
    simp [more, this, hne]
  · have hi : S i = true := by
      rcases more_or h3 with h | rfl
      · exact h
      · omega
    obtain ⟨p, ob, l1, _, l2⟩ := hblk i (by omega) h2 hi h4
    exact ⟨p, ob, l1, l2⟩
  · have hi : S i = true := by
      rcases more_or h3 with h | rfl
      · exact h
      · omega
    have hi' : S i' = true := by
      rcases more_or h7 with h | rfl
      · exact h
      · omega
    rw [hhi _ (hge i (by omega) h2 h4)] at h9
    rw [hhi _ (hge i' (by omega) h6 h8)] at h10
    exact I.extInj i i' p1 q1 (by omega) h2 hi h4 (by omega) h6 hi' h8 h9 h10 h11
  · obtain ⟨h2a, h2b⟩ := more_not h2
    obtain ⟨l1, ob, l2, l3⟩ := I.pend i (by omega) h2a h3
    have hlt : (ss i).hp.next < (ss m).hp.next := F.ltA h3 (by omega) (by omega)
    have hn : (σ.below (ss m).hp.next) (ss i).hp.next = none := by rw [Sg.below_eq hlt]; exact l1
    refine ⟨?_, ob, l2, by rw [hs.aframe _ hlt hn]; exact l3⟩
    rw [hlo _ (by omega)]
    cases h0 : σ0 (ss i).hp.next with
    | none => rfl
    | some p => have := hs.new _ p h0 hn; omega
  · by_cases h : id < (ss (m + 1)).hp.next
    · exact .inl h
    · rw [hhi id (by omega)] at hq
      rcases I.dom id q hq with h' | ⟨i, h1, h2, h3, h4, h5⟩
      · omega
      · have hne : i ≠ m := fun e => by subst e; rw [hS] at h3; cases h3
        exact .inr ⟨i, by omega, h2, more_of h3, h4, h5⟩

theorem HInv.rd {S : Nat → Bool} {m : Nat} (I : HInv P B w0 ops ss σs ws S m σ w) : Rd σ (ss m).hp w := ⟨fun id p o hp ho => by
  have hlt := I.conc.next id o ho
  exact OR.mono (Sg.below_le σ _) rfl (I.conc.obj id p o ((Sg.below_eq hlt).trans hp) ho)⟩

/-- One further, as far as no write stands. -/
theorem HInv.upto {S : Nat → Bool} (C : Canon P ops ss vs f) (F : Facts P ops ss) {j : Nat} (hj : j ≤ ops.size) : ∀ {m : Nat}, HInv P B w0 ops ss σs ws S m σ w → m ≤ j → (∀ i, m ≤ i → i < j → eff P ops ss i ≠ some .w) → HInv P B w0 ops ss σs ws S j σ w := by
  intro m I hm hw
  obtain ⟨d, rfl⟩ : ∃ d, j = m + d := ⟨j - m, by omega⟩
  clear hm
  induction d with
  | zero => exact I
  | succ d ih => exact (ih (by omega) fun i h1 h2 => hw i h1 (by omega)).advance C F (by omega) (hw (m + d) (by omega) (by omega))

end

end Go.AM
