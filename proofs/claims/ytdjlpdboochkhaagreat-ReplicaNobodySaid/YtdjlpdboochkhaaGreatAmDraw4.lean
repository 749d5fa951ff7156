/-
  A region that draws its order: a step, and all steps.
-/
import Derived.Test.YtdjlpdboochkhaaGreatAmDraw3
set_option linter.unusedVariables false
namespace Go.AM
open Go.RowKit

variable {P : Program} {B : Nat} {w0 w w' : World} {σ : Sg} {H : Heap}

section
variable {ops : Array Oper} {ss : Nat → St} {vs : Nat → AV} {f : Nat → Nat} {σs : Sg} {ws : World}

theorem optBeq_some {x y : Option AV} {v : AV} (h : optBeq x y = true) : (x = some v ↔ y = some v) := by
  cases x with
  | none => cases y with
    | none => exact Iff.rfl
    | some b => cases h
  | some a => cases y with
    | none => cases h
    | some b =>
      have := AV.beq_eq (show a.beq b = true from h)
      subst this
      exact Iff.rfl

/-- A read sees the same ahead of an operation and behind it. -/
theorem Canon.across (C : Canon P ops ss vs f) (F : Facts P ops ss) {j k : Nat} {o : Oper} {D : Option Nat} (hoj : ops.toList[j]? = some o) (hwj : wantedA ops.toList (ss j).tm o = true) (hD : RdDep P (envOf (ss j).tm) o.op D)
    (hk : k < ops.size) (hA : ∀ id, D = some id → eff P ops ss k = some .a → (ss k).hp.next ≠ id) (hW : eff P ops ss k = some .w → (j, k) ∈ confl P ops.toList) {v : AV} :
    (opA P (envOf (ss j).tm) (ss k).hp o.op = some (v, (ss k).hp) ↔ opA P (envOf (ss j).tm) (ss (k + 1)).hp o.op = some (v, (ss (k + 1)).hp)) := by
  obtain ⟨c, hc⟩ := C.eff_is hk
  cases c with
  | p => rw [F.quiet k (.inl hc)]
  | r => rw [F.quiet k (.inr hc)]
  | a =>
    obtain ⟨ob, e, _⟩ := F.new k hc
    have hg : ∀ id, D = some id → (ss (k + 1)).hp.get id = (ss k).hp.get id := fun id hid => by
      rw [e, Heap.get_add, if_neg fun x => hA id hid hc x.symm]
    constructor
    · intro h; exact (hD.same _ _ _ h).2.2 _ hg
    · intro h; exact (hD.same _ _ _ h).2.2 _ fun id hid => (hg id hid).symm
  | w =>
    obtain ⟨ok, hok, hok', hh⟩ := eff_some hc
    have hs := C.same (j, k) (hW hc) o ok hoj hok'
    rcases hh with ⟨hwk, _⟩ | ⟨_, e⟩
    · unfold sameRead at hs
      rw [hwj, hwk] at hs
      have hs : optBeq (readA P (ss j).tm (ss k).hp o.op) (readA P (ss j).tm (ss (k + 1)).hp o.op) = true := by simpa using hs
      have hiff := optBeq_some (v := v) hs
      have hread : ∀ H : Heap, (readA P (ss j).tm H o.op = some v ↔ opA P (envOf (ss j).tm) H o.op = some (v, H)) := by
        intro H
        unfold readA
        constructor
        · intro h
          obtain ⟨p, hp, h2⟩ := bnd h
          obtain ⟨v', H'⟩ := p
          have := (hD.same _ _ _ hp).1
          subst this
          cases h2
          exact hp
        · intro h; rw [h]; rfl
      rw [← hread, ← hread]
      exact hiff
    · cases e

/-- The whole of what is kept. -/
structure DInv (P : Program) (B : Nat) (w0 : World) (ops : Array Oper) (ss : Nat → St) (vs : Nat → AV) (σs : Sg) (ws : World) (S : Nat → Bool) (m : Nat) (σ : Sg) (a : Act) (w : World) : Prop where
  T : TInv ops ss vs S σ a
  H : HInv P B w0 ops ss σs ws S m σ w
  cl : Closed ops S

theorem Closed.step {S : Nat → Bool} (h : Closed ops S) {j : Nat} {o : Oper} (ho : ops.toList[j]? = some o) (hr : ∀ k, Binds o k → S k = true) : Closed ops (more S j) := by
  intro i o' k hi hS hb
  rcases more_or hS with h1 | rfl
  · exact more_of (h i o' k hi h1 hb)
  · rw [ho] at hi; cases hi
    exact more_of (hr k hb)

theorem DInv.step {S : Nat → Bool} {m : Nat} {a : Act} (I : DInv P B w0 ops ss vs σs ws S m σ a w) (C : Canon P ops ss vs f) (F : Facts P ops ss) {j : Nat} (hj : j < ops.size) (hS : S j = false) (hr : ∀ o k, ops.toList[j]? = some o → Binds o k → S k = true)
    {b : Frame} (hb : b.kind = .normal) (rest : List Nat) (k : List Item) (cs : List Frame) :
    ∃ m' σ' a' w', DInv P B w0 ops ss vs σs ws (more S j) m' σ' a' w' ∧ Le σ σ' ∧ a'.defers = a.defers ∧ Steps P (lone (b.atR a (.inRegion ops (j :: rest) :: k)) cs w) (lone (b.atR a' (.inRegion ops rest :: k)) cs w') := by
  obtain ⟨o, ho, ho'⟩ := opsAt (ops := ops) hj
  have hr := fun k => hr o k ho'
  have hopr := I.T.opR C F I.cl ho hS hr
  have M := C.op j o ho
  have hcl := I.cl.step ho' hr
  obtain ⟨c, hc⟩ := C.eff_is hj
  obtain ⟨o2, ho2, _, hk⟩ := eff_some hc
  rw [ho] at ho2; cases ho2
  -- what is done, of an operation of no write
  have hop : ∀ {c'}, clsOf P o.op = some c' → c' ≠ .w → wantedA ops.toList (ss j).tm o = true → opA P (envOf (ss j).tm) (ss j).hp o.op = some (vs j, (ss (j + 1)).hp) := by
    intro c' hcl hne hw
    rcases M.kind with ⟨h0, _⟩ | ⟨_, ⟨_, hop⟩ | hne'⟩
    · rw [hw] at h0; cases h0
    · exact hop
    · exact absurd (cls_call hcl hne) hne'
  have hnext : ∀ cv : Value, (a.put o.dst cv).defers = a.defers := fun cv => put_defs
  rcases hk with ⟨hw, hcls⟩ | ⟨hw, rfl⟩
  · cases c with
    | p =>
      have h1 := hop hcls (by simp) hw
      have h2 := h1
      rw [← envIn_op] at h2
      obtain ⟨cv, k1, k2⟩ := plain_run hopr.env hcls h2 w
      refine ⟨m, σ, _, w, ⟨I.T.step C F I.cl ho hS (.refl σ) k2, I.H.quiet (by rw [hc]; simp) (by rw [hc]; simp), hcl⟩, .refl σ, hnext cv, .one (step_value ho (opA_nodefer h2) (by rw [wanted_eq hopr, hw]) k1 (.inl rfl))⟩
    | a =>
      have h1 := hop hcls (by simp) hw
      have h2 := h1
      rw [← envIn_op] at h2
      obtain ⟨ob, fv, e1, e2, hmine, s, e3, hn⟩ := make_run hopr.env hcls h2
      obtain ⟨w', cv, p, k1, k2, k3, k4, k5, k6⟩ := hn w
      obtain ⟨hor, hvr⟩ := k6 (ss j).hp.next (I.H.unknown F hj hS hc)
      rw [← e1] at hvr
      obtain ⟨I2, hle⟩ := I.H.made F hj hS hc e2 k2 k3 k4 k5 hor
      refine ⟨m, _, _, w', ⟨I.T.step C F I.cl ho hS hle hvr, I2, hcl⟩, hle, hnext cv, .one (step_value (r := .value cv) ho (opA_nodefer h2) (by rw [wanted_eq hopr, hw]) ?_ (.inl rfl))⟩
      rw [e3]; simp [k1]
    | r =>
      have h1 := hop hcls (by simp) hw
      have hq := F.quiet j (.inr hc)
      rw [hq] at h1
      obtain ⟨D, hD⟩ := read_dep (P := P) (ρ := envOf (ss j).tm) hcls
      -- a heap over which the read comes to the same
      have hE : ∃ E, Rd σ E w ∧ opA P (envOf (ss j).tm) E o.op = some (vs j, E) := by
        cases hDD : D with
        | none =>
          subst hDD
          exact ⟨(ss m).hp, I.H.rd, (hD.same _ _ _ h1).2.2 _ fun id h => by cases h⟩
        | some id =>
          subst hDD
          obtain ⟨y, hy, av, hav, hid⟩ := hD.named id rfl
          have hin : envIn (ss j).tm o y = some av := by unfold envIn; rw [if_pos hy]; exact hav
          obtain ⟨p, hp⟩ := AV.idOf_bd hid (hopr.env y av hin)
          have hthere := (hD.same _ _ _ h1).2.1 id rfl
          -- down to a place behind m
          have down : ∀ lo, m ≤ lo → lo ≤ j → (∀ i, lo ≤ i → i < j → eff P ops ss i = some .a → (ss i).hp.next ≠ id) → opA P (envOf (ss j).tm) (ss lo).hp o.op = some (vs j, (ss lo).hp) := by
            intro lo hml hlj hne
            obtain ⟨d, hd⟩ : ∃ d, j = lo + d := ⟨j - lo, by omega⟩
            have key : ∀ d', d' ≤ d → opA P (envOf (ss j).tm) (ss (j - d')).hp o.op = some (vs j, (ss (j - d')).hp) := by
              intro d'
              induction d' with
              | zero => exact fun _ => h1
              | succ d' ih =>
                intro hd'
                have hprev := ih (by omega)
                have e : j - d' = (j - (d' + 1)) + 1 := by omega
                rw [e] at hprev
                refine (C.across F ho' hw hD (by omega) (fun id' hid' hA => ?_) (fun hW => ?_)).2 hprev
                · cases hid'
                  exact hne _ (by omega) (by omega) hA
                · obtain ⟨ok, hok, hok', hkk⟩ := eff_some hW
                  have hSk := I.H.after (j - (d' + 1)) (by omega) (by omega) hW
                  have hbit : Nat.testBit (f j) (j - (d' + 1)) = false := by
                    cases hbt : Nat.testBit (f j) (j - (d' + 1)) with
                    | false => rfl
                    | true => have := C.bef_done I.cl ho' hr hbt; rw [hSk] at this; cases this
                  rcases hkk with ⟨_, hck⟩ | ⟨_, e⟩
                  · exact ((C.apart (j - (d' + 1)) j ok o (by omega) hok' ho').rw' hbit).2 hck hcls
                  · cases e
            have := key d (Nat.le_refl _)
            rw [show j - d = lo by omega] at this
            exact this
          rcases I.H.dom id p hp with hlt | ⟨i, k1, k2, k3, k4, k5⟩
          · refine ⟨(ss m).hp, I.H.rd, ?_⟩
            by_cases hmj : m ≤ j
            · refine down m (Nat.le_refl _) hmj fun i hi hij hA e => ?_
              have := F.mono (i := m) (j := i) hi (by omega)
              omega
            · -- up
              obtain ⟨d, hd⟩ : ∃ d, m = j + d := ⟨m - j, by omega⟩
              have hmn := I.H.mn
              have key : ∀ d', d' ≤ d → opA P (envOf (ss j).tm) (ss (j + d')).hp o.op = some (vs j, (ss (j + d')).hp) := by
                intro d'
                induction d' with
                | zero => exact fun _ => h1
                | succ d' ih =>
                  intro hd'
                  have hprev := ih (by omega)
                  refine (C.across (k := j + d') F ho' hw hD (by omega) (fun id' hid' hA => ?_) (fun hW => ?_)).1 hprev
                  · cases hid'
                    have hx := (hD.same _ _ _ hprev).2.1 id rfl
                    intro e
                    apply hx
                    cases hg : (ss (j + d')).hp.get id with
                    | none => rfl
                    | some x =>
                      have := F.nx (j + d') (by omega) id x hg
                      omega
                  · obtain ⟨ok, hok, hok', hkk⟩ := eff_some hW
                    have hSk := I.H.before (j + d') (by omega) hW
                    have hne : d' ≠ 0 := fun e => by
                      subst e
                      rw [Nat.add_zero] at hW
                      rw [hc] at hW; cases hW
                    have hbit := C.later I.cl hok' hSk hS
                    rcases hkk with ⟨_, hck⟩ | ⟨_, e⟩
                    · exact ((C.apart j (j + d') o ok (by omega) ho' hok').rw' hbit).1 hcls hck
                    · cases e
              have := key d (Nat.le_refl _)
              rw [← hd] at this
              exact this
          · -- an object ahead of its time
            obtain ⟨p', ob, l1, l2, l3, l4, l5, l6⟩ := I.H.ext i k1 k2 k3 k4
            have hij : i < j := by
              rcases Nat.lt_trichotomy i j with h | h | h
              · exact h
              · subst h; rw [hS] at k3; cases k3
              · exfalso
                apply hthere
                cases hg : (ss j).hp.get id with
                | none => rfl
                | some x =>
                  have := F.nx j (by omega) id x hg
                  have := F.mono (i := j) (j := i) (by omega) (by omega)
                  omega
            have hd := down (i + 1) (by omega) (by omega) fun i' h1' h2' hA e => by
              have := F.mono (i := i + 1) (j := i') h1' (by omega)
              have := F.nextA k4
              omega
            have hgi : (ss (i + 1)).hp.get id = some ob := by rw [l2, Heap.get_add, if_pos k5]
            refine ⟨(ss m).hp.put id ob, ⟨fun id' q o' hq ho'' => ?_⟩, (hD.same _ _ _ hd).2.2 _ fun id' hid' => ?_⟩
            · rw [Heap.get_put] at ho''
              by_cases e : id' = id
              · subst e
                rw [if_pos rfl] at ho''; cases ho''
                rw [k5, l1] at hq; cases hq
                exact l3
              · rw [if_neg e] at ho''
                exact I.H.rd.obj id' q o' hq ho''
            · cases hid'
              rw [Heap.get_put, if_pos rfl, hgi]
      obtain ⟨E, hrd, hEop⟩ := hE
      rw [← envIn_op] at hEop
      obtain ⟨cv, k1, k2⟩ := read_run hrd hopr.env hcls hEop
      refine ⟨m, σ, _, w, ⟨I.T.step C F I.cl ho hS (.refl σ) k2, I.H.quiet (by rw [hc]; simp) (by rw [hc]; simp), hcl⟩, .refl σ, hnext cv, .one (step_value ho (opA_nodefer hEop) (by rw [wanted_eq hopr, hw]) k1 (.inl rfl))⟩
    | w =>
      have hmj : m ≤ j := by
        rcases Nat.lt_or_ge j m with h | h
        · have := I.H.before j h hc; rw [hS] at this; cases this
        · exact h
      have I2 := HInv.upto C F (Nat.le_of_lt hj) I.H hmj fun i h1 h2 hW => by
        obtain ⟨oi, hoi, hoi', hkk⟩ := eff_some hW
        have hSi := I.H.after i h1 (by omega) hW
        rcases hkk with ⟨_, hci⟩ | ⟨_, e⟩
        · cases hbt : Nat.testBit (f j) i with
          | true => have := C.bef_done I.cl ho' hr hbt; rw [hSi] at this; cases this
          | false => exact ((C.apart i j oi o h2 hoi' ho').names hbt).2.2 ⟨hci, hcls⟩
        · cases e
      have hopr2 : OpR (σ.below (ss j).hp.next) ops.toList o (ss j) a := by
        refine ⟨fun t v ht hv => ?_, fun t ht v hv => ?_, hopr.2.2⟩
        · have := hopr.1 t v ht hv
          obtain ⟨h1, rfl⟩ := tget_some hv
          exact this.below (F.bdT j (by omega) t h1)
        · have := hopr.2.1 t ht v hv
          obtain ⟨h1, rfl⟩ := tget_some hv
          exact this.below (F.bdT j (by omega) t h1)
      obtain ⟨σ0, w', cv, k1, k2, k3, k4⟩ := M.run B w0 ops j rest b _ a w k cs rfl ho hb hopr2 I2.conc
      obtain ⟨σ', I3, l1, l2⟩ := I2.wrote F hj hS hc k2 k3
      exact ⟨j + 1, σ', _, w', ⟨I.T.step C F I.cl ho hS l1 (k1.mono l2), I3, hcl⟩, l1, hnext cv, k4⟩
  · rcases M.kind with ⟨_, e, _⟩ | ⟨h1, _⟩
    · refine ⟨m, σ, _, w, ⟨I.T.step (cv := undef) C F I.cl ho hS (.refl σ) (by rw [e]; exact ⟨_, rfl, rfl⟩), I.H.quiet (by rw [hc]; simp) (by rw [hc]; simp), hcl⟩, .refl σ, hnext undef, .one (step_unwanted ho ?_)⟩
      rw [wanted_eq hopr, hw]
    · rw [hw] at h1; cases h1

/-- All the operations that are left, in an order that the model draws. -/
theorem DInv.run (C : Canon P ops ss vs f) (F : Facts P ops ss) {b : Frame} (hb : b.kind = .normal) (k : List Item) (cs : List Frame) : ∀ (fuel t : Nat) (listed : Array Bool) (m : Nat) (σ : Sg) (a : Act) (w : World),
    listed.size = ops.size → (List.range ops.size).countP (fun i => !listed.getD i false) ≤ fuel → DInv P B w0 ops ss vs σs ws (fun i => listed.getD i false) m σ a w →
    ∃ m' σ' a' w' S', DInv P B w0 ops ss vs σs ws S' m' σ' a' w' ∧ (∀ i, i < ops.size → S' i = true) ∧ a'.defers = a.defers ∧
      Steps P (lone (b.atR a (.inRegion ops (Region.linearise.go .any ops fuel t listed []) :: k)) cs w) (lone (b.atR a' (.inRegion ops [] :: k)) cs w') := by
  have stop : ∀ (listed : Array Bool) (m : Nat) (σ : Sg) (a : Act) (w : World), listed.size = ops.size → (∀ i, i < ops.size → listed.getD i false = true) → DInv P B w0 ops ss vs σs ws (fun i => listed.getD i false) m σ a w →
      ∃ m' σ' a' w' S', DInv P B w0 ops ss vs σs ws S' m' σ' a' w' ∧ (∀ i, i < ops.size → S' i = true) ∧ a'.defers = a.defers ∧
        Steps P (lone (b.atR a (.inRegion ops [] :: k)) cs w) (lone (b.atR a' (.inRegion ops [] :: k)) cs w') :=
    fun listed m σ a w _ hall I => ⟨m, σ, a, w, _, I, hall, rfl, .refl _ _⟩
  intro fuel
  induction fuel with
  | zero =>
    intro t listed m σ a w hsz hf I
    have hall : ∀ i, i < ops.size → listed.getD i false = true := by
      intro i hi
      cases h : listed.getD i false with
      | true => rfl
      | false =>
        have : 0 < (List.range ops.size).countP (fun i => !listed.getD i false) := List.countP_pos_iff.2 ⟨i, by simpa using hi, by simp [h]⟩
        omega
    exact stop listed m σ a w hsz hall I
  | succ fuel ih =>
    intro t listed m σ a w hsz hf I
    simp only [Region.linearise.go]
    change ∃ m' σ' a' w' S', _ ∧ _ ∧ _ ∧ Steps P (lone (b.atR a (.inRegion ops (match (Region.ready .any ops listed)[t % (Region.ready .any ops listed).length]? with
      | some i => Region.linearise.go .any ops fuel (t / (Region.ready .any ops listed).length) (listed.setIfInBounds i true) [i]
      | none => [].reverse) :: k)) cs w) _
    have hready : ∀ i, i ∈ Region.ready .any ops listed ↔ i < ops.size ∧ listed.getD i false = false ∧ ∀ o k, ops.toList[i]? = some o → Binds o k → listed.getD k false = true := by
      intro i
      unfold Region.ready
      rw [List.mem_filter, List.mem_range]
      constructor
      · rintro ⟨h1, h2⟩
        obtain ⟨o, ho, ho'⟩ := opsAt (ops := ops) h1
        have hgd : listed.getD i true = listed.getD i false := by
          rw [Array.getD_eq_getD_getElem?, Array.getD_eq_getD_getElem?]
          have : i < listed.size := by omega
          simp [this]
        rw [ho, hgd] at h2
        simp only [Option.map_some, Option.getD_some, Bool.and_eq_true, Bool.not_eq_true'] at h2
        refine ⟨h1, h2.1, fun o' k' ho2 hbk => ?_⟩
        rw [ho'] at ho2; cases ho2
        obtain ⟨e, he, hb, rfl⟩ := hbk
        have hall := h2.2
        rw [Array.all_eq_true'] at hall
        have := hall e (by simpa using he)
        rw [hb] at this
        simpa using this
      · rintro ⟨h1, h2, h3⟩
        refine ⟨h1, ?_⟩
        obtain ⟨o, ho, ho'⟩ := opsAt (ops := ops) h1
        have hgd : listed.getD i true = listed.getD i false := by
          rw [Array.getD_eq_getD_getElem?, Array.getD_eq_getD_getElem?]
          have : i < listed.size := by omega
          simp [this]
        rw [ho, hgd, h2]
        simp only [Option.map_some, Option.getD_some, Bool.not_false, Bool.true_and]
        rw [Array.all_eq_true']
        intro e he
        cases hb : Region.binds .any e with
        | false => rfl
        | true => simpa using h3 o e.on ho' ⟨e, by simpa using he, hb, rfl⟩
    cases hi : (Region.ready .any ops listed)[t % (Region.ready .any ops listed).length]? with
    | none =>
      have hnil : Region.ready .any ops listed = [] := by
        cases hr : Region.ready .any ops listed with
        | nil => rfl
        | cons x xs =>
          rw [hr] at hi
          have hlt : t % (x :: xs).length < (x :: xs).length := Nat.mod_lt _ (by simp)
          rw [List.getElem?_eq_none_iff] at hi
          omega
      refine stop listed m σ a w hsz ?_ I
      intro i
      induction i using Nat.strongRecOn with
      | _ i ih2 =>
        intro hi2
        cases h : listed.getD i false with
        | true => rfl
        | false =>
          have : i ∈ Region.ready .any ops listed := (hready i).2 ⟨hi2, h, fun o k' ho hbk => by
            have := C.edge i o k' ho hbk
            exact ih2 k' this (by omega)⟩
          rw [hnil] at this
          cases this
    | some i =>
      obtain ⟨h1, h2, h3⟩ := (hready i).1 (List.mem_of_getElem? hi)
      simp only []
      rw [linearise_go_acc, List.reverse_singleton, List.singleton_append]
      obtain ⟨m1, σ1, a1, w1, I1, _, hd1, hs1⟩ := I.step C F h1 h2 h3 hb (Region.linearise.go .any ops fuel (t / (Region.ready .any ops listed).length) (listed.setIfInBounds i true) []) k cs
      have hset : (fun x => (listed.setIfInBounds i true).getD x false) = more (fun x => listed.getD x false) i := by
        funext x
        show (listed.setIfInBounds i true).getD x false = (listed.getD x false || x == i)
        rw [Array.getD_eq_getD_getElem?, Array.getElem?_setIfInBounds, Array.getD_eq_getD_getElem?]
        have : i < listed.size := by omega
        by_cases e : i = x
        · subst e; simp [this]
        · have e' : ¬ x = i := fun h => e h.symm
          simp [e, e']
      rw [← hset] at I1
      have hcount : (List.range ops.size).countP (fun x => !(listed.setIfInBounds i true).getD x false) ≤ fuel := by
        have hlt : (List.range ops.size).countP (fun x => !(listed.setIfInBounds i true).getD x false) < (List.range ops.size).countP (fun x => !listed.getD x false) := by
          have hs : ∀ x, (listed.setIfInBounds i true).getD x false = more (fun x => listed.getD x false) i x := fun x => congrFun hset x
          simp only [hs]
          clear hs hset I1 hs1 hf ih hi
          have : ∀ l : List Nat, i ∈ l → l.countP (fun x => !more (fun x => listed.getD x false) i x) < l.countP (fun x => !listed.getD x false) := by
            intro l
            induction l with
            | nil => intro h; cases h
            | cons y ys ihl =>
              intro hm
              have hle : ys.countP (fun x => !more (fun x => listed.getD x false) i x) ≤ ys.countP (fun x => !listed.getD x false) := List.countP_mono_left fun x _ hx => by
                simp only [Bool.not_eq_true'] at hx ⊢
                exact (more_not hx).1
              rw [List.countP_cons, List.countP_cons]
              by_cases e : y = i
              · subst e
                rw [more_self, h2]
                simp only [Bool.not_true, Bool.not_false, if_true, Bool.false_eq_true, if_false]
                omega
              · have := ihl (by cases hm with | head => exact absurd rfl e | tail _ h => exact h)
                have e2 : more (fun x => listed.getD x false) i y = listed.getD y false := by simp [more, e]
                rw [e2]
                omega
          exact this _ (by simpa using h1)
        omega
      obtain ⟨m', σ', a', w', S', J1, J2, J3, J4⟩ := ih (t / (Region.ready .any ops listed).length) (listed.setIfInBounds i true) m1 σ1 a1 w1 (by simpa using hsz) hcount I1
      exact ⟨m', σ', a', w', S', J1, J2, J3.trans hd1, hs1.trans J4⟩

end

end Go.AM
