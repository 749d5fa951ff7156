/-
  What the abstract machine's operations say of the model's: slices, strings of bytes.
-/
import Derived.Test.YtdjlpdboochkhaaGreatAmNew2
namespace Go.AM
open Go.RowKit

variable {P : Program} {B : Nat} {w0 w : World} {σ : Sg} {H : Heap}

/-- An optional whole number says this of an optional value. -/
def OI : Option Int → Option Value → Prop
  | none, v => v = none
  | some n, v => ∃ k, v = some (.int k n)

theorem optI_some {ρ : Env} {ρc : Operand → Value} (he : EnvR σ ρ ρc) {x : Option Operand} {α : Type} {k : Option Int → Option α} {r : α} (h : optI ρ x k = some r) : ∃ n, k n = some r ∧ OI n (x.map ρc) := by
  cases x with
  | none => exact ⟨none, h, rfl⟩
  | some x =>
    obtain ⟨v, hv, h⟩ := bnd h
    obtain ⟨kd, n, rfl, h⟩ := asI_some h
    have := he x _ hv
    exact ⟨some n, h, kd, by rw [Option.map_some, show ρc x = _ from this]⟩

/-- The three bounds. -/
theorem bounds_run {isSlice : Bool} {len cap : Nat} {lo hi mx : Option Int} {lc hc mc : Option Value} (hl : OI lo lc) (hh : OI hi hc) (hm : OI mx mc) {l h m : Nat}
    (e1 : lo.getD 0 = l) (e2 : hi.getD len = h) (e3 : mx.getD cap = m) (h1 : l ≤ h) (h2 : h ≤ m) (h3 : m ≤ cap) (hx : hasHi mx hi = true) :
    (Instr.sliceBounds isSlice len cap lc hc mc).run P w = .ok (l, h, m) w := by
  have low : ∀ code (f : Nat → Sem (Nat × Nat × Nat)), (match lc with | some v => (Instr.sliceBound v h code) >>= f | none => (pure 0 : Sem Nat) >>= f).run P w = (f l).run P w := by
    intro code f
    cases lo with
    | none =>
      cases hl
      have e1 : (0 : Int) = l := e1
      have : l = 0 := by omega
      subst this
      simp
    | some n =>
      obtain ⟨k, rfl⟩ := hl
      have e1 : n = l := e1
      subst e1
      simp only [Sem.run_bind]
      rw [run_sliceBound w k l h code (by omega) (by omega)]
      simp
  cases mx with
  | none =>
    cases hm
    have e3 : (cap : Int) = m := e3
    have e3 : cap = m := by omega
    subst e3
    cases hi with
    | none =>
      cases hh
      have e2 : (len : Int) = h := e2
      have e2 : len = h := by omega
      subst e2
      simp only [Instr.sliceBounds, Sem.run_bind, Sem.run_pure, Result.andThen_ok, Option.isSome_none, Bool.false_eq_true, if_false]
      exact (low _ _).trans rfl
    | some n =>
      obtain ⟨k, rfl⟩ := hh
      have e2 : n = h := e2
      subst e2
      simp only [Instr.sliceBounds, Sem.run_bind, Sem.run_pure, Result.andThen_ok, Option.isSome_none, Bool.false_eq_true, if_false]
      rw [run_sliceBound w k h cap _ (by omega) (by omega)]
      simp only [Result.andThen_ok, Int.toNat_natCast]
      exact (low _ _).trans rfl
  | some i =>
    obtain ⟨k, rfl⟩ := hm
    have e3 : i = m := e3
    subst e3
    cases hi with
    | none => cases hx
    | some n =>
      obtain ⟨k', rfl⟩ := hh
      have e2 : n = h := e2
      subst e2
      simp only [Instr.sliceBounds, Sem.run_bind, Option.isSome_some, if_true]
      rw [run_sliceBound w k m cap _ (by omega) (by omega)]
      simp only [Result.andThen_ok, Int.toNat_natCast]
      rw [run_sliceBound w k' h m _ (by omega) (by omega)]
      simp only [Result.andThen_ok, Int.toNat_natCast]
      exact (low _ _).trans rfl

theorem le3_some {l h m c : Nat} {α : Type} {k : Option α} {r : α} (hh : le3 l h m c k = some r) : l ≤ h ∧ h ≤ m ∧ m ≤ c ∧ k = some r := by
  obtain ⟨h1, g1⟩ := cond_some hh
  obtain ⟨h2, g2⟩ := cond_some g1
  obtain ⟨h3, g3⟩ := cond_some g2
  exact ⟨nble.1 h1, nble.1 h2, nble.1 h3, g3⟩

theorem Pl.at_cond {p : Pl} {off l m size : Nat} (h : p.a0 ≤ off) : (if m = l then p.at off else (p.at off).add (l * size)) = p.at (cond (Nat.beq m l) off (off + l * size)) := by
  by_cases e : m = l
  · rw [if_pos e, nbeq.2 e]; rfl
  · rw [if_neg e, nbeqf.2 e, Pl.at_add h]; rfl

/-- A cut of a row whose capacity is known. -/
theorem slExact_VR {size id off len cap : Nat} {lo hi mx : Option Int} {v : AV} (h : slExact size id off len cap lo hi mx = some v) :
    ∃ l h m : Nat, lo.getD 0 = l ∧ hi.getD len = h ∧ mx.getD cap = m ∧ l ≤ h ∧ h ≤ m ∧ m ≤ cap ∧ hasHi mx hi = true ∧
      v = .slice id (cond (Nat.beq m l) off (off + l * size)) (h - l) (m - l) := by
  obtain ⟨hx, g0⟩ := cond_some h
  obtain ⟨l, e1, g1, _⟩ := natOf_some g0
  have g1 : (natOf hi len fun h => natOf mx cap fun m => le3 l h m cap (slRes true id off size l h m)) = some v := g1
  obtain ⟨h', e2, g2, _⟩ := natOf_some g1
  have g2 : (natOf mx cap fun m => le3 l h' m cap (slRes true id off size l h' m)) = some v := g2
  obtain ⟨m, e3, g3, _⟩ := natOf_some g2
  obtain ⟨k1, k2, k3, g4⟩ := le3_some g3
  have g4 : some (AV.slice id (cond (Nat.beq m l) off (off + l * size)) (h' - l) (m - l)) = some v := g4
  cases g4
  exact ⟨l, h', m, e1, e2, e3, k1, k2, k3, hx, rfl⟩

theorem sliceOf_exact {t elem : TypeId} {s id off len cap : Nat} {lo hi mx : Option Int} {lc hc mc : Option Value} {v : AV} {a : Value} (hu : und P t = some (.slice elem)) (hs : szOf P elem = some s)
    (h : slExact s id off len cap lo hi mx = some v) (hx : VR σ (.slice id off len cap) a) (hl : OI lo lc) (hh : OI hi hc) (hm : OI mx mc) : PureOk P σ (Instr.sliceAt t a lc hc mc) v := by
  obtain ⟨l, h', m, e1, e2, e3, k1, k2, k3, hhi, rfl⟩ := slExact_VR h
  obtain ⟨p, hp, hle, rfl⟩ := hx
  have hle2 : p.a0 ≤ cond (Nat.beq m l) off (off + l * s) := by cases Nat.beq m l <;> simp <;> omega
  refine ⟨.slice (some (p.at (cond (Nat.beq m l) off (off + l * s)))) (h' - l) (m - l), ⟨p, hp, hle2, rfl⟩, fun w => ?_⟩
  simp only [Instr.sliceAt, Sem.run_bind, run_und hu, Result.andThen_ok, Instr.slice, bounds_run hl hh hm e1 e2 e3 k1 k2 k3 hhi, run_sz hs, Sem.run_pure, Option.map_some]
  rw [← Pl.at_cond hle]
  split <;> rfl

theorem sliceOf_array {t elem : TypeId} {n s id off : Nat} {lo hi mx : Option Int} {lc hc mc : Option Value} {v : AV} {a : Value} (hu : und P t = some (.array n elem)) (hs : szOf P elem = some s)
    (h : slExact s id off n n lo hi mx = some v) (hx : VR σ (.ptr id off) a) (hl : OI lo lc) (hh : OI hi hc) (hm : OI mx mc) : PureOk P σ (Instr.sliceAt t a lc hc mc) v := by
  obtain ⟨l, h', m, e1, e2, e3, k1, k2, k3, hhi, rfl⟩ := slExact_VR h
  obtain ⟨p, hp, hle, rfl⟩ := hx
  have hle2 : p.a0 ≤ cond (Nat.beq m l) off (off + l * s) := by cases Nat.beq m l <;> simp <;> omega
  refine ⟨.slice (some (p.at (cond (Nat.beq m l) off (off + l * s)))) (h' - l) (m - l), ⟨p, hp, hle2, rfl⟩, fun w => ?_⟩
  simp only [Instr.sliceAt, Sem.run_bind, run_und hu, Result.andThen_ok, Instr.sureAddr, Sem.run_pure, bounds_run hl hh hm e1 e2 e3 k1 k2 k3 hhi, run_sz hs]
  rw [← Pl.at_cond hle]

theorem sliceOf_nil {t elem : TypeId} {s : Nat} {lo hi mx : Option Int} {lc hc mc : Option Value} {v : AV} {a : Value} (hu : und P t = some (.slice elem)) (hs : szOf P elem = some s)
    (h : slNil lo hi mx = some v) (hx : VR σ .nils a) (hl : OI lo lc) (hh : OI hi hc) (hm : OI mx mc) : PureOk P σ (Instr.sliceAt t a lc hc mc) v := by
  obtain ⟨hhi, g0⟩ := cond_some h
  obtain ⟨l, e1, g1, _⟩ := natOf_some g0
  have g1 : (natOf hi 0 fun h => natOf mx 0 fun m => le3 l h m 0 (some AV.nils)) = some v := g1
  obtain ⟨h', e2, g2, _⟩ := natOf_some g1
  have g2 : (natOf mx 0 fun m => le3 l h' m 0 (some AV.nils)) = some v := g2
  obtain ⟨m, e3, g3, _⟩ := natOf_some g2
  obtain ⟨k1, k2, k3, g4⟩ := le3_some g3
  cases g4
  cases hx
  have : m = 0 := by omega
  subst this
  have : h' = 0 := by omega
  subst this
  have : l = 0 := by omega
  subst this
  refine ⟨_, rfl, fun w => ?_⟩
  simp only [Instr.sliceAt, Sem.run_bind, run_und hu, Result.andThen_ok, Instr.slice, bounds_run hl hh hm e1 e2 e3 k1 k2 k3 hhi, run_sz hs, Sem.run_pure]
  simp

theorem sliceOf_open {t elem : TypeId} {s id off len : Nat} {lo hi mx : Option Int} {lc hc mc : Option Value} {v : AV} {a : Value} (hcn : Rd σ H w) (hu : und P t = some (.slice elem)) (hs : szOf P elem = some s) (hs0 : s ≠ 0)
    (h : slOpen H s id off len lo hi mx = some v) (hx : VR σ (.oslice id off len) a) (hl : OI lo lc) (hh : OI hi hc) (hm : OI mx mc) : PureOk P σ (Instr.sliceAt t a lc hc mc) v := by
  obtain ⟨o, ho, g0⟩ := bnd h
  obtain ⟨tr, olo, ohi, z, g, rfl, g1⟩ := rowOf_some g0
  obtain ⟨q1, g2⟩ := cond_some g1
  obtain ⟨q2, g3⟩ := cond_some g2
  obtain ⟨hhi, g4⟩ := cond_some g3
  have q1 := nbeq.1 q1
  subst q1
  have q2 := nble.1 q2
  obtain ⟨l, e1, g5, _⟩ := natOf_some g4
  have g5 : (natOf hi len fun h => Option.casesOn mx
      (cond (Nat.ble l h) (cond (Nat.ble (Nat.add off (Nat.mul h g)) ohi) (slRes false id off g l h 0) none) none)
      fun i => natOf (some i) 0 fun m => cond (Nat.ble (Nat.add off (Nat.mul m g)) ohi) (le3 l h m m (cond (Nat.ble (Nat.succ off) ohi) (slRes true id off g l h m) (some (.oslice id off 0)))) none) = some v := g5
  obtain ⟨h', e2, g6, _⟩ := natOf_some g5
  obtain ⟨p, oc, cap, hp, hle, rfl, hcase⟩ := hx
  obtain ⟨rfl, rfl, h3, h4, h5, arr, elem', fr, h6, h7, h8, h9⟩ := hcn.obj id p _ hp ho
  have hes : p.es = g := h4 (by omega)
  have fit : ∀ k : Nat, off + k * g ≤ p.hi → k ≤ cap := by
    intro k hk
    rcases hcase with ⟨rfl, hS⟩ | ⟨rfl, rfl, hend⟩
    · rw [hes] at hS
      have : k * g ≤ cap * g := by omega
      exact Nat.le_of_mul_le_mul_right this (by omega)
    · have : k * g = 0 := by omega
      rcases Nat.mul_eq_zero.1 this with h | h
      · omega
      · omega
  cases mx with
  | none =>
    obtain ⟨r1, g7⟩ := cond_some g6
    obtain ⟨r2, g8⟩ := cond_some g7
    have g8 : some (AV.oslice id (off + l * g) (h' - l)) = some v := g8
    cases g8
    have r1 := nble.1 r1
    have r2 : off + h' * g ≤ p.hi := nble.1 r2
    have hk := fit h' r2
    cases hm
    refine ⟨.slice (some (if cap = l then ⟨p.b, oc, none⟩ else (⟨p.b, oc, none⟩ : Addr).add (l * g))) (h' - l) (cap - l), ?_, fun w => ?_⟩
    · by_cases ecl : cap = l
      · rw [if_pos ecl]
        refine ⟨p, oc, cap - l, hp, by omega, rfl, .inr ⟨by omega, by omega, ?_⟩⟩
        rcases hcase with ⟨rfl, hS⟩ | ⟨rfl, rfl, hend⟩
        · rw [hes] at hS
          subst ecl
          omega
        · omega
      · rw [if_neg ecl]
        rcases hcase with ⟨rfl, hS⟩ | ⟨rfl, rfl, hend⟩
        · refine ⟨p, p.c0 + (off - p.a0) + l * g, cap - l, hp, by omega, ?_, .inl ⟨by omega, ?_⟩⟩
          · congr 1
            unfold Addr.add
            split
            · rename_i h0; rw [h0]; rfl
            · rfl
          · rw [hes] at hS ⊢
            rw [Nat.sub_mul]
            have : l * g ≤ cap * g := Nat.mul_le_mul_right _ (by omega)
            omega
        · omega
    · simp only [Instr.sliceAt, Sem.run_bind, run_und hu, Result.andThen_ok, Instr.slice, bounds_run (cap := cap) hl hh (show OI none none from rfl) e1 e2 rfl r1 hk (Nat.le_refl _) hhi, run_sz hs, Sem.run_pure, Option.map_some]
      split <;> rfl
  | some i =>
    have g6 : (natOf (some i) 0 fun m => cond (Nat.ble (Nat.add off (Nat.mul m g)) p.hi) (le3 l h' m m (cond (Nat.ble (Nat.succ off) p.hi) (slRes true id off g l h' m) (some (.oslice id off 0)))) none) = some v := g6
    obtain ⟨m, e3, g7, _⟩ := natOf_some g6
    obtain ⟨r2, g8⟩ := cond_some g7
    have r2 : off + m * g ≤ p.hi := nble.1 r2
    obtain ⟨k1, k2, _, g9⟩ := le3_some g8
    have hk := fit m r2
    cases hin : Nat.ble (Nat.succ off) p.hi with
    | true =>
      rw [hin] at g9
      have hin : off < p.hi := nble.1 hin
      have g9 : some (AV.slice id (cond (Nat.beq m l) off (off + l * g)) (h' - l) (m - l)) = some v := g9
      cases g9
      have hle2 : p.a0 ≤ cond (Nat.beq m l) off (off + l * g) := by cases Nat.beq m l <;> simp <;> omega
      rcases hcase with ⟨rfl, hS⟩ | ⟨rfl, rfl, hend⟩
      · refine ⟨.slice (some (p.at (cond (Nat.beq m l) off (off + l * g)))) (h' - l) (m - l), ⟨p, hp, hle2, rfl⟩, fun w => ?_⟩
        simp only [Instr.sliceAt, Sem.run_bind, run_und hu, Result.andThen_ok, Instr.slice, bounds_run (cap := cap) hl hh hm e1 e2 e3 k1 k2 hk hhi, run_sz hs, Sem.run_pure, Option.map_some]
        rw [← Pl.at_cond hle]
        split <;> rfl
      · omega
    | false =>
      rw [hin] at g9
      have hin : p.hi ≤ off := by have := nblef.1 hin; omega
      cases g9
      have hm0 : m = 0 := by
        have : m * g = 0 := by omega
        rcases Nat.mul_eq_zero.1 this with h | h
        · exact h
        · omega
      subst hm0
      have : h' = 0 := by omega
      subst this
      have : l = 0 := by omega
      subst this
      refine ⟨.slice (some ⟨p.b, oc, none⟩) 0 0, ⟨p, oc, 0, hp, hle, rfl, .inr ⟨rfl, rfl, hin⟩⟩, fun w => ?_⟩
      simp only [Instr.sliceAt, Sem.run_bind, run_und hu, Result.andThen_ok, Instr.slice, bounds_run (cap := cap) hl hh hm e1 e2 e3 k1 k2 hk hhi, run_sz hs, Sem.run_pure, Option.map_some]
      simp

theorem slStr_run {t : TypeId} {s : ByteArray} {lo hi mx : Option Int} {lc hc mc : Option Value} {v : AV} (hu : und P t = some .string)
    (h : slStr (s.data.toList.map (·.toNat)) lo hi mx = some v) (hl : OI lo lc) (hh : OI hi hc) (hm : OI mx mc) : PureOk P σ (Instr.sliceAt t (.string s) lc hc mc) v := by
  cases mx with
  | some i => cases h
  | none =>
    cases hm
    have g0 : (natOf lo 0 fun l => natOf hi (llen (s.data.toList.map (·.toNat))) fun h => le3 l h (llen (s.data.toList.map (·.toNat))) (llen (s.data.toList.map (·.toNat))) (some (.str (ldrop l (ltake h (s.data.toList.map (·.toNat))))))) = some v := h
    obtain ⟨l, e1, g1, _⟩ := natOf_some g0
    have g1 : (natOf hi (llen (s.data.toList.map (·.toNat))) fun h => le3 l h (llen (s.data.toList.map (·.toNat))) (llen (s.data.toList.map (·.toNat))) (some (.str (ldrop l (ltake h (s.data.toList.map (·.toNat))))))) = some v := g1
    obtain ⟨h', e2, g2, _⟩ := natOf_some g1
    obtain ⟨k1, k2, _, g3⟩ := le3_some g2
    cases g3
    have hlen : llen (s.data.toList.map (·.toNat)) = s.size := by rw [llen_eq, List.length_map]; rfl
    rw [hlen] at k2 e2
    refine ⟨.string (s.extract l h'), ⟨_, rfl, ?_⟩, fun w => ?_⟩
    · rw [ldrop_eq, ltake_eq]
      simp [List.extract_eq_take_drop, List.map_drop, List.map_take, List.drop_take]
    · simp only [Instr.sliceAt, Sem.run_bind, run_und hu, Result.andThen_ok, Instr.slice, Option.isSome_none, Bool.false_eq_true, if_false, Sem.run_pure,
        bounds_run (P := P) (isSlice := false) (mx := none) (cap := s.size) hl hh (show OI none none from rfl) e1 e2 rfl k1 k2 (Nat.le_refl _) (show hasHi none hi = true by cases hi <;> rfl)]

theorem oSlice_run {t : TypeId} {u : TypeDesc} {x v : AV} {a : Value} {lo hi mx : Option Int} {lc hc mc : Option Value} (hcn : Rd σ H w) (hu : und P t = some u) (h : oSlice P H u x lo hi mx = some v) (hx : VR σ x a)
    (hl : OI lo lc) (hh : OI hi hc) (hm : OI mx mc) : PureOk P σ (Instr.sliceAt t a lc hc mc) v := by
  cases u with
  | string =>
    cases x <;> try (cases h; done)
    obtain ⟨s, rfl, rfl⟩ := hx
    exact slStr_run hu h hl hh hm
  | slice elem =>
    obtain ⟨s, hs, g⟩ := bnd h
    obtain ⟨h0, g⟩ := cond_none g
    have h0 := nbeqf.1 h0
    cases x with
    | nils => exact sliceOf_nil hu hs g hx hl hh hm
    | slice id off len cap => exact sliceOf_exact hu hs g hx hl hh hm
    | oslice id off len => exact sliceOf_open hcn hu hs h0 g hx hl hh hm
    | _ => cases g
  | array n elem =>
    obtain ⟨s, hs, g⟩ := bnd h
    obtain ⟨h0, g⟩ := cond_none g
    obtain ⟨id, off, rfl, g⟩ := asPtr_some g
    exact sliceOf_array hu hs g hx hl hh hm
  | _ => cases h

/-! ### Strings of bytes -/

theorem u8s_VRs : ∀ {vs : List AV} {cvs : List Value} {l : List Nat}, u8s vs = some l → VRs σ vs cvs → ∃ ns : List Int, cvs = ns.map (Value.int .u8) ∧ l = ns.map (·.toNat) ∧ ∀ n ∈ ns, 0 ≤ n ∧ n < 256
  | [], _, l, h, hv => by cases h; cases hv; exact ⟨[], rfl, rfl, fun n hn => by cases hn⟩
  | a :: as, _, l, h, ⟨c, cs, e, hc, hcs⟩ => by
    subst e
    cases a <;> try (cases h; done)
    rename_i k n
    cases k <;> try (cases h; done)
    have h : cond (intLt n 0) none (cond (intLt n 256) ((u8s as).bind fun r => some (n.toNat :: r)) none) = some l := h
    obtain ⟨h0, h⟩ := cond_none h
    obtain ⟨h1, h⟩ := cond_some h
    obtain ⟨r, hr, h⟩ := bnd h
    cases h
    rw [intLt_eq] at h0 h1
    obtain ⟨ns, rfl, rfl, hns⟩ := u8s_VRs hr hcs
    cases hc
    refine ⟨n :: ns, rfl, rfl, fun m hm => ?_⟩
    cases hm with
    | head => simp at h0 h1; omega
    | tail _ hm => exact hns m hm

theorem push_fold (ns : List Int) : ∀ (s : ByteArray), (∀ n ∈ ns, 0 ≤ n ∧ n < 256) → (ns.foldl (fun r n => r.push (UInt8.ofNat n.toNat)) s).data.toList.map (·.toNat) = s.data.toList.map (·.toNat) ++ ns.map (·.toNat) := by
  induction ns with
  | nil => intro s _; simp
  | cons n ns ih =>
    intro s h
    rw [List.foldl_cons, ih _ fun m hm => h m (List.mem_cons_of_mem _ hm)]
    have hn := h n (List.mem_cons_self ..)
    have : (UInt8.ofNat n.toNat).toNat = n.toNat := by
      rw [UInt8.toNat_ofNat']
      omega
    simp [ByteArray.push, this]

theorem strOfBytes_run {src dst e : TypeId} {x v : AV} {a : Value} (hc : Rd σ H w) (hus : und P src = some (.slice e)) (hud : und P dst = some .string) (he : und P e = some (.int .u8)) (h : strOfBytes H x = some v) (hx : VR σ x a) :
    ∃ cv, (convert src dst a).run P w = .ok cv w ∧ VR σ v cv := by
  rcases asSl_some h with ⟨rfl, h⟩ | ⟨id, off, len, g, hsl⟩
  · cases h
    cases hx
    refine ⟨.string .empty, ?_, ⟨_, rfl, rfl⟩⟩
    rw [run_convert_bytes_string w src dst e none 0 0 hus he hud]
    simp [Conv.bytesToString]
  · obtain ⟨vs, hvs, g⟩ := bnd g
    obtain ⟨l, hl, g⟩ := bnd g
    cases g
    obtain ⟨p, ad, cap, hp, hle, rfl, had, _⟩ := sl_VR hsl hx
    obtain ⟨arr, hr, hv, hlen⟩ := loadN_run (P := P) hc hp hvs
    obtain ⟨ns, hns, rfl, hb⟩ := u8s_VRs hl hv
    have harr : arr = (ns.map (Value.int .u8)).toArray := by rw [← hns]
    have hload : (loadCells ad len).run P w = .ok (ns.map (Value.int .u8)).toArray w := by
      by_cases h0 : 0 < len
      · rw [had h0, hr w rfl, harr]
      · have : len = 0 := by omega
        subst this
        have hvn : vs = [] := List.eq_nil_of_length_eq_zero hlen
        subst hvn
        have : arr.toList = [] := hv
        rw [hns] at this
        rw [this]
        simp [loadCells, loadCellsFrom]
    refine ⟨.string (ns.foldl (fun r n => r.push (UInt8.ofNat n.toNat)) ByteArray.empty), ?_, ⟨_, rfl, ?_⟩⟩
    · rw [run_convert_bytes_string w src dst e (some ad) len cap hus he hud, run_bytesToString w ad len cap ns hload]
    · rw [push_fold ns _ hb]; rfl

end Go.AM
