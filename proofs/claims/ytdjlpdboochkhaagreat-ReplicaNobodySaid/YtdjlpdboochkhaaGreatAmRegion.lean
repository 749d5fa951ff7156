/-
  Regions, in the text's order and in a drawn order.
-/
import Derived.Test.YtdjlpdboochkhaaGreatAmDraw4
set_option linter.unusedVariables false
namespace Go.AM
open Go.RowKit

variable {P : Program} {B : Nat} {w0 w w' : World} {σ : Sg} {H : Heap}

theorem region_text {ops : Array Oper} {ss : Nat → St} (hops : ∀ (i : Nat) (o : Oper), ops[i]? = some o → ∃ v, OpM P ops.toList o (ss i) (ss (i + 1)) v) {id : Nat} {b : Frame} (hb : b.kind = .normal) {a : Act} (hs : SR σ (ss 0) a) (hc : Conc B w0 σ (ss 0).hp w)
    (k : List Item) (cs : List Frame) : ∃ σ' a' w', SR σ' (ss ops.size) a' ∧ Conc B w0 σ' (ss ops.size).hp w' ∧ Stp σ (ss 0).hp w σ' (ss ops.size).hp w' ∧
      Steps P (lone (b.atR a (.code (.region id ops false) :: k)) cs w) (lone (b.atR a' k) cs w') := by
  have key : ∀ d j, j + d = ops.size → ∀ (σ : Sg) (a : Act) (w : World), SR σ (ss j) a → Conc B w0 σ (ss j).hp w → ∃ σ' a' w', SR σ' (ss ops.size) a' ∧ Conc B w0 σ' (ss ops.size).hp w' ∧ Stp σ (ss j).hp w σ' (ss ops.size).hp w' ∧
      Steps P (lone (b.atR a (.inRegion ops (List.range' j d) :: k)) cs w) (lone (b.atR a' (.inRegion ops [] :: k)) cs w') := by
    intro d
    induction d with
    | zero =>
      intro j hj σ a w hs hc
      have : j = ops.size := by omega
      subst this
      exact ⟨σ, a, w, hs, hc, Stp.refl _ _ _, .refl _ _⟩
    | succ d ih =>
      intro j hj σ a w hs hc
      obtain ⟨o, ho, ho'⟩ := opsAt (ops := ops) (i := j) (by omega)
      obtain ⟨v, M⟩ := hops j o ho
      rw [List.range'_succ]
      obtain ⟨σ1, w1, cv, k1, k2, k3, k4⟩ := M.run B w0 ops j (List.range' (j + 1) d) b σ a w k cs rfl ho hb (hs.op _ _) hc
      obtain ⟨σ', a', w', l1, l2, l3, l4⟩ := ih (j + 1) (by omega) σ1 _ w1 (hs.put k3.le k1 M.put) k2
      exact ⟨σ', a', w', l1, l2, k3.trans l3, k4.trans l4⟩
  obtain ⟨σ', a', w', l1, l2, l3, l4⟩ := key ops.size 0 (by omega) σ a w hs hc
  refine ⟨σ', a', w', l1, l2, l3, .head stepR_region ?_⟩
  rw [List.range_eq_range']
  exact l4.trans (.one stepR_region_end)

theorem region_draw (hm : P.follows .mixedOrders = true) {ops : Array Oper} {ss : Nat → St} (hops : ∀ (i : Nat) (o : Oper), ops[i]? = some o → ∃ v, OpM P ops.toList o (ss i) (ss (i + 1)) v) (hok : regOk P ops.toList = true)
    (hsame : ∀ p ∈ confl P ops.toList, ∀ (o ow : Oper), ops.toList[p.1]? = some o → ops.toList[p.2]? = some ow → sameRead P ops.toList o ow (ss p.1) (ss p.2) (ss (p.2 + 1)) = true)
    {id : Nat} {b : Frame} (hb : b.kind = .normal) {a : Act} (hs : SR σ (ss 0) a) (hc : Conc B w0 σ (ss 0).hp w)
    (k : List Item) (cs : List Frame) : ∃ σ' a' w', SR σ' (ss ops.size) a' ∧ Conc B w0 σ' (ss ops.size).hp w' ∧ Stp σ (ss 0).hp w σ' (ss ops.size).hp w' ∧
      Steps P (lone (b.atR a (.code (.region id ops true) :: k)) cs w) (lone (b.atR a' k) cs w') := by
  obtain ⟨f, h1, h2, h3, h4⟩ := regOk_all hok
  have hv : ∃ vs : Nat → AV, ∀ (i : Nat) (o : Oper), ops[i]? = some o → OpM P ops.toList o (ss i) (ss (i + 1)) (vs i) := by
    have : ∀ i, ∃ v, ∀ o, ops[i]? = some o → OpM P ops.toList o (ss i) (ss (i + 1)) v := by
      intro i
      cases ho : ops[i]? with
      | none => exact ⟨undefA, fun o h => by cases h⟩
      | some o =>
        obtain ⟨v, hv⟩ := hops i o ho
        exact ⟨v, fun o' h => by cases h; exact hv⟩
    exact ⟨fun i => Classical.choose (this i), fun i => Classical.choose_spec (this i)⟩
  obtain ⟨vs, hvs⟩ := hv
  have C : Canon P ops ss vs f := ⟨hvs, h1, h2, h3, h4, hsame⟩
  have F := C.facts hs hc
  have hc1 : Conc B w0 σ (ss 0).hp { w with drawn := w.drawn + 1 } := hc.same rfl (hc.below.trans ⟨rfl, rfl, rfl, Nat.le_refl _, fun _ _ => rfl⟩)
  have e0 : (fun i => (Array.replicate ops.size false).getD i false) = fun _ => false := by
    funext i
    rw [Array.getD_eq_getD_getElem?, Array.getElem?_replicate]
    split <;> rfl
  have I0 : DInv P B w0 ops ss vs σ { w with drawn := w.drawn + 1 } (fun i => (Array.replicate ops.size false).getD i false) 0 σ a { w with drawn := w.drawn + 1 } := by
    rw [e0]
    exact ⟨TInv.start hs, HInv.start hc1, fun j o k _ h => absurd h (by simp)⟩
  obtain ⟨m', σ', a', w', S', I, hall, hd, hsteps⟩ := DInv.run C F hb k cs ops.size (w.tape w.drawn (.order b.fn id)) (Array.replicate ops.size false) 0 σ a { w with drawn := w.drawn + 1 } (by simp)
    (Nat.le_trans List.countP_le_length (by simp)) I0
  have I2 := HInv.upto C F (Nat.le_refl _) I.H I.H.mn fun i h1 h2 hW => by
    have := I.H.after i h1 h2 hW
    rw [hall i h2] at this
    cases this
  have hle : Le σ (σ'.below (ss ops.size).hp.next) := I2.stp.le
  have hT := I.T.done C F hall
  refine ⟨σ'.below (ss ops.size).hp.next, a', w', ⟨⟨hT.1, hT.2.1, fun t ht => (hT.2.2.1 t ht).below (F.bdT _ (Nat.le_refl _) t ht), hT.2.2.2⟩, ?_⟩, I2.conc, ?_, .head stepR_region_draw ?_⟩
  · rw [hd, (F.sz ops.size (Nat.le_refl _)).2]
    exact hs.2.mono hle
  · exact (Stp.same σ (ss 0).hp (w := w) (w' := { w with drawn := w.drawn + 1 }) rfl).trans I2.stp
  · rw [hm]
    simp only [Region.schedule, Bool.true_or, if_true]
    exact hsteps.trans (.one stepR_region_end)

end Go.AM
