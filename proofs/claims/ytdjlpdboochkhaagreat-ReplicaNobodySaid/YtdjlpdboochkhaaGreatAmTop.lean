/-
  A call of the abstract machine is a call of the model's.
-/
import Derived.Test.YtdjlpdboochkhaaGreatAmLoop
set_option linter.unusedVariables false
namespace Go.AM
open Go.RowKit

variable {P : Program} {B : Nat} {w0 w w' : World} {σ : Sg} {H : Heap}

/-- A call of a function with a body. -/
theorem calls_of_ev' {X : Ext} (O : Ok P X) {j : Job} {o : Out} (h : Ev P X j o) : ∀ {f : FuncId} {args : List AV} {H : Heap} {v : AV} {H' : Heap}, j = .call (.func f [] []) args H → o = .val v H' → X f = none →
    ∀ {B : Nat} {w0 w : World} {σ : Sg} {ac : Array Value}, VRs σ args ac.toList → Conc B w0 σ H w → Calls P f ac w fun e w' => ∃ σ' cv, e = .returned cv ∧ VR σ' v cv ∧ Conc B w0 σ' H' w' ∧ Stp σ H w σ' H' w' := by
  induction h with
  | fnExt h1 _ =>
    intro f args H v H' e1 e2 hX
    cases e1
    rw [hX] at h1; cases h1
  | fnBody _ hf hb hn hlen hbody he ht hr _ =>
    intro f args H v H' e1 e2 hX B w0 w σ ac hl hc cs
    cases e1; cases e2
    obtain ⟨σ', w', cv, fr', k1, k2, k3, k4, k5, k6⟩ := body_leaves O hf hb hn hlen (ev_sound O hbody) he ht hr (lc := ac) (by simpa using hl) hc cs
    exact ⟨.returned cv, w', fr', ⟨σ', cv, rfl, k1, k2, k3⟩, k4, k5, k6⟩
  | closed _ hp hv _ ih =>
    intro f args H v H' e1 e2 hX B w0 w σ ac hl hc
    cases e1; cases e2
    simp only [List.nil_append, List.append_nil] at hp ih
    refine (ih rfl rfl hX (plains_VR hp hl) (Conc.nothing w)).mono fun e w' ⟨σ', cv, h1, h2, h3, h4⟩ => ?_
    exact ⟨σ, cv, h1, plain1_VR hv h2, hc.wider h4.size h3.below.block (h3.below.mono hc.size), (Stp.refl _ _ _).wider h4.size h3.below.block⟩
  | _ => intro f args H v H' e1; cases e1

theorem calls_of_ev {X : Ext} (O : Ok P X) {f : FuncId} {args : List AV} {v : AV} {H' : Heap} (hX : X f = none) (h : Ev P X (.call (.func f [] []) args H) (.val v H')) {ac : Array Value} (hl : VRs σ args ac.toList) (hc : Conc B w0 σ H w) :
    Calls P f ac w fun e w' => ∃ σ' cv, e = .returned cv ∧ VR σ' v cv ∧ Conc B w0 σ' H' w' ∧ Stp σ H w σ' H' w' :=
  calls_of_ev' O h rfl rfl hX hl hc

/-- A closed call. -/
theorem calls_closed {X : Ext} (O : Ok P X) {f : FuncId} {args : List AV} {v : AV} {H' : Heap} (hX : X f = none) (h : Ev P X (.call (.func f [] []) args ⟨.e, 0⟩) (.val v H')) {ac : Array Value} (hl : VRs (fun _ => none) args ac.toList) (w : World) :
    Calls P f ac w fun e w' => ∃ σ' cv, e = .returned cv ∧ VR σ' v cv ∧ Below w.heap.size w w' :=
  (calls_of_ev O hX h hl (Conc.nothing w)).mono fun e w' ⟨σ', cv, h1, h2, h3, _⟩ => ⟨σ', cv, h1, h2, h3.below⟩

/-- A closed call that comes to a truth value. -/
theorem calls_bool {X : Ext} (O : Ok P X) {f : FuncId} {args : List AV} {t : Bool} {H' : Heap} (hX : X f = none) (h : Ev P X (.call (.func f [] []) args ⟨.e, 0⟩) (.val (.bool t) H')) {ac : Array Value} (hl : VRs (fun _ => none) args ac.toList) (w : World) :
    Calls P f ac w fun e w' => e = .returned (.bool t) ∧ Below w.heap.size w w' :=
  (calls_closed O hX h hl w).mono fun e w' ⟨σ', cv, h1, h2, h3⟩ => ⟨by rw [h1, show cv = .bool t from h2], h3⟩

end Go.AM
