/-
  PROVED: pianolalaw23.ReplicaNobody returns true for whatever number, message and number come in, and what came in reads behind as it did. No condition.
-/
import Derived.Test.YtdjlpdboochkhaaGreatRows
import Derived.WalkKit
import Derived.ProofKit
import Derived.OpenShut
import Derived.Test.YtdjlpdboochkhaaGreatAmLaw
import Derived.Test.YtdjlpdboochkhaaGreatNob23
import Derived.Test.YtdjlpdboochkhaaGreatS23lives
import Derived.Test.YtdjlpdboochkhaaGreatNobFactsA
import Derived.Test.YtdjlpdboochkhaaGreatNobFactsB
namespace Go.Proofs.YtdjlpdboochkhaaGreat.replicaNobody
open Go.ChangeShapes Go.WideShapes Go.ChangeAt Go.RowKit Go.AM
set_option linter.unusedVariables false
set_option maxRecDepth 100000
theorem own : ownKnob Tryz.prog.godebug = none := by kernel_rfl
theorem laidOut : laidOutB Tryz.prog = true := k1
theorem facts : joinedFacts Tryz.prog 5 Tryz.f5 Rows.replicaNobodySpec Rows.replicaNobodyRow = true := by
  unfold joinedFacts
  rw [k0, k1, k2, k3, k4, k5, k6, k7, k8, k9, k10, k11, k12, k13, k14, k15, k16, k17, k18, k19, k20, k21, k22, k23, k24, k25, k26, k27, k29, k30, k31]
  simp only [Bool.and_true, Bool.true_and, Bool.and_self]
  exact Eq.trans (by kernel_rfl) k28
noncomputable def zmsg : Value := ((Tryz.prog.info? 33).bind (·.zero)).getD default
theorem params5 : Tryz.f5.params.toList.all (fun t => Tryz.prog.readableRec t && decide (t < Tryz.prog.types.size)) = true := by kernel_rfl
theorem namesOk : (Tryz.prog.funcs.all fun fn => fn.body.isNone || !(fn.name == "runtime.NumGoroutine")) = true := by kernel_rfl
theorem mixed : Tryz.prog.follows .mixedOrders = true := by kernel_rfl
theorem amOk : Ok Tryz.prog S23.XX where
  mixed := mixed
  ext f g hX args v hv σ ac w hl := by
    unfold S23.XX at hX
    cases hb : Nat.beq f 233 with
    | false => rw [hb] at hX; cases hX
    | true =>
      rw [hb] at hX
      cases hX
      have := nbeq.1 hb
      subst this
      exact ext_index Tryz.func233 (by kernel_rfl) (by kernel_rfl) (by kernel_rfl) (by kernel_rfl) hv hl
  name f fn c hf hb := by
    have := Array.all_eq_true'.1 namesOk fn (Array.mem_of_getElem? hf)
    rw [hb] at this
    simpa using this

theorem msgCells : ((Tryz.prog.cellTypes Tryz.prog.depth 33).map fun l => l.all (opqT Tryz.prog)) = some true := by kernel_rfl
theorem msgUnd : (match Tryz.prog.underlying 33 with | some (.struct _) => true | _ => false) = true := by kernel_rfl
theorem msgSize : Tryz.prog.cellsOf 33 = 55 := by kernel_rfl

theorem open_msg {W : World} {v : Value} (h : Value.okWide Tryz.prog W .any 0 33 v) : ∃ cs : Array Value, v = .agg cs ∧ cs.size = 55 ∧ ∀ x ∈ cs.toList, Opq W x := by
  have hu := msgUnd
  unfold Value.okWide at h
  split at hu
  · rename_i fs hfs
    rw [hfs] at h
    obtain ⟨cs, rfl, hsz, ts, hts, _, hall⟩ := h
    have hm := msgCells
    rw [hts] at hm
    have hm : ts.all (opqT Tryz.prog) = true := Option.some.inj hm
    refine ⟨cs, rfl, hsz.trans msgSize, fun x hx => ?_⟩
    obtain ⟨i, hi⟩ := List.getElem?_of_mem hx
    obtain ⟨u, hu, ho⟩ := hall i x (by simpa using hi)
    exact cell_opq (List.all_eq_true.1 hm u (List.mem_of_getElem? hu)) ho
  · cases hu

theorem walk (args : Array Value) (W : World) (hval : ∀ (j : Nat) t v, Tryz.f5.params[j]? = some t → args[j]? = some v → Value.okWide Tryz.prog W .any 0 t v) (hs : args.size = 3) :
    Calls Tryz.prog 5 args W fun e w' => e = .returned (.bool true) ∧ Below W.heap.size W w' := by
  obtain ⟨l⟩ := args
  match l, hs with
  | [v0, v1, v2], _ =>
    rw [Tryz.params5] at hval
    obtain ⟨x, rfl⟩ := okWide_int (k := .i64) (by kernel_rfl) (hval 0 3 v0 rfl rfl)
    obtain ⟨y, rfl⟩ := okWide_int (k := .i64) (by kernel_rfl) (hval 2 3 v2 rfl rfl)
    obtain ⟨cs, rfl, hsz, hopq⟩ := open_msg (hval 1 33 v1 rfl rfl)
    obtain ⟨σ, H, ms, h1, h2, h3, h4⟩ := veils hopq (Conc.nothing W)
    have hlen : ms.length = 55 := by have := h3.length; simp at this; omega
    obtain ⟨v, H', hev, rfl⟩ := S23.nobody_wf x y h4 hlen S23.lives_wf H
    refine (calls_of_ev amOk rfl hev (σ := σ) (ac := #[.int .i64 x, .agg cs, .int .i64 y]) ⟨_, _, rfl, rfl, _, _, rfl, ⟨cs, rfl, h3⟩, _, _, rfl, rfl, rfl⟩ h1).mono fun e w' ⟨σ', cv, k1, k2, k3, _⟩ => ?_
    exact ⟨by rw [k1, show cv = .bool true from k2], k3.below⟩

set_option maxRecDepth 100000 in
theorem lifted (os : Os) (started : os.Started) (H : Type) (enc : TypeId × Value → H) :
    ReturnsInHanded {} Tryz.checked os 5 .any (Rows.replicaNobodySpec.pre6 enc Tryz.prog Tryz.f5 Rows.replicaNobodyRow.domain false) (Rows.replicaNobodySpec.post enc Tryz.prog Tryz.f5 false true false false) := by
  refine returnsInHanded_of_change (C := Tryz.checked) own started (by kernel_rfl) Tryz.func5
    (ChangeSpec.witness6 (enc := enc) (C := Tryz.checked) false ⟨#[], #[.int .i64 0, zmsg, .int .i64 0], []⟩ 12 (by kernel_rfl) (by kernel_rfl) (by kernel_rfl) (by kernel_rfl)) ?_
  intro W base args ds gs before hval0 hW hcnd _
  have hlen : args.size = 3 := by
    obtain ⟨p, q, hA, _⟩ := hW
    have := (trodAll_len hA).2
    rw [Tryz.params5] at this
    simpa using this
  refine (walk args W hval0 hlen).mono fun e W' ⟨he, hg⟩ => ?_
  subst he
  exact ⟨_, rfl, law_post laidOut rfl params5 rfl (tb := 4) (by kernel_rfl) (fun ds h => by
    match ds, h with
    | [_, _, _], _ => rfl) hW hg⟩

theorem over : Rows.replicaNobodyRow.holds Tryz.pinned (OpenSpec.ofChange Rows.replicaNobodySpec) :=
  OpenClaim.holds_of_wide 5 Tryz.f5 rfl rfl rfl rfl rfl rfl rfl ⟨rfl, rfl, rfl, rfl, rfl⟩ rfl rfl rfl rfl rfl (by kernel_rfl) Tryz.func5 facts
    (of_decide_eq_true (by kernel_rfl)) (by unfold Func.isWrapper; first | (rw [if_pos (by decide +kernel)]; kernel_rfl) | (rw [if_neg (by decide +kernel)]; exact ⟨rfl, rfl⟩))
    (fun os started H enc _ => lifted os started H enc)

theorem proved : Rows.ReplicaNobodySaid := over
end Go.Proofs.YtdjlpdboochkhaaGreat.replicaNobody
