/-
  S23a: part of the proof.
-/
import Derived.Test.YtdjlpdboochkhaaGreatProg
import Derived.KernelRfl
import Derived.Test.YtdjlpdboochkhaaGreatAmBlake
import Derived.Test.YtdjlpdboochkhaaGreatAmExt
set_option linter.unusedVariables false
set_option maxRecDepth 100000
namespace Go.AM.S23
open Go Go.AM
abbrev n_pianolalaw23_lives : FuncId := 8
abbrev n_pianolalaw23_ReplicaNobody : FuncId := 5
noncomputable abbrev PP : Program := Go.Proofs.Tryz.prog
noncomputable def XX : Ext := fun f => @Bool.rec (fun _ => Option (List AV → Option AV)) none (some idxA) (Nat.beq f 233)
abbrev n_blake_stir : FuncId := 183
abbrev n_math_bits_RotateLeft32 : FuncId := 232
abbrev t_i64 : TypeId := 2
abbrev t_u64 : TypeId := 12
abbrev t_u32 : TypeId := 200
abbrev t_A16_u32 : TypeId := 281
/-! pianola/blake.stir -/
namespace blake_stir
abbrev fid : FuncId := n_blake_stir
noncomputable abbrev bd : Code := bodyOf PP fid
def T1 (a0 a1 a2 a3 a4 a5 a6 : AV) (H : Heap) (Q : HK) : Prop :=
  OS2 (xNil a0 H) fun a16 H =>
  OS2 (xIndexAddr PP t_A16_u32 a16 a1 H) fun a17 H =>
  OS2 (xLoad PP t_u32 a17 H) fun a18 H =>
  OS2 (xNil a0 H) fun a21 H =>
  OS2 (xIndexAddr PP t_A16_u32 a21 a2 H) fun a22 H =>
  OS2 (xLoad PP t_u32 a22 H) fun a23 H =>
  OS2 (xBin PP .add t_u32 a23 a5 H) fun a25 H =>
  OS2 (xBin PP .add t_u32 a18 a25 H) fun a26 H =>
  OS2 (xNil a0 H) fun a27 H =>
  OS2 (xIndexAddr PP t_A16_u32 a27 a1 H) fun a28 H =>
  OS2 (xStore PP t_u32 a28 a26 H) fun _ H =>
  OS2 (xNil a0 H) fun a33 H =>
  OS2 (xIndexAddr PP t_A16_u32 a33 a4 H) fun a34 H =>
  OS2 (xLoad PP t_u32 a34 H) fun a35 H =>
  OS2 (xNil a0 H) fun a38 H =>
  OS2 (xIndexAddr PP t_A16_u32 a38 a1 H) fun a39 H =>
  OS2 (xLoad PP t_u32 a39 H) fun a40 H =>
  OS2 (xBin PP .xor t_u32 a35 a40 H) fun a41 H =>
  WF PP XX (.func n_math_bits_RotateLeft32 [] []) [a41, (.int .i64 (-16))] H fun a42 H =>
  OS2 (xNil a0 H) fun a43 H =>
  OS2 (xIndexAddr PP t_A16_u32 a43 a4 H) fun a44 H =>
  OS2 (xStore PP t_u32 a44 a42 H) fun _ H =>
  OS2 (xNil a0 H) fun a47 H =>
  OS2 (xIndexAddr PP t_A16_u32 a47 a3 H) fun a48 H =>
  OS2 (xLoad PP t_u32 a48 H) fun a49 H =>
  OS2 (xNil a0 H) fun a52 H =>
  OS2 (xIndexAddr PP t_A16_u32 a52 a4 H) fun a53 H =>
  OS2 (xLoad PP t_u32 a53 H) fun a54 H =>
  OS2 (xBin PP .add t_u32 a49 a54 H) fun a55 H =>
  OS2 (xNil a0 H) fun a56 H =>
  OS2 (xIndexAddr PP t_A16_u32 a56 a3 H) fun a57 H =>
  OS2 (xStore PP t_u32 a57 a55 H) fun _ H =>
  OS2 (xNil a0 H) fun a62 H =>
  OS2 (xIndexAddr PP t_A16_u32 a62 a2 H) fun a63 H =>
  OS2 (xLoad PP t_u32 a63 H) fun a64 H =>
  OS2 (xNil a0 H) fun a67 H =>
  OS2 (xIndexAddr PP t_A16_u32 a67 a3 H) fun a68 H =>
  OS2 (xLoad PP t_u32 a68 H) fun a69 H =>
  OS2 (xBin PP .xor t_u32 a64 a69 H) fun a70 H =>
  WF PP XX (.func n_math_bits_RotateLeft32 [] []) [a70, (.int .i64 (-12))] H fun a71 H =>
  OS2 (xNil a0 H) fun a72 H =>
  OS2 (xIndexAddr PP t_A16_u32 a72 a2 H) fun a73 H =>
  OS2 (xStore PP t_u32 a73 a71 H) fun _ H =>
  OS2 (xNil a0 H) fun a76 H =>
  OS2 (xIndexAddr PP t_A16_u32 a76 a1 H) fun a77 H =>
  OS2 (xLoad PP t_u32 a77 H) fun a78 H =>
  OS2 (xNil a0 H) fun a81 H =>
  OS2 (xIndexAddr PP t_A16_u32 a81 a2 H) fun a82 H =>
  OS2 (xLoad PP t_u32 a82 H) fun a83 H =>
  OS2 (xBin PP .add t_u32 a83 a6 H) fun a85 H =>
  OS2 (xBin PP .add t_u32 a78 a85 H) fun a86 H =>
  OS2 (xNil a0 H) fun a87 H =>
  OS2 (xIndexAddr PP t_A16_u32 a87 a1 H) fun a88 H =>
  OS2 (xStore PP t_u32 a88 a86 H) fun _ H =>
  OS2 (xNil a0 H) fun a93 H =>
  OS2 (xIndexAddr PP t_A16_u32 a93 a4 H) fun a94 H =>
  OS2 (xLoad PP t_u32 a94 H) fun a95 H =>
  OS2 (xNil a0 H) fun a98 H =>
  OS2 (xIndexAddr PP t_A16_u32 a98 a1 H) fun a99 H =>
  OS2 (xLoad PP t_u32 a99 H) fun a100 H =>
  OS2 (xBin PP .xor t_u32 a95 a100 H) fun a101 H =>
  WF PP XX (.func n_math_bits_RotateLeft32 [] []) [a101, (.int .i64 (-8))] H fun a102 H =>
  OS2 (xNil a0 H) fun a103 H =>
  OS2 (xIndexAddr PP t_A16_u32 a103 a4 H) fun a104 H =>
  OS2 (xStore PP t_u32 a104 a102 H) fun _ H =>
  OS2 (xNil a0 H) fun a107 H =>
  OS2 (xIndexAddr PP t_A16_u32 a107 a3 H) fun a108 H =>
  OS2 (xLoad PP t_u32 a108 H) fun a109 H =>
  OS2 (xNil a0 H) fun a112 H =>
  OS2 (xIndexAddr PP t_A16_u32 a112 a4 H) fun a113 H =>
  OS2 (xLoad PP t_u32 a113 H) fun a114 H =>
  OS2 (xBin PP .add t_u32 a109 a114 H) fun a115 H =>
  OS2 (xNil a0 H) fun a116 H =>
  OS2 (xIndexAddr PP t_A16_u32 a116 a3 H) fun a117 H =>
  OS2 (xStore PP t_u32 a117 a115 H) fun _ H =>
  OS2 (xNil a0 H) fun a122 H =>
  OS2 (xIndexAddr PP t_A16_u32 a122 a2 H) fun a123 H =>
  OS2 (xLoad PP t_u32 a123 H) fun a124 H =>
  OS2 (xNil a0 H) fun a127 H =>
  OS2 (xIndexAddr PP t_A16_u32 a127 a3 H) fun a128 H =>
  OS2 (xLoad PP t_u32 a128 H) fun a129 H =>
  OS2 (xBin PP .xor t_u32 a124 a129 H) fun a130 H =>
  WF PP XX (.func n_math_bits_RotateLeft32 [] []) [a130, (.int .i64 (-7))] H fun a131 H =>
  OS2 (xNil a0 H) fun a132 H =>
  OS2 (xIndexAddr PP t_A16_u32 a132 a2 H) fun a133 H =>
  OS2 (xStore PP t_u32 a133 a131 H) fun _ H =>
  Q (.tup []) H
theorem L1 (Q : HK) (f : FrF) (H : Heap) : runI PP XX [.code bd] (endS PP (resOf PP fid) Q) nk (endS PP (resOf PP fid) Q) f H = T1 (f 0) (f 1) (f 2) (f 3) (f 4) (f 5) (f 6) H Q := by kernel_rfl
/-- What blake_stir does. -/
def go (a0 a1 a2 a3 a4 a5 a6 : AV) (H : Heap) (Q : HK) : Prop := T1 a0 a1 a2 a3 a4 a5 a6 H Q
theorem okf : okF PP fid = true := by kernel_rfl
theorem ev (a0 a1 a2 a3 a4 a5 a6 : AV) (H : Heap) (Q : HK) : evP PP XX bd (endS PP (resOf PP fid) Q) nk (endS PP (resOf PP fid) Q) (frF [a0, a1, a2, a3, a4, a5, a6]) H = go a0 a1 a2 a3 a4 a5 a6 H Q :=
  Eq.trans (b := runI PP XX [.code bd] (endS PP (resOf PP fid) Q) nk (endS PP (resOf PP fid) Q) (frF [a0, a1, a2, a3, a4, a5, a6]) H) (by kernel_rfl) (Eq.trans (L1 Q (frF [a0, a1, a2, a3, a4, a5, a6]) H) (by kernel_rfl))
theorem wf (a0 a1 a2 a3 a4 a5 a6 : AV) (H : Heap) (Q : HK) (h : go a0 a1 a2 a3 a4 a5 a6 H Q) {first cap args : List AV} (e : first ++ args ++ cap = [a0, a1, a2, a3, a4, a5, a6]) : WF PP XX (.func fid first cap) args H Q :=
  WF_fn (by kernel_rfl) okf (by rw [e]; kernel_rfl) (by rw [e, ev]; exact h)
end blake_stir
/-! math/bits.RotateLeft32 -/
namespace math_bits_RotateLeft32
abbrev fid : FuncId := n_math_bits_RotateLeft32
noncomputable abbrev bd : Code := bodyOf PP fid
def T1 (a0 a1 : AV) (H : Heap) (Q : HK) : Prop :=
  OS2 (xConv PP t_i64 t_u64 a1 H) fun a7 H =>
  OS2 (xBin PP .and t_u64 a7 (.int .u64 31) H) fun a8 H =>
  OS2 (xBin PP .shl t_u32 a0 a8 H) fun a11 H =>
  OS2 (xBin PP .sub t_u64 (.int .u64 32) a8 H) fun a14 H =>
  OS2 (xBin PP .shr t_u32 a0 a14 H) fun a15 H =>
  OS2 (xBin PP .or t_u32 a11 a15 H) fun a16 H =>
  Q a16 H
theorem L1 (Q : HK) (f : FrF) (H : Heap) : runI PP XX [.code bd] (endS PP (resOf PP fid) Q) nk (endS PP (resOf PP fid) Q) f H = T1 (f 0) (f 1) H Q := by kernel_rfl
/-- What math_bits_RotateLeft32 does. -/
def go (a0 a1 : AV) (H : Heap) (Q : HK) : Prop := T1 a0 a1 H Q
theorem okf : okF PP fid = true := by kernel_rfl
theorem ev (a0 a1 : AV) (H : Heap) (Q : HK) : evP PP XX bd (endS PP (resOf PP fid) Q) nk (endS PP (resOf PP fid) Q) (frF [a0, a1]) H = go a0 a1 H Q :=
  Eq.trans (b := runI PP XX [.code bd] (endS PP (resOf PP fid) Q) nk (endS PP (resOf PP fid) Q) (frF [a0, a1]) H) (by kernel_rfl) (Eq.trans (L1 Q (frF [a0, a1]) H) (by kernel_rfl))
theorem wf (a0 a1 : AV) (H : Heap) (Q : HK) (h : go a0 a1 H Q) {first cap args : List AV} (e : first ++ args ++ cap = [a0, a1]) : WF PP XX (.func fid first cap) args H Q :=
  WF_fn (by kernel_rfl) okf (by rw [e]; kernel_rfl) (by rw [e, ev]; exact h)
end math_bits_RotateLeft32

theorem rot16 {a : Nat} (ha : a ≤ 4294967295) (H : Heap) (Q : HK) (h : Q (u32V (rotW 16 a)) H) : WF PP XX (.func n_math_bits_RotateLeft32 [] []) [u32V a, .int .i64 (-16)] H Q := by
  refine math_bits_RotateLeft32.wf (u32V a) (.int .i64 (-16)) H Q ?_ rfl
  have e1 : xConv PP t_i64 t_u64 (.int .i64 (-16)) H = some (.int .u64 (.ofNat 18446744073709551600), H) := by kernel_rfl
  have e2 : xBin PP .and t_u64 (.int .u64 (.ofNat 18446744073709551600)) (.int .u64 31) H = some (.int .u64 (.ofNat 16), H) := by kernel_rfl
  have e4 : xBin PP .sub t_u64 (.int .u64 32) (.int .u64 (.ofNat 16)) H = some (.int .u64 (.ofNat 16), H) := by kernel_rfl
  unfold math_bits_RotateLeft32.go math_bits_RotateLeft32.T1
  rw [e1, OS2_some, e2, OS2_some, shlW_ok a 16 (by decide), OS2_some, e4, OS2_some, shrW_ok a 16 (by decide), OS2_some, show (16 : Nat) = Nat.sub 32 16 from rfl, orW_ok ha (by decide), OS2_some]
  exact h

theorem rot12 {a : Nat} (ha : a ≤ 4294967295) (H : Heap) (Q : HK) (h : Q (u32V (rotW 20 a)) H) : WF PP XX (.func n_math_bits_RotateLeft32 [] []) [u32V a, .int .i64 (-12)] H Q := by
  refine math_bits_RotateLeft32.wf (u32V a) (.int .i64 (-12)) H Q ?_ rfl
  have e1 : xConv PP t_i64 t_u64 (.int .i64 (-12)) H = some (.int .u64 (.ofNat 18446744073709551604), H) := by kernel_rfl
  have e2 : xBin PP .and t_u64 (.int .u64 (.ofNat 18446744073709551604)) (.int .u64 31) H = some (.int .u64 (.ofNat 20), H) := by kernel_rfl
  have e4 : xBin PP .sub t_u64 (.int .u64 32) (.int .u64 (.ofNat 20)) H = some (.int .u64 (.ofNat 12), H) := by kernel_rfl
  unfold math_bits_RotateLeft32.go math_bits_RotateLeft32.T1
  rw [e1, OS2_some, e2, OS2_some, shlW_ok a 20 (by decide), OS2_some, e4, OS2_some, shrW_ok a 12 (by decide), OS2_some, show (12 : Nat) = Nat.sub 32 20 from rfl, orW_ok ha (by decide), OS2_some]
  exact h

theorem rot8 {a : Nat} (ha : a ≤ 4294967295) (H : Heap) (Q : HK) (h : Q (u32V (rotW 24 a)) H) : WF PP XX (.func n_math_bits_RotateLeft32 [] []) [u32V a, .int .i64 (-8)] H Q := by
  refine math_bits_RotateLeft32.wf (u32V a) (.int .i64 (-8)) H Q ?_ rfl
  have e1 : xConv PP t_i64 t_u64 (.int .i64 (-8)) H = some (.int .u64 (.ofNat 18446744073709551608), H) := by kernel_rfl
  have e2 : xBin PP .and t_u64 (.int .u64 (.ofNat 18446744073709551608)) (.int .u64 31) H = some (.int .u64 (.ofNat 24), H) := by kernel_rfl
  have e4 : xBin PP .sub t_u64 (.int .u64 32) (.int .u64 (.ofNat 24)) H = some (.int .u64 (.ofNat 8), H) := by kernel_rfl
  unfold math_bits_RotateLeft32.go math_bits_RotateLeft32.T1
  rw [e1, OS2_some, e2, OS2_some, shlW_ok a 24 (by decide), OS2_some, e4, OS2_some, shrW_ok a 8 (by decide), OS2_some, show (8 : Nat) = Nat.sub 32 24 from rfl, orW_ok ha (by decide), OS2_some]
  exact h

theorem rot7 {a : Nat} (ha : a ≤ 4294967295) (H : Heap) (Q : HK) (h : Q (u32V (rotW 25 a)) H) : WF PP XX (.func n_math_bits_RotateLeft32 [] []) [u32V a, .int .i64 (-7)] H Q := by
  refine math_bits_RotateLeft32.wf (u32V a) (.int .i64 (-7)) H Q ?_ rfl
  have e1 : xConv PP t_i64 t_u64 (.int .i64 (-7)) H = some (.int .u64 (.ofNat 18446744073709551609), H) := by kernel_rfl
  have e2 : xBin PP .and t_u64 (.int .u64 (.ofNat 18446744073709551609)) (.int .u64 31) H = some (.int .u64 (.ofNat 25), H) := by kernel_rfl
  have e4 : xBin PP .sub t_u64 (.int .u64 32) (.int .u64 (.ofNat 25)) H = some (.int .u64 (.ofNat 7), H) := by kernel_rfl
  unfold math_bits_RotateLeft32.go math_bits_RotateLeft32.T1
  rw [e1, OS2_some, e2, OS2_some, shlW_ok a 25 (by decide), OS2_some, e4, OS2_some, shrW_ok a 7 (by decide), OS2_some, show (7 : Nat) = Nat.sub 32 25 from rfl, orW_ok ha (by decide), OS2_some]
  exact h

theorem wordT : WordT PP t_A16_u32 t_u32 := ⟨by kernel_rfl, by kernel_rfl, by kernel_rfl⟩

theorem stir_wf {l : List AV} {H H' : Heap} {v : AV} (h : gStir l H = some (v, H')) : WF PP XX (.func n_blake_stir [] []) l H fun w K => w = v ∧ K = H' := by
  unfold gStir at h
  split at h
  · rename_i p a b c d x y
    obtain ⟨nx, rfl, hx, h⟩ := asU_some h
    obtain ⟨ny, rfl, hy, h⟩ := asU_some h
    refine blake_stir.wf p a b c d _ _ H _ ?_ rfl
    unfold blake_stir.go blake_stir.T1
    obtain ⟨va, hva, h, k⟩ := rdW_ok wordT h
    refine k _ ?_
    clear k
    obtain ⟨vb, hvb, h, k⟩ := rdW_ok wordT h
    refine k _ ?_
    clear k
    rw [show AV.int .u32 (.ofNat nx) = u32V nx from rfl, addW_ok, OS2_some, addW_ok, OS2_some]
    obtain ⟨H1, h, k⟩ := wrW_ok wordT h
    refine k _ ?_
    clear k
    obtain ⟨vd, hvd, h, k⟩ := rdW_ok wordT h
    refine k _ ?_
    clear k
    obtain ⟨va, hva, h, k⟩ := rdW_ok wordT h
    refine k _ ?_
    clear k
    rw [xorW_ok hvd hva, OS2_some]
    refine rot16 (xor_le hvd hva) _ _ ?_
    obtain ⟨H1, h, k⟩ := wrW_ok wordT h
    refine k _ ?_
    clear k
    obtain ⟨vc, hvc, h, k⟩ := rdW_ok wordT h
    refine k _ ?_
    clear k
    obtain ⟨vd, hvd, h, k⟩ := rdW_ok wordT h
    refine k _ ?_
    clear k
    rw [addW_ok, OS2_some]
    obtain ⟨H1, h, k⟩ := wrW_ok wordT h
    refine k _ ?_
    clear k
    obtain ⟨vb, hvb, h, k⟩ := rdW_ok wordT h
    refine k _ ?_
    clear k
    obtain ⟨vc, hvc, h, k⟩ := rdW_ok wordT h
    refine k _ ?_
    clear k
    rw [xorW_ok hvb hvc, OS2_some]
    refine rot12 (xor_le hvb hvc) _ _ ?_
    obtain ⟨H1, h, k⟩ := wrW_ok wordT h
    refine k _ ?_
    clear k
    obtain ⟨va, hva, h, k⟩ := rdW_ok wordT h
    refine k _ ?_
    clear k
    obtain ⟨vb, hvb, h, k⟩ := rdW_ok wordT h
    refine k _ ?_
    clear k
    rw [show AV.int .u32 (.ofNat ny) = u32V ny from rfl, addW_ok, OS2_some, addW_ok, OS2_some]
    obtain ⟨H1, h, k⟩ := wrW_ok wordT h
    refine k _ ?_
    clear k
    obtain ⟨vd, hvd, h, k⟩ := rdW_ok wordT h
    refine k _ ?_
    clear k
    obtain ⟨va, hva, h, k⟩ := rdW_ok wordT h
    refine k _ ?_
    clear k
    rw [xorW_ok hvd hva, OS2_some]
    refine rot8 (xor_le hvd hva) _ _ ?_
    obtain ⟨H1, h, k⟩ := wrW_ok wordT h
    refine k _ ?_
    clear k
    obtain ⟨vc, hvc, h, k⟩ := rdW_ok wordT h
    refine k _ ?_
    clear k
    obtain ⟨vd, hvd, h, k⟩ := rdW_ok wordT h
    refine k _ ?_
    clear k
    rw [addW_ok, OS2_some]
    obtain ⟨H1, h, k⟩ := wrW_ok wordT h
    refine k _ ?_
    clear k
    obtain ⟨vb, hvb, h, k⟩ := rdW_ok wordT h
    refine k _ ?_
    clear k
    obtain ⟨vc, hvc, h, k⟩ := rdW_ok wordT h
    refine k _ ?_
    clear k
    rw [xorW_ok hvb hvc, OS2_some]
    refine rot7 (xor_le hvb hvc) _ _ ?_
    obtain ⟨H1, h, k⟩ := wrW_ok wordT h
    refine k _ ?_
    clear k
    cases h
    exact ⟨rfl, rfl⟩
  · cases h

noncomputable def YY : Sums := fun f => @Bool.rec (fun _ => Option (List AV → Heap → R)) none (some gStir) (Nat.beq f n_blake_stir)
theorem yok : YOk PP XX YY := by
  intro f g hf args H v H' h
  unfold YY at hf
  cases hb : Nat.beq f n_blake_stir with
  | false => rw [hb] at hf; cases hf
  | true =>
    rw [hb] at hf
    cases hf
    have := nbeq.1 hb
    subst this
    obtain ⟨w, K, h1, rfl, rfl⟩ := stir_wf h
    exact h1
end Go.AM.S23
