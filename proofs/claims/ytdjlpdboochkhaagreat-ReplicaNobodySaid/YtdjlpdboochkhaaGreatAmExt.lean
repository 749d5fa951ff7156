/-
  The one function without a body that is reached: internal/bytealg.IndexByteString.
-/
import Derived.Test.YtdjlpdboochkhaaGreatAmFxRun
import Derived.Lib.Bytealg
set_option linter.unusedVariables false
namespace Go.AM

noncomputable def idxN (c : Nat) (s : List Nat) (i : Nat) : Int :=
  @List.rec Nat (fun _ => Nat → Int) (fun _ => -1) (fun b _ ih i => cond (Nat.beq b c) (Int.ofNat i) (ih (Nat.succ i))) s i
noncomputable def idxA (l : List AV) : Option AV := match l with
  | [.str s, .int .u8 (.ofNat c)] => cond (Nat.ble (Nat.succ c) 256) (some (.int .i64 (idxN c s 0))) none
  | _ => none

theorem idxN_eq (c : Nat) (hc : c < 256) : ∀ (l : List UInt8) (i : Nat), idxN c (l.map (·.toNat)) i = if Lib.indexByte l c.toUInt8 = -1 then -1 else Lib.indexByte l c.toUInt8 + i
  | [], i => by simp [Lib.indexByte, idxN]
  | b :: l, i => by
    show cond (Nat.beq b.toNat c) (Int.ofNat i) (idxN c (l.map (·.toNat)) (i + 1)) = _
    rw [idxN_eq c hc l (i + 1)]
    have hu : Lib.indexByte (b :: l) c.toUInt8 = if b == c.toUInt8 then 0 else if Lib.indexByte l c.toUInt8 == -1 then -1 else Lib.indexByte l c.toUInt8 + 1 := rfl
    have hcc : c.toUInt8.toNat = c := by simp; omega
    by_cases h : b.toNat = c
    · have hb : b = c.toUInt8 := UInt8.toNat_inj.1 (by rw [hcc, h])
      rw [nbeq.2 h]
      rw [hu, hb]
      simp
    · have hb : (b == c.toUInt8) = false := by rw [beq_eq_false_iff_ne]; intro e; subst e; exact h hcc
      rw [nbeqf.2 h, hu, hb]
      have := Lib.indexByte_ge l c.toUInt8
      simp only [cond_false, Bool.false_eq_true, if_false, beq_iff_eq]
      by_cases h1 : Lib.indexByte l c.toUInt8 = -1
      · simp [h1]
      · simp only [h1, if_false]
        rw [if_neg (by omega)]
        push_cast
        omega

theorem ext_index {P : Program} {f : Nat} {fn : Func} (hf : P.funcs[f]? = some fn) (hb : fn.body = none) (hn : (fn.name == "runtime.NumGoroutine") = false)
    (hx : Extern.findNext fn = none) (hi : Extern.find fn = some Extern.BytealgIndexByte.indexByte) {args : List AV} {v : AV} (h : idxA args = some v) {σ : Sg} {ac : Array Value} {w : World} (hl : VRs σ args ac.toList) :
    ∃ cv, VR σ v cv ∧ (callFunc f ac).run P w = .ok (.value cv) w := by
  unfold idxA at h
  split at h
  · rename_i s c
    obtain ⟨h1, h⟩ := cond_some h
    cases h
    have hc : c < 256 := nble.1 h1
    obtain ⟨v1, r1, e1, ⟨bs, rfl, hbs⟩, v2, r2, e2, e3, e4⟩ := hl
    have e3 : v2 = .int .u8 (.ofNat c) := e3
    have e4 : r2 = [] := e4
    subst e3 e4 e2
    have hac : ac = #[.string bs, .int .u8 (.ofNat c)] := by
      rw [← Array.toList_inj]; exact e1
    refine ⟨.int .i64 (idxN c s 0), rfl, ?_⟩
    subst hac
    unfold callFunc
    have hn' : fn.name ≠ "runtime.NumGoroutine" := by simpa using hn
    simp [hf, hb, hn', hx, hi]
    rw [Lib.run_indexByteString]
    have := idxN_eq c hc bs.data.toList 0
    rw [hbs] at this
    rw [this]
    have hge := Lib.indexByte_ge bs.data.toList c.toUInt8
    show Result.andThen (.ok (Value.int .i64 (Lib.indexByte bs.data.toList (Int.toNat (Int.ofNat c)).toUInt8)) w) _ = _
    have : (Int.toNat (Int.ofNat c)).toUInt8 = c.toUInt8 := rfl
    rw [this]
    split
    · rename_i h; rw [h]; rfl
    · simp [Result.andThen]
  · cases h

end Go.AM
