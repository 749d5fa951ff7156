/-
  What the abstract machine's operations say of the model's: append, copy, clear.
-/
import Derived.Test.YtdjlpdboochkhaaGreatAmMap
set_option linter.unusedVariables false
namespace Go.AM
open Go.RowKit

variable {P : Program} {B : Nat} {w0 w : World} {σ : Sg} {H : Heap}

/-- How many elements are appended, and their cells: of a value of the second argument's type. -/
def srcLen (zeros : Bool) (x : Value) : Sem Nat := if zeros then do
    let l := IntKind.i64.wrap (← asInt x)
    pure l.toNat
  else Builtin.lenOf x

theorem append_room {t u ty elem : TypeId} {i : TypeInfo} {d : TypeDesc} {n : Nat} {a : Addr} {sLen sCap : Nat} {x : Value} {arr : Array Value} {w' : World} (hu : P.underlying t = some (.slice elem)) (hi : P.info? elem = some i)
    (hd : P.underlying u = some d) (hdi : zeroD d = some false) (hl : (Builtin.lenOf x).run P w = .ok n w) (hf : (Builtin.firstCells i.size n x).run P w = .ok arr w) (hroom : sLen + n ≤ sCap)
    (hst : (storeCells (a.add (sLen * i.size)) arr.toList).run P w = .ok () w') :
    (Builtin.append_ #[t, u] ty #[.slice (some a) sLen sCap, x]).run P w = .ok (.slice (some a) (sLen + n) sCap) w' := by
  cases d <;> try (cases hdi; done)
  · simp [Builtin.append_, run_underlying hu, run_underlying hd, sizeOf, typeInfo, hi, hl, hroom, hf, hst]
  · simp [Builtin.append_, run_underlying hu, run_underlying hd, sizeOf, typeInfo, hi, hl, hroom, hf, hst]

theorem append_nil0 {t u ty elem : TypeId} {i : TypeInfo} {d : TypeDesc} {x : Value} {arr : Array Value} (hu : P.underlying t = some (.slice elem)) (hi : P.info? elem = some i)
    (hd : P.underlying u = some d) (hdi : zeroD d = some false) (hl : (Builtin.lenOf x).run P w = .ok 0 w) (hf : (Builtin.firstCells i.size 0 x).run P w = .ok arr w) :
    (Builtin.append_ #[t, u] ty #[.slice none 0 0, x]).run P w = .ok (.slice none 0 0) w := by
  cases d <;> try (cases hdi; done)
  · simp [Builtin.append_, run_underlying hu, run_underlying hd, sizeOf, typeInfo, hi, hl, hf]
  · simp [Builtin.append_, run_underlying hu, run_underlying hd, sizeOf, typeInfo, hi, hl, hf]

theorem append_grow {t u ty elem : TypeId} {i : TypeInfo} {d : TypeDesc} {n : Nat} {base : Option Addr} {sLen sCap : Nat} {x z : Value} {old arr : Array Value} (hu : P.underlying t = some (.slice elem)) (hi : P.info? elem = some i)
    (hd : P.underlying u = some d) (hdi : zeroD d = some false) (hl : (Builtin.lenOf x).run P w = .ok n w) (hf : (Builtin.firstCells i.size n x).run P w.drew = .ok arr w.drew) (hroom : ¬ sLen + n ≤ sCap)
    (hold : (Builtin.firstCells i.size sLen (.slice base sLen sCap)).run P w.drew = .ok old w.drew) (hz : i.zero = some z) (hsmall : ((sLen + n : Nat) : Int) ≤ IntKind.i64.max) (hfit : Builtin.nextslicecap (sLen + n) sCap * i.bytes ≤ 281474976710656) :
    (Builtin.append_ #[t, u] ty #[.slice base sLen sCap, x]).run P w =
      .ok (.slice (some ⟨w.heap.size, 0, none⟩) (sLen + n) (grownCap w (sLen + n) sCap elem)) (w.drew.alloc (.cells (old ++ arr ++ Builtin.zeroCells z.cells (grownCap w (sLen + n) sCap elem - (sLen + n))) elem)) := by
  have hm : IntKind.i64.max = 9223372036854775807 := rfl
  have h63' : ¬ (9223372036854775807 < ((sLen : Int) + (n : Int))) := by omega
  have h48' : ¬ (281474976710656 < Builtin.nextslicecap (sLen + n) sCap * i.bytes) := by omega
  cases d <;> try (cases hdi; done)
  · simp [Builtin.append_, run_underlying hu, run_underlying hd, sizeOf, typeInfo, zeroValue, hi, hz, hl, hroom, h63', h48', Question.forced, hold, hf, newRow, grownCap]
  · simp [Builtin.append_, run_underlying hu, run_underlying hd, sizeOf, typeInfo, zeroValue, hi, hz, hl, hroom, h63', h48', Question.forced, hold, hf, newRow, grownCap]

/-! ### append(s, make([]T, n)...) -/

theorem appendz_room {t u ty elem : TypeId} {i : TypeInfo} {k k' : IntKind} {n : Nat} {a : Addr} {sLen sCap : Nat} {z : Value} {w' : World} (hu : P.underlying t = some (.slice elem)) (hi : P.info? elem = some i)
    (hd : P.underlying u = some (.int k)) (hz : i.zero = some z) (hn : n ≤ 1048576) (hby : (n : Int) * i.bytes ≤ 281474976710656) (h0 : n * i.size ≠ 0) (hroom : sLen + n ≤ sCap)
    (hst : (storeCells (a.add (sLen * i.size)) (Builtin.zeroCells z.cells n).toList).run P w = .ok () w') :
    (Builtin.append_ #[t, u] ty #[.slice (some a) sLen sCap, .int k' n]).run P w = .ok (.slice (some a) (sLen + n) sCap) w' := by
  have hw : IntKind.i64.wrap (n : Int) = n := wrap64_small (by omega)
  have h1 : ¬ ((n : Int) < 0) := by omega
  have h2 : ¬ (281474976710656 < (n : Int) * i.bytes) := by omega
  simp [Builtin.append_, run_underlying hu, run_underlying hd, sizeOf, typeInfo, zeroValue, hi, hz, asInt, asIntOf, hw, h1, h2, hroom, h0, hst]

theorem appendz_grow {t u ty elem : TypeId} {i : TypeInfo} {k k' : IntKind} {n : Nat} {base : Option Addr} {sLen sCap : Nat} {z : Value} {old : Array Value} (hu : P.underlying t = some (.slice elem)) (hi : P.info? elem = some i)
    (hd : P.underlying u = some (.int k)) (hz : i.zero = some z) (hn : n ≤ 1048576) (hby : (n : Int) * i.bytes ≤ 281474976710656) (h0 : n * i.size ≠ 0) (hroom : ¬ sLen + n ≤ sCap)
    (hold : (Builtin.firstCells i.size sLen (.slice base sLen sCap)).run P w.drew = .ok old w.drew) (hsmall : ((sLen + n : Nat) : Int) ≤ IntKind.i64.max) (hfit : Builtin.nextslicecap (sLen + n) sCap * i.bytes ≤ 281474976710656) :
    (Builtin.append_ #[t, u] ty #[.slice base sLen sCap, .int k' n]).run P w =
      .ok (.slice (some ⟨w.heap.size, 0, none⟩) (sLen + n) (grownCap w (sLen + n) sCap elem)) (w.drew.alloc (.cells (old ++ Builtin.zeroCells z.cells n ++ Builtin.zeroCells z.cells (grownCap w (sLen + n) sCap elem - (sLen + n))) elem)) := by
  have hm : IntKind.i64.max = 9223372036854775807 := rfl
  have h63' : ¬ (9223372036854775807 < ((sLen : Int) + (n : Int))) := by omega
  have h48' : ¬ (281474976710656 < Builtin.nextslicecap (sLen + n) sCap * i.bytes) := by omega
  have hw : IntKind.i64.wrap (n : Int) = n := wrap64_small (by omega)
  have h1 : ¬ ((n : Int) < 0) := by omega
  have h2 : ¬ (281474976710656 < (n : Int) * i.bytes) := by omega
  simp [Builtin.append_, run_underlying hu, run_underlying hd, sizeOf, typeInfo, zeroValue, hi, hz, asInt, asIntOf, hw, h1, h2, hroom, h0, h63', h48', Question.forced, hold, newRow, grownCap]

/-! ### What is appended -/

/-- A value's elements, as append takes them over a world. -/
structure Src (P : Program) (t u elem : TypeId) (i : TypeInfo) (z x : Value) (n : Nat) (arr : Array Value) (w : World) : Prop where
  room : ∀ ty a sLen sCap w', sLen + n ≤ sCap → (storeCells (a.add (sLen * i.size)) arr.toList).run P w = .ok () w' → (Builtin.append_ #[t, u] ty #[.slice (some a) sLen sCap, x]).run P w = .ok (.slice (some a) (sLen + n) sCap) w'
  nil0 : ∀ ty, n = 0 → (Builtin.append_ #[t, u] ty #[.slice none 0 0, x]).run P w = .ok (.slice none 0 0) w
  grow : ∀ ty base sLen sCap old, ¬ sLen + n ≤ sCap → (Builtin.firstCells i.size sLen (.slice base sLen sCap)).run P w.drew = .ok old w.drew → ((sLen + n : Nat) : Int) ≤ IntKind.i64.max → Builtin.nextslicecap (sLen + n) sCap * i.bytes ≤ 281474976710656 →
    (Builtin.append_ #[t, u] ty #[.slice base sLen sCap, x]).run P w =
      .ok (.slice (some ⟨w.heap.size, 0, none⟩) (sLen + n) (grownCap w (sLen + n) sCap elem)) (w.drew.alloc (.cells (old ++ arr ++ Builtin.zeroCells z.cells (grownCap w (sLen + n) sCap elem - (sLen + n))) elem))

theorem Src.plain {t u elem : TypeId} {i : TypeInfo} {d : TypeDesc} {n : Nat} {x z : Value} {arr : Array Value} (hu : P.underlying t = some (.slice elem)) (hi : P.info? elem = some i) (hz : i.zero = some z)
    (hd : P.underlying u = some d) (hdi : zeroD d = some false) (hl : (Builtin.lenOf x).run P w = .ok n w) (hf : ∀ w2, w2.heap = w.heap → (Builtin.firstCells i.size n x).run P w2 = .ok arr w2) : Src P t u elem i z x n arr w where
  room ty a sLen sCap w' hr hst := append_room hu hi hd hdi hl (hf w rfl) hr hst
  nil0 ty hn := by subst hn; exact append_nil0 hu hi hd hdi hl (hf w rfl)
  grow ty base sLen sCap old hr ho hs hfit := append_grow hu hi hd hdi hl (hf w.drew rfl) hr ho hz hs hfit

theorem Src.zeros {t u elem : TypeId} {i : TypeInfo} {k k' : IntKind} {n : Nat} {z : Value} (hu : P.underlying t = some (.slice elem)) (hi : P.info? elem = some i) (hz : i.zero = some z)
    (hd : P.underlying u = some (.int k)) (hn : n ≤ 1048576) (hby : (n : Int) * i.bytes ≤ 281474976710656) (h0 : n * i.size ≠ 0) (hn0 : n ≠ 0) : Src P t u elem i z (.int k' n) n (Builtin.zeroCells z.cells n) w where
  room ty a sLen sCap w' hr hst := appendz_room hu hi hd hz hn hby h0 hr hst
  nil0 ty h := absurd h hn0
  grow ty base sLen sCap old hr ho hs hfit := appendz_grow hu hi hd hz hn hby h0 hr ho hs hfit

theorem zeroCells_VRs {z : AV} {zv : Value} (h : VR σ z zv) (n : Nat) (hs : 0 < zv.cells.size) : VRs σ (repl n z.cells) (Builtin.zeroCells zv.cells n).toList := by
  rw [repl_eq]
  have h1 : (Builtin.zeroCells zv.cells n).toList = (List.replicate n zv.cells.toList).flatten := flatten_zero zv.cells n hs
  rw [h1]
  exact h.cells.flatten_replicate n

theorem smallB_some {n b : Nat} {α : Type} {k : Option α} {r : α} (h : smallB n b k = some r) : n * (b + 1) ≤ 1099511627776 ∧ k = some r := by
  obtain ⟨h1, g⟩ := cond_some h
  exact ⟨nble.1 h1, g⟩

theorem firstCells_slice {size n : Nat} {ad : Addr} {len cap : Nat} : Builtin.firstCells size n (.slice (some ad) len cap) = loadCells ad (n * size) := rfl

theorem appended_run {t u elem : TypeId} {ud : TypeDesc} {i : TypeInfo} {size b : Nat} {zeros : Bool} {x : AV} {xc zv : Value} {za : AV} {α : Type} {k : Nat → List AV → Option α} {r : α} (hc : Conc B w0 σ H w)
    (hu : P.underlying t = some (.slice elem)) (hi : P.info? elem = some i) (hsz : i.size = size) (hby : i.bytes = b) (hz : i.zero = some zv) (hza : zeroOf P elem = some za) (hzv : VR σ za zv) (hzl : za.cells.length = size) (hs0 : size ≠ 0)
    (hd : P.underlying u = some ud) (hzd : zeroD ud = some zeros) (hx : VR σ x xc) (h : appended P H elem size b zeros x k = some r) :
    ∃ n new arr, k n new = some r ∧ VRs σ new arr.toList ∧ Src P t u elem i zv xc n arr w := by
  have slices : ∀ id off len, ((∃ cap, x = .slice id off len cap) ∨ x = .oslice id off len) → cond zeros none ((loadN H id off (len * size)).bind fun cs => k len cs) = some r →
      ∃ n new arr, k n new = some r ∧ VRs σ new arr.toList ∧ Src P t u elem i zv xc n arr w := by
    intro id off len hs g
    obtain ⟨hzf, g⟩ := cond_none g
    subst hzf
    obtain ⟨cs, hcs, g⟩ := bnd g
    obtain ⟨p, ad, cap, hp, hle, rfl, had, _⟩ := sl_VR hs hx
    obtain ⟨arr, h1, h2, h3⟩ := loadN_run (P := P) hc.rd hp hcs
    refine ⟨len, cs, arr, g, h2, Src.plain hu hi hz hd hzd (by simp [Builtin.lenOf]) fun w2 hw2 => ?_⟩
    rw [firstCells_slice, hsz]
    by_cases h0 : 0 < len
    · rw [had h0]; exact h1 w2 hw2
    · have : len = 0 := by omega
      subst this
      have h4 := h1 w2 hw2
      simp only [Nat.zero_mul] at h4 ⊢
      have e1 : (loadCells (p.at off) 0).run P w2 = .ok #[] w2 := by simp [loadCells, loadCellsFrom]
      rw [e1] at h4
      injection h4 with h5 _
      subst h5
      simp [loadCells, loadCellsFrom]
  cases x with
  | slice id off len cap => exact slices id off len (.inl ⟨cap, rfl⟩) h
  | oslice id off len => exact slices id off len (.inr rfl) h
  | nils =>
    obtain ⟨hzf, g⟩ := cond_none (b := zeros) h
    subst hzf
    cases hx
    exact ⟨0, [], #[], g, rfl, Src.plain hu hi hz hd hzd (by simp [Builtin.lenOf]) fun w2 _ => by simp [Builtin.firstCells]⟩
  | str s =>
    obtain ⟨hzf, g⟩ := cond_none (b := zeros) h
    subst hzf
    obtain ⟨h1, g⟩ := cond_some g
    obtain ⟨bs, rfl, rfl⟩ := hx
    have hlen : llen (bs.data.toList.map (·.toNat)) = bs.size := by rw [llen_eq, List.length_map]; rfl
    rw [hlen, bytesCells_eq] at g
    refine ⟨bs.size, _, bs.data.map fun (b : UInt8) => Value.int .u8 b.toNat, g, by simpa using VRs.bytes bs.data.toList, Src.plain hu hi hz hd hzd (by simp [Builtin.lenOf]) fun w2 _ => ?_⟩
    have hext : bs.extract 0 bs.size = bs := by
      simp
    simp only [Builtin.firstCells, hext, Sem.run_pure]
  | int k' n0 =>
    have h : cond zeros (natOf (some n0) 0 fun n => cond (Nat.ble n 1048576) (cond (Nat.beq n 0) none (smallB n b (zerosN P elem size n fun cs => k n cs))) none) none = some r := h
    obtain ⟨hzf, g⟩ := cond_some h
    subst hzf
    obtain ⟨n, hn, g1, _⟩ := natOf_some g
    have hn : n0 = n := hn
    subst hn
    obtain ⟨h1, g2⟩ := cond_some g1
    obtain ⟨h2, g3⟩ := cond_none g2
    obtain ⟨h3, g4⟩ := smallB_some g3
    have h1 := nble.1 h1
    have h2 := nbeqf.1 h2
    obtain ⟨za', hza', g5⟩ := bnd g4
    rw [hza] at hza'
    cases hza'
    obtain ⟨h4, g6⟩ := cond_some g5
    cases hx
    cases ud <;> try (cases hzd; done)
    rename_i kd
    have hzs : zv.cells.size = size := by have := hzv.cells.length; simp only [Array.length_toList] at this; omega
    have hnb : n * b ≤ 1099511627776 := by
      have : n * b ≤ n * (b + 1) := Nat.mul_le_mul_left _ (by omega)
      omega
    refine ⟨n, _, Builtin.zeroCells zv.cells n, g6, zeroCells_VRs hzv n (by omega), Src.zeros hu hi hz hd h1 ?_ ?_ h2⟩
    · rw [hby, ← Int.natCast_mul]; omega
    · rw [hsz]; exact Nat.mul_ne_zero h2 hs0
  | _ => cases h

/-! ### Where a row goes on -/

/-- An object is dead, and another one names its block. -/
theorem Conc.move (hc : Conc B w0 σ H w) {id : Nat} {p p' : Pl} {o : AObj} {w' : World} (hp : σ id = some p) (hlive : live H id) (hpb : p'.b = p.b)
    (hsz : w'.heap.size = w.heap.size) (hoth : ∀ b, b ≠ p.b → w'.heap[b]? = w.heap[b]?) (hb : Below B w w') (ho : OR (σ.add H.next p') w' p' o) (hm : o.mine := by intro _ _ _ _ e; first | (cases e; done) | (injection e with _ _ _ _ e; revert e; decide)) :
    Conc B w0 (σ.add H.next p') ((H.put id .dead).add o) w' ∧ Stp σ H w (σ.add H.next p') ((H.put id .dead).add o) w' := by
  have hfr := hc.fresh
  have hle : Le σ (σ.add H.next p') := Le.add hfr
  have hidn : id ≠ H.next := by
    intro e; subst e; rw [hp] at hfr; cases hfr
  have hget : ∀ j q, (σ.add H.next p') j = some q → (j = H.next ∧ q = p') ∨ (j ≠ H.next ∧ σ j = some q) := by
    intro j q hq
    unfold Sg.add at hq
    by_cases e : j = H.next
    · rw [if_pos e] at hq; cases hq; exact .inl ⟨e, rfl⟩
    · rw [if_neg e] at hq; exact .inr ⟨e, hq⟩
  have hgeto : ∀ j, ((H.put id .dead).add o).get j = if j = H.next then some o else if j = id then some .dead else H.get j := by
    intro j; rw [Heap.get_add, Heap.next_put, Heap.get_put]
  have hlv : ∀ j, j ≠ H.next → live ((H.put id .dead).add o) j → live H j ∧ j ≠ id := by
    intro j e ⟨o', h1, h2⟩
    rw [hgeto, if_neg e] at h1
    by_cases e2 : j = id
    · rw [if_pos e2] at h1; cases h1; cases h2
    · rw [if_neg e2] at h1; exact ⟨⟨o', h1, h2⟩, e2⟩
  refine ⟨⟨?_, ?_, ?_, ?_, ?_, hc.below.trans hb, by rw [hsz]; exact hc.size, ?_⟩, ⟨hle, ?_, by rw [Heap.next_add, Heap.next_put]; omega, by rw [hsz]; exact Nat.le_refl _, ?_, ?_, ?_, ?_⟩⟩
  · intro j q o' hq ho'
    rw [hgeto] at ho'
    rcases hget j q hq with ⟨e, rfl⟩ | ⟨e, hq'⟩
    · rw [if_pos e] at ho'; cases ho'; exact ho
    · rw [if_neg e] at ho'
      by_cases e2 : j = id
      · rw [if_pos e2] at ho'; cases ho'; trivial
      · rw [if_neg e2] at ho'
        cases hdd : o'.isDead with
        | true =>
          by_cases hz : o' = .dead
          · subst hz; trivial
          · exact OR.mono hle (hoth _ (hc.apart hp hlive hq' ho' hdd hz)) (hc.obj j q o' hq' ho')
        | false => exact OR.mono hle (hoth _ fun eb => e2 (hc.inj j id q p hq' hp ⟨o', ho', hdd⟩ hlive eb)) (hc.obj j q o' hq' ho')
  · intro j q hq
    rw [hgeto]
    rcases hget j q hq with ⟨e, rfl⟩ | ⟨e, hq'⟩
    · exact ⟨o, by rw [if_pos e]⟩
    · rw [if_neg e]
      by_cases e2 : j = id
      · exact ⟨.dead, by rw [if_pos e2]⟩
      · rw [if_neg e2]; exact hc.ex j q hq'
  · intro i j pi pj hi hj hli hlj e
    rcases hget i pi hi with ⟨ei, rfl⟩ | ⟨ei, hi'⟩
    · rcases hget j pj hj with ⟨ej, rfl⟩ | ⟨ej, hj'⟩
      · rw [ei, ej]
      · obtain ⟨hl, hne⟩ := hlv j ej hlj
        exact absurd (hc.inj j id pj p hj' hp hl hlive (by omega)) hne
    · rcases hget j pj hj with ⟨ej, rfl⟩ | ⟨ej, hj'⟩
      · obtain ⟨hl, hne⟩ := hlv i ei hli
        exact absurd (hc.inj i id pi p hi' hp hl hlive (by omega)) hne
      · exact hc.inj i j pi pj hi' hj' (hlv i ei hli).1 (hlv j ej hlj).1 e
  · intro j q hq
    rcases hget j q hq with ⟨e, rfl⟩ | ⟨e, hq'⟩
    · rw [hpb, hsz]; exact ⟨fun _ => (hc.blk id p hp).1 hlive, (hc.blk id p hp).2⟩
    · rw [hsz]; exact ⟨fun hl => (hc.blk j q hq').1 (hlv j e hl).1, (hc.blk j q hq').2⟩
  · intro j o' ho'
    rw [hgeto] at ho'
    rw [Heap.next_add, Heap.next_put]
    by_cases e : j = H.next
    · omega
    · rw [if_neg e] at ho'
      by_cases e2 : j = id
      · obtain ⟨o2, h2, _⟩ := hlive
        have := hc.next _ _ h2
        omega
      · rw [if_neg e2] at ho'; have := hc.next _ _ ho'; omega
  · intro j q t lo hi z hq ho'
    rw [hgeto] at ho'
    rcases hget j q hq with ⟨e, rfl⟩ | ⟨e, hq'⟩
    · rw [if_pos e] at ho'; cases ho'; exact absurd rfl (hm _ _ _ _)
    · rw [if_neg e] at ho'
      by_cases e2 : j = id
      · rw [if_pos e2] at ho'; cases ho'
      · rw [if_neg e2] at ho'; exact hc.ro j q t lo hi z hq' ho'
  · intro j q hq hn
    rcases hget j q hq with ⟨e, rfl⟩ | ⟨e, hq'⟩
    · omega
    · rw [hq'] at hn; cases hn
  · intro b _ hf
    exact hoth b fun e => hf id p hp hlive e.symm
  · intro j hj hn
    rw [hgeto, if_neg (by omega), if_neg]
    intro e; subst e; rw [hp] at hn; cases hn
  · intro j q hq hn
    rcases hget j q hq with ⟨e, rfl⟩ | ⟨e, hq'⟩
    · exact .inr ⟨id, p, hp, hlive, hpb.symm⟩
    · rw [hq'] at hn; cases hn
  · intro j q hq hl
    refine (hlv j ?_ hl).1
    intro e; subst e; rw [hfr] at hq; cases hq

/-- An object is dead. -/
theorem Conc.kill (hc : Conc B w0 σ H w) {id : Nat} {p : Pl} (hp : σ id = some p) (hlive : live H id) : Conc B w0 σ (H.put id .dead) w ∧ Stp σ H w σ (H.put id .dead) w := by
  have hlv : ∀ j, live (H.put id .dead) j → live H j := by
    intro j ⟨o', h1, h2⟩
    rw [Heap.get_put] at h1
    by_cases e : j = id
    · rw [if_pos e] at h1; cases h1; cases h2
    · rw [if_neg e] at h1; exact ⟨o', h1, h2⟩
  refine ⟨⟨?_, ?_, ?_, fun j q hq => ⟨fun hl => (hc.blk j q hq).1 (hlv j hl), (hc.blk j q hq).2⟩, ?_, hc.below, hc.size, ?_⟩, ⟨.refl σ, fun _ _ h k => sn h k, Nat.le_refl _, Nat.le_refl _, fun _ _ _ => rfl, ?_, fun _ _ h k => sn h k, fun j _ _ hl => hlv j hl⟩⟩
  · intro j q o' hq ho'
    rw [Heap.get_put] at ho'
    by_cases e : j = id
    · rw [if_pos e] at ho'; cases ho'; trivial
    · rw [if_neg e] at ho'; exact hc.obj j q o' hq ho'
  · intro j q hq
    rw [Heap.get_put]
    by_cases e : j = id
    · exact ⟨.dead, by rw [if_pos e]⟩
    · rw [if_neg e]; exact hc.ex j q hq
  · intro i j pi pj hi hj hli hlj e
    exact hc.inj i j pi pj hi hj (hlv i hli) (hlv j hlj) e
  · intro j o' ho'
    rw [Heap.get_put] at ho'
    by_cases e : j = id
    · subst e; obtain ⟨o2, h2, _⟩ := hlive; exact hc.next _ _ h2
    · rw [if_neg e] at ho'; exact hc.next _ _ ho'
  · intro j q t lo hi z hq ho'
    rw [Heap.get_put] at ho'
    by_cases e : j = id
    · rw [if_pos e] at ho'; cases ho'
    · rw [if_neg e] at ho'; exact hc.ro j q t lo hi z hq ho'
  · intro j _ hn
    rw [Heap.get_put, if_neg]
    intro e; subst e; rw [hp] at hn; cases hn


theorem firstCells_old {elem : TypeId} {size len : Nat} {id off : Nat} {s : AV} {sc : Value} {old : List AV} (hc : Conc B w0 σ H w) (hs : (∃ cap, s = .slice id off len cap) ∨ s = .oslice id off len) (hsc : VR σ s sc) (hold : loadN H id off (len * size) = some old) :
    ∃ oarr : Array Value, (∀ w2 : World, w2.heap = w.heap → (Builtin.firstCells size len sc).run P w2 = .ok oarr w2) ∧ VRs σ old oarr.toList ∧ old.length = len * size := by
  obtain ⟨p, ad, cap, hp, hle, rfl, had, _⟩ := sl_VR hs hsc
  obtain ⟨arr, h1, h2, h3⟩ := loadN_run (P := P) hc.rd hp hold
  refine ⟨arr, fun w2 hw2 => ?_, h2, h3⟩
  rw [firstCells_slice]
  by_cases h0 : 0 < len
  · rw [had h0]; exact h1 w2 hw2
  · have : len = 0 := by omega
    subst this
    have h4 := h1 w2 hw2
    simp only [Nat.zero_mul] at h4 ⊢
    have e1 : (loadCells (p.at off) 0).run P w2 = .ok #[] w2 := by simp [loadCells, loadCellsFrom]
    rw [e1] at h4
    injection h4 with h5 _
    subst h5
    rfl

theorem rowCells_run {b o n : Nat} {arr : Array Value} {elem : TypeId} {fr : Nat × Nat} (h : w.heap[b]? = some (.cells arr elem fr)) (hn : o + n ≤ arr.size) (w2 : World) (hw2 : w2.heap = w.heap) :
    (loadCells ⟨b, o, none⟩ n).run P w2 = .ok ((arr.toList.drop o).take n).toArray w2 := by
  have hlen : ((arr.toList.drop o).take n).length = n := by
    rw [List.length_take, List.length_drop, Array.length_toList]; omega
  have := run_loadCells_list (P := P) w2 ⟨b, o, none⟩ ((arr.toList.drop o).take n) ?_
  · rw [hlen] at this; exact this
  · intro j v hv
    have hj : j < n := by
      have := (List.getElem?_eq_some_iff.1 hv).1
      omega
    rw [List.getElem?_take, if_pos hj, List.getElem?_drop] at hv
    have ha : (⟨b, o, none⟩ : Addr).add j = ⟨b, o + j, none⟩ := by unfold Addr.add; split <;> simp_all
    rw [ha]
    have hv : arr[o + j]? = some v := by simpa using hv
    simp [World.cell?, hw2, h, hv]

/-- A grown row: a new block. 'off' is the place that the row keeps. -/
theorem grown_new (hc : Conc B w0 σ H w) {t u elem ty : TypeId} {i : TypeInfo} {zv xc : Value} {n size len sCap off hi : Nat} {base : Option Addr} {arr oarr : Array Value} {tr : Tr AV} {zz : List AV}
    (hsz : i.size = size) (hs0 : size ≠ 0) (hsr : Nat.beq size roG = false) (hzs : zv.cells.size = size) (hsrc : Src P t u elem i zv xc n arr w) (hs2 : arr.size = n * size) (hs1 : oarr.size = len * size)
    (hold : ∀ w2 : World, w2.heap = w.heap → (Builtin.firstCells size len (.slice base len sCap)).run P w2 = .ok oarr w2) (hroom : ¬ len + n ≤ sCap) (hby : (len + n) * (i.bytes + 1) ≤ 1099511627776)
    (hhi : hi = off + (len + n) * size)
    (htr : ∀ j v, rowAt tr off hi zz j = some v → ∃ y, (oarr ++ arr)[j - off]? = some y ∧ VR σ v y) :
    ∃ σ' w' cv, (Builtin.append_ #[t, u] ty #[.slice base len sCap, xc]).run P w = .ok cv w' ∧ VR σ' (.oslice H.next off (len + n)) cv ∧ Conc B w0 σ' (H.add (.row tr off hi zz size)) w' ∧ Stp σ H w σ' (H.add (.row tr off hi zz size)) w' := by
  have hm : IntKind.i64.max = 9223372036854775807 := rfl
  have hln : len + n ≤ 1099511627776 := Nat.le_trans (Nat.le_mul_of_pos_right _ (by omega)) hby
  have hbb : (len + n) * i.bytes ≤ 140737488355328 := by
    have : (len + n) * i.bytes ≤ (len + n) * (i.bytes + 1) := Nat.mul_le_mul_left _ (by omega)
    omega
  have hrun := hsrc.grow ty base len sCap oarr hroom (by rw [hsz]; exact hold w.drew rfl) (by rw [hm]; omega) (growslice_fits (by omega) hbb)
  have hge := grownCap_ge w (len + n) sCap elem
  generalize hbig : (oarr ++ arr ++ Builtin.zeroCells zv.cells (grownCap w (len + n) sCap elem - (len + n))) = big at hrun
  have hbs : big.size = grownCap w (len + n) sCap elem * size := by
    rw [← hbig, Array.size_append, Array.size_append, hs1, hs2, size_zeroCells, hzs, ← Nat.add_mul, ← Nat.add_mul]
    congr 1
    omega
  generalize grownCap w (len + n) sCap elem = cap at hrun hge hbs hbig
  have hcs : (len + n) * size ≤ cap * size := Nat.mul_le_mul_right _ hge
  have hc2 : Conc B w0 σ H w.drew := hc.same rfl hc.below.drew
  have s2 : Stp σ H w σ H w.drew := Stp.same σ H rfl
  have kk := hc2.add (w' := w.drew.alloc (.cells big elem)) (p := ⟨w.heap.size, 0, off, hi, cap * size, size⟩) (o := .row tr off hi zz size) rfl (by simp) (fun b hb => heap_alloc_old w.drew _ hb) ((below_alloc w.drew _).mono hc.size) ?_ (AObj.mine_row hsr)
  · obtain ⟨k1, k2⟩ := kk
    refine ⟨_, _, _, hrun, ?_, k1, s2.trans k2⟩
    exact ⟨_, 0, cap, Sg.add_self _ _ _, Nat.le_refl _, rfl, .inl ⟨by simp, by simp⟩⟩
  · refine ⟨rfl, rfl, by omega, fun _ => rfl, by simp only; omega, big, elem, (0, 0), heap_alloc_new w.drew _, hbs, .inl rfl, fun j v hv => ?_⟩
    obtain ⟨y, hy, hr⟩ := htr j v hv
    obtain ⟨hj1, hj2, _⟩ := rowAt_some hv
    refine ⟨y, ?_, hr.mono (Le.add hc2.fresh)⟩
    have hlt : j - off < oarr.size + arr.size := by rw [hs1, hs2, ← Nat.add_mul]; omega
    show big[0 + (j - off)]? = some y
    rw [Nat.zero_add, ← hbig, Array.getElem?_append_left (by rw [Array.size_append]; exact hlt)]
    exact hy

theorem VRs.pick {a : List AV} {arr : Array Value} (h : VRs σ a arr.toList) {j : Nat} {v : AV} (hv : a[j]? = some v) : ∃ y, arr[j]? = some y ∧ VR σ v y := by
  obtain ⟨y, hy, hr⟩ := VRs.get h hv
  exact ⟨y, by simpa using hy, hr⟩

theorem VRs.asize {a : List AV} {arr : Array Value} (h : VRs σ a arr.toList) : arr.size = a.length := by
  have := h.length
  simpa using this

theorem rowAt_filled {l : List AV} {zz : List AV} {j : Nat} {v : AV} (h : rowAt ((Tr.e).fill 0 l) 0 l.length zz j = some v) : l[j - 0]? = some v := by
  obtain ⟨h1, h2, h3⟩ := rowAt_some h
  rw [Tr.get_fill, if_pos ⟨Nat.zero_le _, by omega⟩] at h3
  cases hj : l[j - 0]? with
  | none =>
    have := List.getElem?_eq_none_iff.1 hj
    omega
  | some x => rw [hj] at h3; cases h3; rfl

theorem appTo_run {t u elem ty : TypeId} {i : TypeInfo} {zv xc sc : Value} {n size b : Nat} {arr : Array Value} {new : List AV} {s v : AV} {H' : Heap} (hc : Conc B w0 σ H w)
    (hsz : i.size = size) (hby : i.bytes = b) (hs0 : size ≠ 0) (hsr : Nat.beq size roG = false) (hzs : zv.cells.size = size) (hsrc : Src P t u elem i zv xc n arr w) (hnew : VRs σ new arr.toList) (hs : VR σ s sc) (h : appTo H size b s n new = some (v, H')) :
    ∃ σ' w' cv, (Builtin.append_ #[t, u] ty #[sc, xc]).run P w = .ok cv w' ∧ VR σ' v cv ∧ Conc B w0 σ' H' w' ∧ Stp σ H w σ' H' w' := by
  obtain ⟨hone, g0⟩ := cond_some h
  obtain ⟨hnl, g1⟩ := cond_some g0
  clear h g0
  have hnl : new.length = n * size := by rw [← llen_eq]; exact nbeq.1 hnl
  rw [allOne_eq] at hone
  cases s with
  | nils =>
    cases hs
    have g1 : cond (Nat.beq n 0) (some (AV.nils, H)) (smallB n b (newGrow H size new n)) = some (v, H') := g1
    cases hn : Nat.beq n 0 with
    | true =>
      rw [hn] at g1
      cases g1
      exact ⟨σ, w, _, hsrc.nil0 ty (nbeq.1 hn), rfl, hc, Stp.refl _ _ _⟩
    | false =>
      rw [hn] at g1
      obtain ⟨hb, g2⟩ := smallB_some g1
      have g2 : some (AV.oslice H.next 0 n, H.add (.row ((Tr.e).fill 0 new) 0 (llen new) [] size)) = some (v, H') := g2
      rw [llen_eq] at g2
      cases g2
      have hn := nbeqf.1 hn
      have hcap : ¬ 0 + n ≤ 0 := by omega
      have := grown_new (P := P) (ty := ty) (len := 0) (sCap := 0) (off := 0) (hi := new.length) (base := none) (oarr := #[]) (tr := (Tr.e).fill 0 new) (zz := []) hc hsz hs0 hsr hzs hsrc (by rw [hnew.asize, hnl]) (by simp)
        (fun w2 _ => by simp [Builtin.firstCells]) hcap (by rw [hby]; simpa using hb) (by rw [hnl]; simp) (fun j v hv => by simpa using hnew.pick (rowAt_filled hv))
      simpa using this
  | slice id off len cap =>
    have g1 : appEx H size b n new id off len cap = some (v, H') := g1
    unfold appEx at g1
    cases hfit : Nat.ble (Nat.add len n) cap with
    | true =>
      rw [hfit] at g1
      obtain ⟨H2, hH2, g2⟩ := bnd (x := storeN H id (Nat.add off (Nat.mul len size)) new) g1
      cases g2
      have hfit : len + n ≤ cap := nble.1 hfit
      obtain ⟨p, hp, hle, rfl⟩ := hs
      obtain ⟨w', hr, k1, k2⟩ := storeN_run (P := P) hc hp hH2 hnew
      refine ⟨σ, w', _, hsrc.room ty (p.at off) len cap w' hfit ?_, ⟨p, hp, hle, rfl⟩, k1, k2⟩
      rw [hsz, Pl.at_add hle]
      exact hr
    | false =>
      rw [hfit] at g1
      have hfit : ¬ len + n ≤ cap := by have := nblef.1 hfit; intro h; exact absurd h (Nat.not_le.2 this)
      obtain ⟨hb, g2⟩ := smallB_some g1
      obtain ⟨old, hold, g3⟩ := bnd g2
      have g3 : some (AV.oslice H.next 0 (len + n), H.add (.row ((Tr.e).fill 0 (old ++ new)) 0 (llen (old ++ new)) [] size)) = some (v, H') := g3
      rw [llen_eq] at g3
      cases g3
      obtain ⟨oarr, h1, h2, h3⟩ := firstCells_old (P := P) (elem := elem) hc (.inl ⟨cap, rfl⟩) hs hold
      obtain ⟨p, hp, hle, rfl⟩ := hs
      exact grown_new (P := P) (ty := ty) (off := 0) (hi := (old ++ new).length) (tr := (Tr.e).fill 0 (old ++ new)) (zz := []) hc hsz hs0 hsr hzs hsrc (by rw [hnew.asize, hnl]) (by rw [h2.asize, h3]) h1 hfit (by rw [hby]; exact hb)
        (by rw [List.length_append, h3, hnl, Nat.add_mul]; omega) (fun j v hv => VRs.pick (arr := oarr ++ arr) (by simpa using h2.append hnew) (rowAt_filled hv))
  | oslice id off len =>
    obtain ⟨o, ho, g2⟩ := bnd (x := H.get id) g1
    obtain ⟨tr, lo, hi, z, g, rfl, g3⟩ := rowOf_some g2
    obtain ⟨q1, g4⟩ := cond_some g3
    obtain ⟨q2, g5⟩ := cond_some g4
    obtain ⟨q3, g6⟩ := cond_some g5
    clear g1 g2 g3 g4 g5
    have q1 := nbeq.1 q1
    subst q1
    have q2 := nble.1 q2
    have q3 : off + len * g ≤ hi := nble.1 q3
    have hlive : live H id := ⟨_, ho, hsr⟩
    have hs' := hs
    obtain ⟨p, oc, cap, hp, hle, rfl, hcase⟩ := hs
    obtain ⟨rfl, rfl, h3, h4, h5, arr0, elem', fr, h6, h7, h8, h9⟩ := hc.obj id p _ hp ho
    have hes : p.es = g := h4 (by omega)
    have hlc : len ≤ cap := by
      rcases hcase with ⟨rfl, hS⟩ | ⟨rfl, rfl, hend⟩
      · rw [hes] at hS
        have : len * g ≤ cap * g := by omega
        exact Nat.le_of_mul_le_mul_right this (by omega)
      · exact Nat.le_refl _
    cases hn : Nat.beq n 0 with
    | true =>
      rw [hn] at g6
      cases g6
      have hn := nbeq.1 hn
      subst hn
      have hnew0 : new = [] := List.eq_nil_of_length_eq_zero (by simpa using hnl)
      subst hnew0
      have harr0 : arr.toList = [] := hnew
      refine ⟨σ, w, _, hsrc.room ty ⟨p.b, oc, none⟩ len cap w hlc ?_, hs', hc, Stp.refl _ _ _⟩
      rw [harr0]; rfl
    | false =>
      rw [hn] at g6
      have hn := nbeqf.1 hn
      cases hin : Nat.ble (Nat.add off (Nat.mul (Nat.add len n) g)) p.hi with
      | true =>
        rw [hin] at g6
        have hin : off + (len + n) * g ≤ p.hi := nble.1 hin
        cases g6
        have hgn : (len + n) * g = len * g + n * g := Nat.add_mul _ _ _
        have hpos : 0 < n * g := Nat.mul_pos (by omega) (by omega)
        rcases hcase with ⟨rfl, hS⟩ | ⟨rfl, rfl, hend⟩
        · have hS' := hS
          rw [hes] at hS'
          have hfit : len + n ≤ cap := by
            have : (len + n) * g ≤ cap * g := by omega
            exact Nat.le_of_mul_le_mul_right this (by omega)
          have hst : storeN H id (off + len * g) new = some (H.put id (.row (tr.fill (off + len * g) new) p.a0 p.hi z g)) := by
            show ((H.get id).bind fun o => rowOf o fun t lo hi z g' => storeIn H id (off + len * g) new t lo hi z g') = _
            rw [ho]
            show storeIn H id (off + len * g) new tr p.a0 p.hi z g = _
            unfold storeIn
            rw [hsr, nble.2 (show p.a0 ≤ off + len * g by omega), llen_eq, nble.2 (show Nat.add (off + len * g) new.length ≤ p.hi from (by omega : off + len * g + new.length ≤ p.hi)), allOne_eq, hone]
            rfl
          obtain ⟨w', hr, k1, k2⟩ := storeN_run (P := P) hc hp hst hnew
          refine ⟨σ, w', _, hsrc.room ty _ len cap w' hfit ?_, ⟨p, _, cap, hp, hle, rfl, .inl ⟨rfl, hS⟩⟩, k1, k2⟩
          rw [hsz]
          have := Pl.at_add (p := p) (n := len * g) hle
          unfold Pl.at at this
          rw [this]
          exact hr
        · omega
      | false =>
        rw [hin] at g6
        have hin : p.hi < off + (len + n) * g := nblef.1 hin
        obtain ⟨hb, g7⟩ := smallB_some g6
        have g7 : some (AV.oslice H.next off (len + n), (H.put id .dead).add (.row (tr.fill (off + len * g) new) off (off + (len + n) * g) z g)) = some (v, H') := g7
        cases g7
        have hgn : (len + n) * g = len * g + n * g := Nat.add_mul _ _ _
        by_cases hfit : len + n ≤ cap
        · -- in place
          rcases hcase with ⟨rfl, hS⟩ | ⟨rfl, rfl, hend⟩
          · have hS' := hS
            rw [hes] at hS'
            have hcap : (len + n) * g ≤ cap * g := Nat.mul_le_mul_right _ hfit
            have hst := storeCells_run (P := P) p.b (p.c0 + (off - p.a0) + len * g) elem' fr arr.toList 0 arr0 w h6 h8 (by have := hnew.length; omega) (hnew.ones hone)
            simp only [Nat.add_zero] at hst
            have hnl2 : arr.toList.length = n * g := by have := hnew.length; omega
            have kk := hc.move (p' := ⟨p.b, p.c0 + (off - p.a0), off, off + (len + n) * g, p.S, p.es⟩) (o := .row (tr.fill (off + len * g) new) off (off + (len + n) * g) z g) hp hlive rfl (by simp) (fun b hb => setRow_other _ _ _ _ hb) (below_setRow _ _ _ ((hc.blk id p hp).1 hlive)) (hm := AObj.mine_row hsr)
              (w' := w.setRow p.b (arr0.toList.take (p.c0 + (off - p.a0) + len * g) ++ arr.toList ++ arr0.toList.drop (p.c0 + (off - p.a0) + len * g + arr.toList.length)).toArray) ?_
            · obtain ⟨k1, k2⟩ := kk
              refine ⟨σ.add H.next ⟨p.b, p.c0 + (off - p.a0), off, off + (len + n) * g, p.S, p.es⟩, _, _, hsrc.room ty _ len cap _ hfit ?_, ⟨⟨p.b, p.c0 + (off - p.a0), off, off + (len + n) * g, p.S, p.es⟩, p.c0 + (off - p.a0), cap, Sg.add_self _ _ _, Nat.le_refl _, rfl, .inl ⟨by simp, hS⟩⟩, k1, k2⟩
              rw [hsz]
              have hadd : (⟨p.b, p.c0 + (off - p.a0), none⟩ : Addr).add (len * g) = ⟨p.b, p.c0 + (off - p.a0) + len * g, none⟩ := by unfold Addr.add; split <;> simp_all
              rw [hadd]
              exact hst
            · have hsz2 : (arr0.toList.take (p.c0 + (off - p.a0) + len * g) ++ arr.toList ++ arr0.toList.drop (p.c0 + (off - p.a0) + len * g + arr.toList.length)).toArray.size = arr0.size := by
                simp only [List.size_toArray, List.length_append, List.length_take, List.length_drop, Array.length_toList] at hnl2 ⊢
                omega
              refine ⟨rfl, rfl, by omega, h4, by simp only; omega, _, elem', fr, setRow_heap w p.b arr0 _ elem' fr h6, by rw [hsz2]; exact h7, by rw [hsz2]; exact h8, fun j v hv => ?_⟩
              obtain ⟨hj1, hj2, hz⟩ := rowAt_some hv
              rw [Tr.get_fill] at hz
              by_cases hjin : off + len * g ≤ j ∧ j < off + len * g + new.length
              · rw [if_pos hjin] at hz
                cases hvi : new[j - (off + len * g)]? with
                | none => have := List.getElem?_eq_none_iff.1 hvi; omega
                | some x =>
                  rw [hvi] at hz
                  cases hz
                  obtain ⟨y, hy, hr⟩ := VRs.get hnew hvi
                  refine ⟨y, ?_, hr.mono (Le.add hc.fresh)⟩
                  rw [List.getElem?_toArray, List.append_assoc, List.getElem?_append_right (by simp; omega), List.getElem?_append_left (by simp only [List.length_take, Array.length_toList] at *; omega)]
                  rw [← hy]
                  congr 1
                  simp only [List.length_take, Array.length_toList]
                  omega
              · rw [if_neg hjin] at hz
                have hjlt : j < off + len * g := by omega
                rw [← rowAt_in (lo := p.a0) (hi := p.hi) (by omega) (by omega)] at hz
                obtain ⟨cv, hcv, hr⟩ := h9 j v hz
                refine ⟨cv, ?_, hr.mono (Le.add hc.fresh)⟩
                rw [← hcv, List.getElem?_toArray, List.append_assoc, List.getElem?_append_left (by simp; omega), List.getElem?_take, if_pos (by simp only; omega)]
                simp only [Array.getElem?_toList]
                congr 1
                omega
          · omega
        · -- a new block
          obtain ⟨c1, c2⟩ := hc.kill hp hlive
          have hnl2 : arr.size = n * g := by rw [hnew.asize, hnl]
          have hfirst : ∃ oarr : Array Value, (∀ w2 : World, w2.heap = w.heap → (Builtin.firstCells g len (.slice (some ⟨p.b, oc, none⟩) len cap)).run P w2 = .ok oarr w2) ∧ oarr.size = len * g ∧
              ∀ j, j < len * g → oarr[j]? = arr0[p.c0 + (off - p.a0) + j]? := by
            rcases hcase with ⟨rfl, hS⟩ | ⟨rfl, rfl, hend⟩
            · have hle2 : p.c0 + (off - p.a0) + len * g ≤ arr0.size := by omega
              refine ⟨_, fun w2 hw2 => by rw [firstCells_slice]; exact rowCells_run h6 hle2 w2 hw2, ?_, fun j hj => ?_⟩
              · simp only [List.size_toArray, List.length_take, List.length_drop, Array.length_toList]; omega
              · rw [List.getElem?_toArray, List.getElem?_take, if_pos hj, List.getElem?_drop]
                simp
            · exact ⟨#[], fun w2 _ => by rw [firstCells_slice]; simp [loadCells, loadCellsFrom], by simp, fun j hj => by omega⟩
          obtain ⟨oarr, f1, f2, f3⟩ := hfirst
          have kk := grown_new (P := P) (ty := ty) (off := off) (hi := off + (len + n) * g) (tr := tr.fill (off + len * g) new) (zz := z) c1 hsz hs0 hsr hzs hsrc hnl2 f2 f1 hfit (by rw [hby]; exact hb) rfl ?_
          · obtain ⟨σ', w', cv, r1, r2, r3, r4⟩ := kk
            exact ⟨σ', w', cv, r1, r2, r3, c2.trans r4⟩
          · intro j v hv
            obtain ⟨hj1, hj2, hz⟩ := rowAt_some hv
            rw [Tr.get_fill] at hz
            by_cases hjin : off + len * g ≤ j ∧ j < off + len * g + new.length
            · rw [if_pos hjin] at hz
              cases hvi : new[j - (off + len * g)]? with
              | none => have := List.getElem?_eq_none_iff.1 hvi; omega
              | some x =>
                rw [hvi] at hz
                cases hz
                obtain ⟨y, hy, hr⟩ := hnew.pick hvi
                refine ⟨y, ?_, hr⟩
                rw [Array.getElem?_append_right (by omega), ← hy]
                congr 1
                omega
            · rw [if_neg hjin] at hz
              have hjlt : j < off + len * g := by omega
              rw [← rowAt_in (lo := p.a0) (hi := p.hi) (by omega) (by omega)] at hz
              obtain ⟨cv, hcv, hr⟩ := h9 j v hz
              refine ⟨cv, ?_, hr⟩
              rw [Array.getElem?_append_left (by omega), f3 _ (by omega), ← hcv]
              congr 1
              omega
  | _ => cases g1

end Go.AM
