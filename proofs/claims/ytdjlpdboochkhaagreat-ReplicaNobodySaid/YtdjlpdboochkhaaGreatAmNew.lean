/-
  What the abstract machine's operations say of the model's: those that make one new object.
-/
import Derived.Test.YtdjlpdboochkhaaGreatAmMem
namespace Go.AM
open Go.RowKit

variable {P : Program} {B : Nat} {w0 w : World} {σ : Sg} {H : Heap}

/-- A computation makes one new block, of which the abstract object says the truth, and comes to what names it. -/
def NewOk (P : Program) (σ : Sg) (s : Sem Value) (o : AObj) (f : Nat → AV) (w : World) : Prop :=
  ∃ w' cv p, s.run P w = .ok cv w' ∧ p.b = w.heap.size ∧ w'.heap.size = w.heap.size + 1 ∧ (∀ b, b < w.heap.size → w'.heap[b]? = w.heap[b]?) ∧ Below w.heap.size w w' ∧
    ∀ n, σ n = none → OR (σ.add n p) w' p o ∧ VR (σ.add n p) (f n) cv

theorem NewOk.conc {s : Sem Value} {o : AObj} {f : Nat → AV} (hc : Conc B w0 σ H w) (h : NewOk P σ s o f w) (hm : o.mine := by intro _ _ _ _ e; first | (cases e; done) | (injection e with _ _ _ _ e; revert e; decide)) :
    ∃ σ' w' cv, s.run P w = .ok cv w' ∧ VR σ' (f H.next) cv ∧ Conc B w0 σ' (H.add o) w' ∧ Stp σ H w σ' (H.add o) w' := by
  obtain ⟨w', cv, p, hr, hb, hsz, hoth, hbel, hn⟩ := h
  obtain ⟨h1, h2⟩ := hn H.next hc.fresh
  obtain ⟨k1, k2⟩ := hc.add hb hsz hoth (hbel.mono hc.size) h1 hm
  exact ⟨_, w', cv, hr, h2, k1, k2⟩

theorem below_alloc (w : World) (o : Obj) : Below w.heap.size w (w.alloc o) := (Below.refl _ _).alloc (Nat.le_refl _) o

theorem ofRow_eq (cs : List AV) : ofRow cs = .row ((Tr.e).fill 0 cs) 0 cs.length [] 0 := by
  unfold ofRow; rw [llen_eq]

/-- A new row of cells. -/
theorem row_new {cs : List AV} {arr : Array Value} {elem : TypeId} {p : Pl} {w' : World} {g S : Nat} (hv : VRs σ cs arr.toList) (hp : p = ⟨w.heap.size, 0, 0, cs.length, S, g⟩)
    (hsz : cs.length ≤ S) {big : Array Value} {fr : Nat × Nat} (hbig : big.size = S) (hpre : ∀ i, i < cs.length → big[i]? = arr[i]?) (hfr : fr.1 = fr.2 ∨ big.size ≤ fr.1)
    (hw : w'.heap[w.heap.size]? = some (.cells big elem fr)) : OR σ w' p (.row ((Tr.e).fill 0 cs) 0 cs.length [] g) := by
  subst hp
  refine ⟨rfl, rfl, Nat.zero_le _, fun _ => rfl, by simp; omega, big, elem, fr, hw, hbig, hfr, fun i v hi => ?_⟩
  obtain ⟨_, h2, hz⟩ := rowAt_some hi
  rw [Tr.get_fill, if_pos ⟨Nat.zero_le _, by omega⟩] at hz
  cases hci : cs[i - 0]? with
  | none =>
    have := List.getElem?_eq_none_iff.1 hci
    omega
  | some x =>
    rw [hci] at hz
    cases hz
    obtain ⟨y, hy, hr⟩ := VRs.get hv hci
    refine ⟨y, ?_, hr⟩
    have : 0 + (i - 0) = i := by omega
    rw [this, hpre i h2]
    simpa using hy

theorem newRowA_run {cs : List AV} {arr : Array Value} {elem : TypeId} {v : AV} {H' : Heap} (h : newRowA H cs = some (v, H')) (hv : VRs σ cs arr.toList) :
    v = .ptr H.next 0 ∧ H' = H.add (ofRow cs) ∧ ∀ w, NewOk P σ (do pure (.pointer (some (← newRow elem arr)))) (ofRow cs) (fun n => .ptr n 0) w := by
  obtain ⟨h1, h⟩ := cond_some h
  cases h
  refine ⟨rfl, rfl, fun w => ?_⟩
  have hl := hv.length
  simp only [Array.length_toList] at hl
  refine ⟨w.alloc (.cells arr elem), .pointer (some ⟨w.heap.size, 0, none⟩), ⟨w.heap.size, 0, 0, cs.length, cs.length, 0⟩, by simp [newRow], rfl, by simp, fun b hb => heap_alloc_old w _ hb, below_alloc w _, fun n hn => ⟨?_, ?_⟩⟩
  · rw [ofRow_eq]
    exact row_new (hv.mono (Le.add hn)) rfl (Nat.le_refl _) hl (fun _ _ => rfl) (.inl rfl) (heap_alloc_new w _)
  · exact ⟨_, Sg.add_self _ _ _, Nat.zero_le _, rfl⟩

theorem alloc_run {t : TypeId} {z v : AV} {H' : Heap} (hz : zeroOf P t = some z) (h : newRowA H z.cells = some (v, H')) :
    v = .ptr H.next 0 ∧ H' = H.add (ofRow z.cells) ∧ ∀ w, NewOk P σ (Instr.alloc t true (.tuple #[])) (ofRow z.cells) (fun n => .ptr n 0) w := by
  obtain ⟨zv, hzr, hzv⟩ := run_zero hz
  obtain ⟨h1, h2, h3⟩ := newRowA_run (P := P) (σ := σ) (elem := t) h (ofV_VR hzv).cells
  refine ⟨h1, h2, fun w => ?_⟩
  obtain ⟨w', cv, p, hr, rest⟩ := h3 w
  exact ⟨w', cv, p, by rw [← hr]; simp [Instr.alloc, hzr, newVar], rest⟩

theorem box_run {t : TypeId} {x v : AV} {a : Value} {H' : Heap} (h : newRowA H x.cells = some (v, H')) (hx : VR σ x a) :
    v = .ptr H.next 0 ∧ H' = H.add (ofRow x.cells) ∧ ∀ w, NewOk P σ (Instr.box t a) (ofRow x.cells) (fun n => .ptr n 0) w := by
  obtain ⟨h1, h2, h3⟩ := newRowA_run (P := P) (σ := σ) (elem := t) h hx.cells
  exact ⟨h1, h2, h3⟩

theorem flatten_get (z : Array Value) (hs : 0 < z.size) : ∀ (len i : Nat), i < len * z.size → (List.replicate len z.toList).flatten[i]? = some z[i % z.size]!
  | 0, i, hi => by simp at hi
  | len + 1, i, hi => by
    rw [List.replicate_succ, List.flatten_cons]
    by_cases hlt : i < z.size
    · rw [List.getElem?_append_left (by simpa using hlt), Nat.mod_eq_of_lt hlt]
      simp [hlt]
    · rw [List.getElem?_append_right (by simpa using hlt)]
      have hi2 : i - z.toList.length < len * z.size := by
        simp only [Array.length_toList]
        rw [Nat.succ_mul] at hi
        omega
      rw [flatten_get z hs len _ hi2]
      simp only [Array.length_toList]
      rw [Nat.mod_eq_sub_mod (a := i) (by omega)]

theorem flatten_zero (z : Array Value) (len : Nat) (hs : 0 < z.size) : ((Array.range (len * z.size)).map (fun i => z[i % z.size]!)).toList = (List.replicate len z.toList).flatten := by
  apply List.ext_getElem?
  intro i
  have hlen : (List.replicate len z.toList).flatten.length = len * z.size := by simp
  by_cases hi : i < len * z.size
  · rw [flatten_get z hs len i hi]
    simp [hi]
  · rw [List.getElem?_eq_none (by simp; omega), List.getElem?_eq_none (by omega)]

theorem VRs.flatten_replicate {z : List AV} {zc : List Value} (h : VRs σ z zc) : ∀ n, VRs σ (List.replicate n z).flatten (List.replicate n zc).flatten
  | 0 => by simp [VRs]
  | n + 1 => by
    rw [List.replicate_succ, List.replicate_succ, List.flatten_cons, List.flatten_cons]
    exact h.append (VRs.flatten_replicate h n)

theorem bslc_run {t elem : TypeId} {len s : Nat} {z v : AV} {ps : List (Nat × AV)} {pc : Array (Nat × Value)} {H' : Heap} (hu : und P t = some (.slice elem)) (hs : szOf P elem = some s) (hz : zeroOf P elem = some z)
    (hp : PRs σ ps pc.toList) (h : bslc H len z.cells s ps = some (v, H')) :
    ∃ cs, v = .slice H.next 0 len len ∧ H' = H.add (ofRow cs) ∧ bslc H len z.cells s ps = some (.slice H.next 0 len len, H.add (ofRow cs)) ∧ (∀ H2, bslc H2 len z.cells s ps = some (.slice H2.next 0 len len, H2.add (ofRow cs))) ∧
      ∀ w, NewOk P σ (Instr.buildSlice t len pc) (ofRow cs) (fun n => .slice n 0 len len) w := by
  have horig := h
  obtain ⟨h1, h⟩ := cond_some h
  obtain ⟨h2, h⟩ := cond_some h
  obtain ⟨h3, h⟩ := cond_none h
  obtain ⟨cs, hcs, h⟩ := bnd h
  obtain ⟨h4, h⟩ := cond_some h
  cases h
  have hall : ∀ H2 : Heap, bslc H2 len z.cells s ps = some (.slice H2.next 0 len len, H2.add (ofRow cs)) := by
    intro H2
    unfold bslc
    rw [h1, h2, h3, hcs]
    show cond (allOne cs) _ none = _
    rw [h4]; rfl
  refine ⟨cs, rfl, rfl, horig, hall, fun w => ?_⟩
  have h1 := nble.1 h1
  have h2 := nbeq.1 h2
  have h3 := nbeqf.1 h3
  rw [llen_eq] at h2
  obtain ⟨zv, hzr, hzv⟩ := run_zero hz
  have hzc : VRs σ z.cells zv.cells.toList := (ofV_VR hzv).cells
  have hzl : zv.cells.size = s := by have := hzc.length; simp only [Array.length_toList] at this; omega
  rw [repl_eq] at hcs
  have h1 : len * s ≤ 1048576 := h1
  have h24 : ¬ len * s > 2 ^ 24 := by omega
  by_cases hlen : len = 0
  · subst hlen
    obtain ⟨rc, hrc, hr⟩ := fillA_run (cc := #[]) hcs hp (by simp [VRs])
    have hrc : Instr.fill (fun i => some (i * s, s)) #[] pc.toList = some rc := hrc
    have hrl := hr.length
    simp only [Array.length_toList] at hrl
    refine ⟨w.alloc (.cells rc elem), .slice (some ⟨w.heap.size, 0, none⟩) 0 0, ⟨w.heap.size, 0, 0, cs.length, cs.length, 0⟩, ?_, rfl, by simp, fun b hb => heap_alloc_old w _ hb, below_alloc w _, fun n hn => ⟨?_, ?_⟩⟩
    · have hr0 : Array.range 0 = #[] := rfl
      simp [Instr.buildSlice, run_und hu, run_sz hs, hr0, hrc, newRow]
    · rw [ofRow_eq]
      exact row_new (hr.mono (Le.add hn)) rfl (Nat.le_refl _) hrl (fun _ _ => rfl) (.inl rfl) (heap_alloc_new w _)
    · exact ⟨_, Sg.add_self _ _ _, Nat.zero_le _, rfl⟩
  · have hz0 : len * s ≠ 0 := Nat.mul_ne_zero hlen h3
    have hzz : VRs σ (List.replicate len z.cells).flatten ((Array.range (len * s)).map (fun i => zv.cells[i % zv.cells.size]!)).toList := by
      have := flatten_zero zv.cells len (by omega)
      rw [hzl] at this ⊢
      rw [this]
      exact hzc.flatten_replicate len
    obtain ⟨rc, hrc, hr⟩ := fillA_run hcs hp hzz
    have hrc : Instr.fill (fun i => some (i * s, s)) ((Array.range (len * s)).map (fun i => zv.cells[i % zv.cells.size]!)) pc.toList = some rc := hrc
    have hrl := hr.length
    simp only [Array.length_toList] at hrl
    refine ⟨w.alloc (.cells rc elem), .slice (some ⟨w.heap.size, 0, none⟩) len len, ⟨w.heap.size, 0, 0, cs.length, cs.length, 0⟩, ?_, rfl, by simp, fun b hb => heap_alloc_old w _ hb, below_alloc w _, fun n hn => ⟨?_, ?_⟩⟩
    · simp only [Instr.buildSlice, Sem.run_bind, run_und hu, run_sz hs, Result.andThen_ok, if_neg h24, Sem.run_pure, if_neg hz0, hzr]
      simp only [hrc]
      simp [newRow]
    · rw [ofRow_eq]
      exact row_new (hr.mono (Le.add hn)) rfl (Nat.le_refl _) hrl (fun _ _ => rfl) (.inl rfl) (heap_alloc_new w _)
    · exact ⟨_, Sg.add_self _ _ _, Nat.zero_le _, rfl⟩

end Go.AM
