/-
  What the abstract machine's memory says of the model's: reads, stores, new objects.
-/
import Derived.Test.YtdjlpdboochkhaaGreatAmOps3
namespace Go.AM
open Go.RowKit

variable {P : Program} {B : Nat} {w0 w : World} {σ : Sg} {H : Heap}

theorem rowOf_some {o : AObj} {α : Type} {k : Tr AV → Nat → Nat → List AV → Nat → Option α} {r : α} (h : rowOf o k = some r) : ∃ t lo hi z g, o = .row t lo hi z g ∧ k t lo hi z g = some r := by
  cases o <;> try (cases h; done)
  exact ⟨_, _, _, _, _, rfl, h⟩

theorem rowAt_some {t : Tr AV} {lo hi : Nat} {z : List AV} {i : Nat} {v : AV} (h : rowAt t lo hi z i = some v) : lo ≤ i ∧ i < hi ∧ zAt z i (t.get i) = some v := by
  obtain ⟨h1, h⟩ := cond_some h
  obtain ⟨h2, h⟩ := cond_some h
  exact ⟨nble.1 h1, nble.1 h2, h⟩

theorem rowAt_in {t : Tr AV} {lo hi : Nat} {z : List AV} {i : Nat} (h1 : lo ≤ i) (h2 : i < hi) : rowAt t lo hi z i = zAt z i (t.get i) := by
  unfold rowAt
  rw [nble.2 h1, nble.2 (show i + 1 ≤ hi from h2)]
  rfl

theorem rowAt_out {t : Tr AV} {lo hi : Nat} {z : List AV} {i : Nat} (h : ¬ (lo ≤ i ∧ i < hi)) : rowAt t lo hi z i = none := by
  cases hr : rowAt t lo hi z i with
  | none => rfl
  | some v => obtain ⟨h1, h2, _⟩ := rowAt_some hr; exact absurd ⟨h1, h2⟩ h

theorem cellsFrom_some {t : Tr AV} {lo hi : Nat} {z : List AV} : ∀ {n i : Nat} {vs : List AV}, cellsFrom t lo hi z i n = some vs → vs.length = n ∧ ∀ j, j < n → ∃ v, rowAt t lo hi z (i + j) = some v ∧ vs[j]? = some v
  | 0, i, vs, h => by cases h; exact ⟨rfl, fun j hj => by omega⟩
  | n + 1, i, vs, h => by
    have h : ((rowAt t lo hi z i).bind fun v => (cellsFrom t lo hi z (i + 1) n).bind fun vs => some (v :: vs)) = some vs := h
    obtain ⟨v, hv, h⟩ := bnd h
    obtain ⟨vs', hvs, h⟩ := bnd h
    cases h
    obtain ⟨hl, hg⟩ := cellsFrom_some hvs
    refine ⟨by simp [hl], fun j hj => ?_⟩
    cases j with
    | zero => exact ⟨v, hv, rfl⟩
    | succ j =>
      obtain ⟨x, h1, h2⟩ := hg j (by omega)
      exact ⟨x, by rw [show i + (j + 1) = i + 1 + j by omega]; exact h1, by simpa using h2⟩

theorem loadN_some {id off n : Nat} {vs : List AV} (h : loadN H id off n = some vs) : ∃ t lo hi z g, H.get id = some (.row t lo hi z g) ∧ cellsFrom t lo hi z off n = some vs := by
  obtain ⟨o, ho, h⟩ := bnd h
  obtain ⟨t, lo, hi, z, g, rfl, h⟩ := rowOf_some h
  exact ⟨t, lo, hi, z, g, ho, h⟩

theorem loadN_run {id off n : Nat} {p : Pl} {vs : List AV} (hc : Rd σ H w) (hp : σ id = some p) (h : loadN H id off n = some vs) :
    ∃ arr : Array Value, (∀ w2 : World, w2.heap = w.heap → (loadCells (p.at off) n).run P w2 = .ok arr w2) ∧ VRs σ vs arr.toList ∧ vs.length = n := by
  obtain ⟨t, lo, hi, z, g, hg, h⟩ := loadN_some h
  obtain ⟨hl, hcell⟩ := cellsFrom_some h
  obtain ⟨rfl, rfl, h3, h4, h5, arr, elem, fr, h6, h7, h8, h9⟩ := hc.obj id p _ hp hg
  by_cases hn : n = 0
  · subst hn
    have : vs = [] := List.eq_nil_of_length_eq_zero hl
    subst this
    exact ⟨#[], fun w2 _ => by simp [loadCells, loadCellsFrom], rfl, rfl⟩
  · have hlo : p.a0 ≤ off := by
      obtain ⟨v, hv, _⟩ := hcell 0 (by omega)
      exact (rowAt_some hv).1
    have hhi : off + n ≤ p.hi := by
      obtain ⟨v, hv, _⟩ := hcell (n - 1) (by omega)
      have := (rowAt_some hv).2.1
      omega
    have hlen : ((arr.toList.drop (p.c0 + (off - p.a0))).take n).length = n := by
      rw [List.length_take, List.length_drop, Array.length_toList]
      omega
    have hget : ∀ j, j < n → ((arr.toList.drop (p.c0 + (off - p.a0))).take n)[j]? = arr[p.c0 + (off - p.a0) + j]? := by
      intro j hj
      rw [List.getElem?_take, if_pos hj, List.getElem?_drop]
      simp
    refine ⟨((arr.toList.drop (p.c0 + (off - p.a0))).take n).toArray, fun w2 hw2 => ?_, ?_, hl⟩
    · have := run_loadCells_list (P := P) w2 (p.at off) ((arr.toList.drop (p.c0 + (off - p.a0))).take n) ?_
      · rw [hlen] at this; exact this
      · intro j v hv
        have hj : j < n := by
          have := (List.getElem?_eq_some_iff.1 hv).1
          omega
        rw [hget j hj] at hv
        have ha : (p.at off).add j = ⟨p.b, p.c0 + (off - p.a0) + j, none⟩ := by
          unfold Pl.at Addr.add
          split
          · subst_vars; rfl
          · rfl
        rw [ha]
        simp [World.cell?, hw2, h6, hv]
    · apply VRs.of_get
      · rw [hl]; simpa using hlen
      · intro j x y hx hy
        have hj : j < n := by
          have := (List.getElem?_eq_some_iff.1 hx).1
          omega
        obtain ⟨v, hv, hv2⟩ := hcell j hj
        rw [hv2] at hx; cases hx
        obtain ⟨cv, hcv, hr⟩ := h9 _ _ hv
        have hy : ((arr.toList.drop (p.c0 + (off - p.a0))).take n)[j]? = some y := by simpa using hy
        rw [hget j hj] at hy
        have e : p.c0 + (off + j - p.a0) = p.c0 + (off - p.a0) + j := by omega
        rw [e, hy] at hcv
        cases hcv
        exact hr

theorem oLoad_run {t : TypeId} {id off : Nat} {v : AV} {a : Value} (hc : Rd σ H w) (h : oLoad P H t id off = some v) (hx : VR σ (.ptr id off) a) :
    ∃ cv, (Instr.loadAt t a).run P w = .ok cv w ∧ VR σ v cv := by
  obtain ⟨p, hp, hle, rfl⟩ := hx
  obtain ⟨b, hb, h⟩ := bnd h
  cases b with
  | true =>
    obtain ⟨n, hn, h⟩ := bnd (x := szOf P t) h
    obtain ⟨l, hl, h⟩ := bnd h
    cases h
    obtain ⟨arr, hr, hv, _⟩ := loadN_run (P := P) hc hp hl
    exact ⟨.agg arr, by simp [Instr.loadAt, Instr.sureAddr, loadVar, run_agg hb, run_sz hn, hr w rfl], arr, rfl, hv⟩
  | false =>
    obtain ⟨l, hl, h⟩ := bnd (x := loadN H id off 1) h
    obtain ⟨t', lo, hi, z, g, hg, hcf⟩ := loadN_some hl
    obtain ⟨hlen, hcell⟩ := cellsFrom_some hcf
    obtain ⟨v', hv', hl0⟩ := hcell 0 (by omega)
    rw [lget_eq, hl0] at h
    cases h
    obtain ⟨rfl, rfl, h3, h4, h5, arr, elem, fr, h6, h7, h8, h9⟩ := hc.obj id p _ hp hg
    obtain ⟨cv, hcv, hr⟩ := h9 _ _ hv'
    have hcell : w.cell? (p.at off) = some cv := by
      have : arr[p.c0 + (off - p.a0)]? = some cv := by simpa using hcv
      simp [World.cell?, Pl.at, h6, this]
    refine ⟨cv, ?_, hr⟩
    simp only [Instr.loadAt, Instr.sureAddr, loadVar, Sem.run_bind, Sem.run_pure, Result.andThen_ok, run_agg hb, Bool.false_eq_true, if_false, run_load, hcell]

/-! ### Stores -/

theorem storeCells_run (g o : Nat) (t : TypeId) (fz : Nat × Nat) : ∀ (vs : List Value) (i : Nat) (cur : Array Value) (w : World), w.heap[g]? = some (.cells cur t fz) → (fz.1 = fz.2 ∨ cur.size ≤ fz.1) → o + i + vs.length ≤ cur.size → (∀ v ∈ vs, v.oneCell' = true) →
    (storeCells ⟨g, o, none⟩ vs i).run P w = .ok () (w.setRow g (cur.toList.take (o + i) ++ vs ++ cur.toList.drop (o + i + vs.length)).toArray)
  | [], i, cur, w, hg, _, _, _ => by
    simp only [storeCells, List.append_nil, List.length_nil, Nat.add_zero, List.take_append_drop, Array.toArray_toList]
    rw [setRow_self w g cur t fz hg]
    rfl
  | v :: rest, i, cur, w, hg, hfz, hl, h1 => by
    have hi : o + i < cur.size := by simp at hl; omega
    have hadd : (⟨g, o, none⟩ : Addr).add i = ⟨g, o + i, none⟩ := by unfold Addr.add; split <;> simp_all
    have hcell : w.cell? ⟨g, o + i, none⟩ = some cur[o + i] := by simp [World.cell?, hg, hi]
    have hfro : w.frozen? ⟨g, o + i, none⟩ = false := by
      obtain ⟨lo, hi'⟩ := fz
      simp only [World.frozen?, hg, Bool.and_eq_false_iff, decide_eq_false_iff_not]
      simp only at hfz
      omega
    have hst : (store ((⟨g, o, none⟩ : Addr).add i) v).run P w = .ok () (w.setRow g (cur.setIfInBounds (o + i) v)) := by
      rw [hadd, run_store P w _ v _ (h1 v (by simp)), hcell]
      simp [hfro, setCell_eq_setRow w g (o + i) cur t fz v hg]
    have ih := storeCells_run g o t fz rest (i + 1) (cur.setIfInBounds (o + i) v) (w.setRow g (cur.setIfInBounds (o + i) v)) (setRow_heap w g cur _ t _ hg) (by simpa using hfz) (by simp at hl ⊢; omega) (fun x hx => h1 x (by simp [hx]))
    simp only [storeCells, Sem.run_bind, hst, Result.andThen_ok, ih, setRow_setRow]
    congr 3
    rw [Array.toList_setIfInBounds, show o + (i + 1) = (o + i) + 1 by omega, List.take_succ_eq_append_getElem (by simp; omega), List.take_set, List.set_eq_of_length_le (by simp; omega)]
    simp only [List.length_cons, List.getElem_set_self, List.append_assoc, List.cons_append, List.nil_append]
    congr 3
    rw [List.drop_set_of_lt (by omega)]
    congr 1
    omega

theorem below_setRow (w : World) (g : Nat) (cs : Array Value) (hB : B ≤ g) : Below B w (w.setRow g cs) :=
  ⟨rfl, rfl, rfl, by simp, fun k hk => setRow_other w g k cs (by omega)⟩

theorem storeIn_some {id off : Nat} {vs : List AV} {t : Tr AV} {lo hi : Nat} {z : List AV} {g : Nat} {H' : Heap} (h : storeIn H id off vs t lo hi z g = some H') :
    lo ≤ off ∧ off + vs.length ≤ hi ∧ vs.all AV.one = true ∧ H' = H.put id (.row (t.fill off vs) lo hi z g) ∧ Nat.beq g roG = false := by
  obtain ⟨h0, h⟩ := cond_none h
  obtain ⟨h1, h⟩ := cond_some h
  obtain ⟨h2, h⟩ := cond_some h
  obtain ⟨h3, h⟩ := cond_some h
  cases h
  rw [llen_eq] at h2
  rw [allOne_eq] at h3
  exact ⟨nble.1 h1, nble.1 h2, h3, rfl, h0⟩

theorem VRs.ones {σ : Sg} : ∀ {vs : List AV} {cvs : List Value}, VRs σ vs cvs → vs.all AV.one = true → ∀ v ∈ cvs, v.oneCell' = true
  | [], _, h, _, v, hv => by cases h; cases hv
  | a :: as, _, ⟨c, cs, e, h1, h2⟩, h, v, hv => by
    subst e
    simp only [List.all_cons, Bool.and_eq_true] at h
    cases hv with
    | head => rw [h1.one]; exact h.1
    | tail _ hv => exact VRs.ones h2 h.2 v hv

/-- A row's word, its cells turned from place off on. -/
theorem row_stored {p : Pl} {t : Tr AV} {z : List AV} {g off : Nat} {vs : List AV} {cvs : List Value} {arr : Array Value} {elem : TypeId} {fr : Nat × Nat} {w' : World}
    (h3 : p.a0 ≤ p.hi) (h4 : 0 < g → p.es = g) (h5 : p.c0 + (p.hi - p.a0) ≤ p.S) (h7 : arr.size = p.S) (h8 : fr.1 = fr.2 ∨ arr.size ≤ fr.1)
    (h9 : ∀ i v, rowAt t p.a0 p.hi z i = some v → ∃ cv, arr[p.c0 + (i - p.a0)]? = some cv ∧ VR σ v cv)
    (hlo : p.a0 ≤ off) (hhi : off + vs.length ≤ p.hi) (hv : VRs σ vs cvs)
    (hw : w'.heap[p.b]? = some (.cells (arr.toList.take (p.c0 + (off - p.a0)) ++ cvs ++ arr.toList.drop (p.c0 + (off - p.a0) + cvs.length)).toArray elem fr)) :
    OR σ w' p (.row (t.fill off vs) p.a0 p.hi z g) := by
  have hl := hv.length
  have hsz : (arr.toList.take (p.c0 + (off - p.a0)) ++ cvs ++ arr.toList.drop (p.c0 + (off - p.a0) + cvs.length)).toArray.size = arr.size := by
    simp only [List.size_toArray, List.length_append, List.length_take, List.length_drop, Array.length_toList]
    omega
  refine ⟨rfl, rfl, h3, h4, h5, _, elem, fr, hw, by rw [hsz]; exact h7, by rw [hsz]; exact h8, fun i v hv' => ?_⟩
  obtain ⟨hi1, hi2, hz⟩ := rowAt_some hv'
  rw [Tr.get_fill] at hz
  by_cases hin : off ≤ i ∧ i < off + vs.length
  · rw [if_pos hin] at hz
    cases hvi : vs[i - off]? with
    | none =>
      have := List.getElem?_eq_none_iff.1 hvi
      omega
    | some x =>
      rw [hvi] at hz
      cases hz
      obtain ⟨y, hy, hr⟩ := VRs.get hv hvi
      refine ⟨y, ?_, hr⟩
      rw [List.getElem?_toArray, List.append_assoc, List.getElem?_append_right (by simp; omega), List.getElem?_append_left (by simp; omega)]
      rw [← hy]
      congr 1
      simp only [List.length_take, Array.length_toList]
      omega
  · rw [if_neg hin] at hz
    rw [← rowAt_in hi1 hi2] at hz
    obtain ⟨cv, hcv, hr⟩ := h9 i v hz
    refine ⟨cv, ?_, hr⟩
    rw [← hcv]
    have hin' : i < off ∨ off + vs.length ≤ i := by omega
    rcases hin' with hb | hb
    · rw [List.getElem?_toArray, List.append_assoc, List.getElem?_append_left (by simp; omega), List.getElem?_take, if_pos (by omega)]
      simp
    · rw [List.getElem?_toArray, List.getElem?_append_right (by simp; omega), List.getElem?_drop]
      simp only [List.length_append, List.length_take, Array.length_toList, Array.getElem?_toList]
      congr 1
      omega

theorem storeN_run {id off : Nat} {p : Pl} {vs : List AV} {cvs : List Value} {H' : Heap} (hc : Conc B w0 σ H w) (hp : σ id = some p) (h : storeN H id off vs = some H') (hv : VRs σ vs cvs) :
    ∃ w', (storeCells (p.at off) cvs).run P w = .ok () w' ∧ Conc B w0 σ H' w' ∧ Stp σ H w σ H' w' := by
  obtain ⟨o, ho, h⟩ := bnd h
  obtain ⟨t, lo, hi, z, g, rfl, h⟩ := rowOf_some h
  obtain ⟨hlo, hhi, hone, rfl, hg⟩ := storeIn_some h
  obtain ⟨rfl, rfl, h3, h4, h5, arr, elem, fr, h6, h7, h8, h9⟩ := hc.obj id p _ hp ho
  have hl := hv.length
  have hst := storeCells_run (P := P) p.b (p.c0 + (off - p.a0)) elem fr cvs 0 arr w h6 h8 (by omega) (hv.ones hone)
  simp only [Nat.add_zero] at hst
  refine ⟨_, hst, ?_⟩
  refine hc.put hp ⟨_, ho, hg⟩ (by simp) (fun b hb => setRow_other _ _ _ _ hb) (below_setRow _ _ _ ((hc.blk id p hp).1 ⟨_, ho, hg⟩)) ?_ (AObj.mine_row hg)
  exact row_stored h3 h4 h5 h7 h8 h9 hlo hhi hv (setRow_heap w p.b arr _ elem fr h6)

theorem oStore_run {t : TypeId} {id off : Nat} {v r : AV} {a b : Value} {H' : Heap} (hc : Conc B w0 σ H w) (h : oStore P H t id off v = some (r, H')) (hx : VR σ (.ptr id off) a) (hv : VR σ v b) :
    ∃ w', (Instr.storeAt t a b).run P w = .ok () w' ∧ r = undefA ∧ Conc B w0 σ H' w' ∧ Stp σ H w σ H' w' := by
  obtain ⟨n, hn, h⟩ := bnd h
  obtain ⟨h1, h⟩ := cond_some h
  obtain ⟨H2, hH, h⟩ := bnd h
  cases h
  have h1 := nbeq.1 h1
  rw [llen_eq] at h1
  obtain ⟨p, hp, hle, rfl⟩ := hx
  obtain ⟨w', hr, hc', hs⟩ := storeN_run (P := P) hc hp hH hv.cells
  have hsz : b.cells.size = n := by
    have := hv.cells.length
    simp only [Array.length_toList] at this
    omega
  exact ⟨w', by simp [Instr.storeAt, Instr.sureAddr, storeVar, run_sz hn, hsz, hr], rfl, hc', hs⟩

end Go.AM
