/-
  What the abstract machine's operations say of the model's: make, maps made, bytes of a string; marks on bytes.
-/
import Derived.Test.YtdjlpdboochkhaaGreatAmNew
namespace Go.AM
open Go.RowKit

variable {P : Program} {B : Nat} {w0 w : World} {σ : Sg} {H : Heap}

theorem natOf_some {x : Option Int} {d : Nat} {α : Type} {k : Nat → Option α} {r : α} (h : natOf x d k = some r) : ∃ n : Nat, x.getD d = n ∧ k n = some r ∧ (x = none → n = d) := by
  cases x with
  | none => exact ⟨d, rfl, h, fun _ => rfl⟩
  | some i =>
    cases i with
    | ofNat n => exact ⟨n, rfl, h, fun e => by cases e⟩
    | negSucc n => cases h

theorem wrap64_small {n : Nat} (h : n ≤ 1099511627776) : IntKind.i64.wrap (n : Int) = n := by
  rw [IntKind.wrap_i64]; omega

theorem makeSlice_run {t elem : TypeId} {l c : AV} {lc cc : Value} {v : AV} {H' : Heap} (hu : und P t = some (.slice elem)) (h : oMakeSlice P H elem l c = some (v, H')) (hl : VR σ l lc) (hc : VR σ c cc) :
    ∃ o f, v = f H.next ∧ H' = H.add o ∧ o.mine ∧ (∀ H2, oMakeSlice P H2 elem l c = some (f H2.next, H2.add o)) ∧ ∀ w, NewOk P σ (Instr.makeSlice t lc cc) o f w := by
  obtain ⟨s, hs, h⟩ := bnd h
  obtain ⟨b, hb, h⟩ := bnd h
  obtain ⟨z, hz, h⟩ := bnd h
  have g0 : (asI l fun l => asI c fun c => natOf (some l) 0 fun ln => natOf (some c) 0 fun cn => mkSl H z.cells s b ln cn) = some (v, H') := h
  obtain ⟨k1, l1, e1, g1⟩ := asI_some g0
  have g1 : (asI c fun c => natOf (some l1) 0 fun ln => natOf (some c) 0 fun cn => mkSl H z.cells s b ln cn) = some (v, H') := g1
  obtain ⟨k2, c1, e2, g2⟩ := asI_some g1
  have g2 : (natOf (some l1) 0 fun ln => natOf (some c1) 0 fun cn => mkSl H z.cells s b ln cn) = some (v, H') := g2
  obtain ⟨ln, hln, g3, _⟩ := natOf_some g2
  have g3 : (natOf (some c1) 0 fun cn => mkSl H z.cells s b ln cn) = some (v, H') := g3
  obtain ⟨cn, hcn, g4, _⟩ := natOf_some g3
  have g4 : mkSl H z.cells s b ln cn = some (v, H') := g4
  clear g0 g1 g2 g3 h
  subst e1; subst e2
  have hln : l1 = ln := hln
  have hcn : c1 = cn := hcn
  subst hln; subst hcn
  cases hl; cases hc
  obtain ⟨h1, g4⟩ := cond_some g4
  obtain ⟨h2, g4⟩ := cond_some g4
  obtain ⟨h3, g4⟩ := cond_none g4
  obtain ⟨h4, g4⟩ := cond_some g4
  obtain ⟨h5, g4⟩ := cond_some g4
  cases g4
  refine ⟨.row .e 0 (cn * s) z.cells 0, fun n => .slice n 0 ln cn, rfl, rfl, AObj.mine_row rfl, ?_, fun w => ?_⟩
  · intro H2
    unfold oMakeSlice
    rw [hs, hb, hz]
    show mkSl H2 z.cells s b ln cn = _
    unfold mkSl
    rw [h1, h2, h3, h4, h5]
    rfl
  · have h1 := nbeq.1 h1
    have h3 := nbeqf.1 h3
    have h4 := nble.1 h4
    have h5 : (b + 1) * cn ≤ 1099511627776 := nble.1 h5
    rw [llen_eq] at h1
    obtain ⟨i, hi, hbi⟩ := byOf_info hb
    obtain ⟨zv, hzr, hzv⟩ := run_zero hz
    have hzc : VRs σ z.cells zv.cells.toList := (ofV_VR hzv).cells
    have hzl : zv.cells.size = s := by have := hzc.length; simp only [Array.length_toList] at this; omega
    have hcs : cn ≤ 1099511627776 := by
      have : cn ≤ (b + 1) * cn := Nat.le_mul_of_pos_left _ (by omega)
      omega
    have hbc : b * cn ≤ 1099511627776 := by
      have : b * cn ≤ (b + 1) * cn := Nat.mul_le_mul_right _ (by omega)
      omega
    have hwl : IntKind.i64.wrap (ln : Int) = ln := wrap64_small (by omega)
    have hwc : IntKind.i64.wrap (cn : Int) = cn := wrap64_small hcs
    have hbig : ¬ ((i.bytes : Int) * (cn : Int) > 2 ^ 48) := by
      rw [hbi, ← Int.natCast_mul]
      omega
    have hsame : ∃ arr : Array Value, arr.size = cn * s ∧ (∀ j, j < cn * s → arr[j]? = some (zv.cells[j % s]!)) ∧ (Instr.makeSlice t (.int k1 ln) (.int k2 cn)).run P w = .ok (.slice (some ⟨w.heap.size, 0, none⟩) ln cn) (w.alloc (.cells arr elem)) := by
      by_cases h0 : cn * s = 0
      · refine ⟨#[], by simp [h0], fun j hj => by omega, ?_⟩
        have hr0 : Array.range 0 = #[] := rfl
        have hln0 : ¬ (ln : Int) < 0 := by omega
        have hlc : ¬ (ln : Int) > cn := by omega
        have hcn0 : ¬ (cn : Int) < 0 := by omega
        simp only [Instr.makeSlice, Sem.run_bind, run_und hu, asInt, asIntOf, Sem.run_pure, Result.andThen_ok, run_info hi, hwl, hwc, hbig, run_sz hs, hln0, hlc, hcn0, decide_false, Bool.or_false, Bool.false_eq_true, if_false, run_askRoom, Int.toNat_natCast, h0, if_true, newRow, run_newObj, hr0, Array.map_empty]
        rfl
      · refine ⟨(Array.range (cn * s)).map (fun i => zv.cells[i % zv.cells.size]!), by simp, fun j hj => by rw [hzl]; simp [hj], ?_⟩
        have hln0 : ¬ (ln : Int) < 0 := by omega
        have hlc : ¬ (ln : Int) > cn := by omega
        have hcn0 : ¬ (cn : Int) < 0 := by omega
        simp only [Instr.makeSlice, Sem.run_bind, run_und hu, asInt, asIntOf, Sem.run_pure, Result.andThen_ok, run_info hi, hwl, hwc, hbig, run_sz hs, hln0, hlc, hcn0, decide_false, Bool.or_false, Bool.false_eq_true, if_false, run_askRoom, Int.toNat_natCast, h0, hzr, newRow, run_newObj]
        rfl
    obtain ⟨arr, hsz, harr, hrun⟩ := hsame
    refine ⟨w.alloc (.cells arr elem), _, ⟨w.heap.size, 0, 0, cn * s, cn * s, 0⟩, hrun, rfl, by simp, fun b hb => heap_alloc_old w _ hb, below_alloc w _, fun n hn => ⟨?_, ?_⟩⟩
    · refine ⟨rfl, rfl, Nat.zero_le _, fun h => by omega, by simp, arr, elem, (0, 0), heap_alloc_new w _, hsz, .inl rfl, fun i v hv => ?_⟩
      obtain ⟨_, hi2, hz2⟩ := rowAt_some hv
      rw [Tr.get_e] at hz2
      have hz2 : lget z.cells (i % llen z.cells) = some v := hz2
      rw [lget_eq, llen_eq, h1] at hz2
      obtain ⟨y, hy, hr⟩ := VRs.get hzc hz2
      refine ⟨y, ?_, hr.mono (Le.add hn)⟩
      have : 0 + (i - 0) = i := by omega
      show arr[0 + (i - 0)]? = some y
      rw [this, harr i hi2]
      have hy : zv.cells[i % s]? = some y := by simpa using hy
      rw [getElem!_def, hy]
    · exact ⟨_, Sg.add_self _ _ _, Nat.zero_le _, rfl⟩

theorem makeMap_run {t kt et : TypeId} {ρ : Env} {ρc : Operand → Value} {r : Option Operand} {v : AV} {H' : Heap} (he : EnvR σ ρ ρc) (hu : und P t = some (.map kt et)) (h : oMakeMap ρ H r = some (v, H')) :
    v = .map H.next ∧ H' = H.add (.map [] 0) ∧ (∀ H2, oMakeMap ρ H2 r = some (.map H2.next, H2.add (.map [] 0))) ∧ ∀ w, NewOk P σ (Instr.makeMap t (r.map ρc)) (.map [] 0) .map w := by
  have fin : ∀ (w : World) (n : Nat), σ n = none → OR (σ.add n ⟨w.heap.size, 0, 0, 0, 0, 0⟩) (w.alloc (.map #[] 0)) ⟨w.heap.size, 0, 0, 0, 0, 0⟩ (.map [] 0) ∧ VR (σ.add n ⟨w.heap.size, 0, 0, 0, 0, 0⟩) (.map n) (.map (some w.heap.size)) := by
    intro w n _
    exact ⟨⟨#[], heap_alloc_new w _, .nil⟩, _, Sg.add_self _ _ _, rfl⟩
  cases r with
  | none =>
    have h : mkMap H = some (v, H') := h
    cases h
    refine ⟨rfl, rfl, fun _ => rfl, fun w => ⟨w.alloc (.map #[] 0), .map (some w.heap.size), ⟨w.heap.size, 0, 0, 0, 0, 0⟩, by simp [Instr.makeMap], rfl, by simp, fun b hb => heap_alloc_old w _ hb, below_alloc w _, fun n hn => fin w n hn⟩⟩
  | some x =>
    obtain ⟨xv, hx, h⟩ := bnd h
    obtain ⟨k, n, rfl, h⟩ := asI_some h
    cases h
    have hxc := he x _ hx
    cases hxc' : ρc x with
    | int k' n' =>
      rw [hxc'] at hxc
      refine ⟨rfl, rfl, fun H2 => ?_, fun w => ⟨w.alloc (.map #[] 0), .map (some w.heap.size), ⟨w.heap.size, 0, 0, 0, 0, 0⟩, by simp [Instr.makeMap, run_und hu, hxc', asInt, asIntOf], rfl, by simp, fun b hb => heap_alloc_old w _ hb, below_alloc w _, fun n hn => fin w n hn⟩⟩
      show ((ρ x).bind fun v => asI v fun _ => mkMap H2) = _
      rw [hx]; rfl
    | _ => rw [hxc'] at hxc; cases hxc

/-! ### Marks on bytes -/

theorem freeze_heap {w : World} {g n : Nat} {arr : Array Value} {t : TypeId} {fr : Nat × Nat} (hg : w.heap[g]? = some (.cells arr t fr)) (hn : n = arr.size) (hfr : fr.1 = fr.2 ∨ arr.size ≤ fr.1) :
    (w.freeze ⟨g, n, none⟩ 1).heap.size = w.heap.size ∧ (∀ b, b ≠ g → (w.freeze ⟨g, n, none⟩ 1).heap[b]? = w.heap[b]?) ∧
      ∃ fr', (w.freeze ⟨g, n, none⟩ 1).heap[g]? = some (.cells arr t fr') ∧ arr.size ≤ fr'.1 := by
  obtain ⟨lo, hi⟩ := fr
  refine ⟨by simp [World.freeze], fun b hb => ?_, ?_⟩
  · simp only [World.freeze, Nat.succ_ne_zero, if_false, Array.getElem?_modify]
    rw [if_neg (Ne.symm hb)]
  · simp only [World.freeze, Nat.succ_ne_zero, if_false, Array.getElem?_modify, if_true, hg, Option.map_some]
    by_cases e : lo = hi
    · subst e
      exact ⟨(n, n + 1), by simp, by simp; omega⟩
    · have : (lo == hi) = false := by simpa using e
      refine ⟨(min lo n, max hi (n + 1)), by simp [this], ?_⟩
      simp only at hfr ⊢
      omega

theorem below_freeze {w : World} {g n : Nat} (hB : B ≤ g) : Below B w (w.freeze ⟨g, n, none⟩ 1) := by
  refine ⟨rfl, rfl, rfl, by simp [World.freeze], fun k hk => ?_⟩
  simp only [World.freeze, Nat.succ_ne_zero, if_false, Array.getElem?_modify]
  rw [if_neg (by omega)]

theorem run_markStringish {w : World} {a : Addr} {arr : Array Value} {t : TypeId} {fr : Nat × Nat} (hg : w.heap[a.block]? = some (.cells arr t fr)) :
    (markStringish a).run P w = .ok () (w.freeze ⟨a.block, arr.size, none⟩ 1) := by
  simp [markStringish, World.shape?, hg]

theorem bytesCells_eq (s : ByteArray) : bytesCells (s.data.toList.map (·.toNat)) = s.data.toList.map fun (b : UInt8) => AV.int .u8 b.toNat := by
  unfold bytesCells
  rw [List.map_map]
  rfl

theorem VRs.bytes (l : List UInt8) : VRs σ (l.map fun (b : UInt8) => AV.int .u8 b.toNat) (l.map fun (b : UInt8) => Value.int .u8 b.toNat) := by
  induction l with
  | nil => rfl
  | cons b l ih => exact VRs.cons rfl ih

theorem bytesOfStr_run {src dst e : TypeId} {us : TypeDesc} {x v : AV} {a : Value} {H' : Heap} (hus : und P src = some us) (hud : und P dst = some (.slice e)) (he : und P e = some (.int .u8)) (h : bytesOfStr H x = some (v, H')) (hx : VR σ x a) :
    ∃ o f, v = f H.next ∧ H' = H.add o ∧ o.mine ∧ (∀ H2, bytesOfStr H2 x = some (f H2.next, H2.add o)) ∧ ∀ w, NewOk P σ (convert src dst a) o f w := by
  cases x <;> try (cases h; done)
  obtain ⟨bs, rfl, rfl⟩ := hx
  cases h
  refine ⟨_, fun n => .oslice n 0 (llen (bs.data.toList.map (·.toNat))), rfl, rfl, AObj.mine_row rfl, fun _ => rfl, fun w => ?_⟩
  have hlen : llen (bs.data.toList.map (·.toNat)) = bs.size := by rw [llen_eq, List.length_map]; rfl
  generalize hcap : (Question.appendCap bs.size 0 e).cut (w.tape w.drawn (.appendCap bs.size 0 e)) = cap
  have hge : bs.size ≤ cap := by
    subst hcap
    simp [Question.cut]
  let arr : Array Value := (bs.data.map fun (b : UInt8) => Value.int .u8 b.toNat) ++ Array.replicate (cap - bs.size) (Value.int .u8 0)
  have hsize : arr.size = cap := by
    show ((bs.data.map fun (b : UInt8) => Value.int .u8 b.toNat) ++ Array.replicate (cap - bs.size) (Value.int .u8 0)).size = cap
    simp only [Array.size_append, Array.size_map, Array.size_replicate]
    have : bs.data.size = bs.size := rfl
    omega
  have hg : (w.drew.alloc (.cells arr e)).heap[w.heap.size]? = some (.cells arr e (0, 0)) := heap_alloc_new w.drew _
  obtain ⟨f1, f2, fr', f3, f4⟩ := freeze_heap hg hsize.symm (.inl rfl)
  refine ⟨(w.drew.alloc (.cells arr e)).freeze ⟨w.heap.size, cap, none⟩ 1, .slice (some ⟨w.heap.size, 0, none⟩) bs.size cap, ⟨w.heap.size, 0, 0, bs.size, cap, 1⟩, ?_, rfl, ?_, ?_, ?_, fun n hn => ⟨?_, ?_⟩⟩
  · have hm := run_markStringish (P := P) (a := ⟨w.heap.size, 0, none⟩) hg
    rw [hsize] at hm
    simp only [convert, Sem.run_bind, run_und hus, run_und hud, Result.andThen_ok, run_und he]
    simp only [Conv.stringToBytes, Sem.run_bind, run_choose, Question.forced, Bool.false_eq_true, if_false, hcap, Result.andThen_ok, newRow, run_newObj, Sem.run_pure]
    have hm' : (markStringish { block := w.heap.size, off := 0 }).run P { heap := w.heap.push (.cells arr e), tape := w.tape, drawn := w.drawn + 1, os := w.os, output := w.output } =
      .ok () ((w.drew.alloc (.cells arr e)).freeze ⟨w.heap.size, cap, none⟩ 1) := hm
    rw [hm']
    rfl
  · rw [f1]; simp
  · intro b hb
    rw [f2 b (by omega)]
    exact heap_alloc_old w.drew _ hb
  · exact ((Below.refl _ w).drew.alloc (Nat.le_refl _) _).trans (below_freeze (Nat.le_refl _))
  · rw [hlen, bytesCells_eq]
    have hl2 : (bs.data.toList.map fun (b : UInt8) => AV.int .u8 b.toNat).length = bs.size := by simp
    have hrow := row_new (σ := σ.add n ⟨w.heap.size, 0, 0, bs.size, cap, 1⟩) (w := w) (w' := (w.drew.alloc (.cells arr e)).freeze ⟨w.heap.size, cap, none⟩ 1) (cs := bs.data.toList.map fun (b : UInt8) => AV.int .u8 b.toNat)
      (arr := (bs.data.toList.map fun (b : UInt8) => Value.int .u8 b.toNat).toArray) (elem := e) (p := ⟨w.heap.size, 0, 0, bs.size, cap, 1⟩) (g := 1) (S := cap) (by simpa using VRs.bytes bs.data.toList) (by rw [hl2]) (by omega)
      (big := arr) (fr := fr') hsize (fun i hi => ?_) (.inr f4) f3
    · rw [hl2] at hrow; exact hrow
    · show ((bs.data.map fun (b : UInt8) => Value.int .u8 b.toNat) ++ Array.replicate (cap - bs.size) (Value.int .u8 0))[i]? = _
      rw [hl2] at hi
      have : bs.data.size = bs.size := rfl
      rw [Array.getElem?_append_left (by simp; omega)]
      simp
  · rw [hlen]
    exact ⟨_, 0, cap, Sg.add_self _ _ _, Nat.zero_le _, rfl, .inl ⟨rfl, by simp⟩⟩

/-- Bytes kept as a string's are marked: nothing that is said turns. -/
theorem sameSl_run {src dst e e' : TypeId} {x v : AV} {a : Value} (hc : Conc B w0 σ H w) (hus : und P src = some (.slice e')) (hud : und P dst = some (.slice e)) (he : und P e = some (.int .u8))
    (h : sameSl H (Nat.beq src dst) x = some v) (hx : VR σ x a) : ∃ w', (convert src dst a).run P w = .ok a w' ∧ VR σ v a ∧ Conc B w0 σ H w' ∧ Stp σ H w σ H w' := by
  obtain ⟨h1, hg⟩ := cond_some h
  clear h
  have h1 := nbeq.1 h1
  subst h1
  have hee : e' = e := by rw [hus] at hud; cases hud; rfl
  subst hee
  have key : ∀ id off len, ((∃ cap, x = .slice id off len cap) ∨ x = .oslice id off len) → (∃ t lo hi z g, H.get id = some (.row t lo hi z g) ∧ Nat.beq g roG = false) → v = x → ∃ w', (convert src src a).run P w = .ok a w' ∧ VR σ v a ∧ Conc B w0 σ H w' ∧ Stp σ H w σ H w' := by
    intro id off len hs ho hv
    subst hv
    obtain ⟨p, ad, cap, hp, hle, rfl, _, hblk, _⟩ := sl_VR hs hx
    obtain ⟨t, lo, hi, z, g, ho, hro⟩ := ho
    obtain ⟨rfl, rfl, h3, h4, h5, arr, elem, fr, h6, h7, h8, h9⟩ := hc.obj id p _ hp ho
    rw [← hblk] at h6
    obtain ⟨f1, f2, fr', f3, f4⟩ := freeze_heap h6 rfl h8
    have hm := run_markStringish (P := P) (a := ad) h6
    have hb : B ≤ ad.block := by rw [hblk]; exact (hc.blk id p hp).1 ⟨_, ho, hro⟩
    have hpb : p.b = ad.block := hblk.symm
    obtain ⟨k1, k2⟩ := hc.put (w' := w.freeze ⟨ad.block, arr.size, none⟩ 1) hp ⟨_, ho, hro⟩ f1 (fun b hb' => f2 b (by rw [← hpb]; exact hb')) (below_freeze hb)
      (o := .row t p.a0 p.hi z g) ⟨rfl, rfl, h3, h4, h5, arr, elem, fr', by rw [hpb]; exact f3, h7, .inr f4, h9⟩ (AObj.mine_row hro)
    have hput : ∀ j, (H.put id (.row t p.a0 p.hi z g)).get j = H.get j := by
      intro j
      rw [Heap.get_put]
      by_cases e : j = id
      · subst e; rw [if_pos rfl, ho]
      · rw [if_neg e]
    refine ⟨w.freeze ⟨ad.block, arr.size, none⟩ 1, ?_, hx, ?_, ?_⟩
    · simp only [convert, Sem.run_bind, run_und hus, Result.andThen_ok, run_und he, beq_self_eq_true, hm, Sem.run_pure]
    · refine ⟨fun j q o' hq ho' => k1.obj j q o' hq (by rw [hput]; exact ho'), hc.ex, hc.inj, fun j q hq => ⟨(hc.blk j q hq).1, (k1.blk j q hq).2⟩, hc.next, k1.below, k1.size, hc.ro⟩
    · exact ⟨.refl σ, fun _ _ h k => sn h k, Nat.le_refl _, k2.size, k2.frame, fun _ _ _ => rfl, fun _ _ h k => sn h k, fun _ _ _ h => h⟩
  cases x with
  | slice id off len cap =>
    obtain ⟨o, ho, h⟩ := bnd (x := H.get id) hg
    obtain ⟨t, lo, hi, z, g, rfl, h⟩ := rowOf_some (o := o) h
    obtain ⟨hro, h⟩ := cond_none h
    cases h
    exact key _ _ _ (.inl ⟨_, rfl⟩) ⟨t, lo, hi, z, g, ho, hro⟩ rfl
  | oslice id off len =>
    obtain ⟨o, ho, h⟩ := bnd (x := H.get id) hg
    obtain ⟨t, lo, hi, z, g, rfl, h⟩ := rowOf_some (o := o) h
    obtain ⟨hro, h⟩ := cond_none h
    cases h
    exact key _ _ _ (.inr rfl) ⟨t, lo, hi, z, g, ho, hro⟩ rfl
  | _ => cases hg

end Go.AM
