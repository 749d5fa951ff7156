/-
  What the abstract machine's operations say of the model's: append as a whole, copy, clear, iterators.
-/
import Derived.Test.YtdjlpdboochkhaaGreatAmAppend
set_option linter.unusedVariables false
namespace Go.AM
open Go.RowKit

variable {P : Program} {B : Nat} {w0 w : World} {σ : Sg} {H : Heap}

theorem isZeros_some {ts : Array TypeId} {z : Bool} (h : isZeros P ts = some z) : ∃ u d, ts[1]? = some u ∧ P.underlying u = some d ∧ zeroD d = some z := by
  unfold isZeros at h
  cases h1 : ts[1]? with
  | none => rw [h1] at h; cases h
  | some u =>
    rw [h1] at h
    obtain ⟨d, hd, h2⟩ := bnd h
    exact ⟨u, d, rfl, hd, h2⟩

theorem ty0_some {ts : Array TypeId} {u : TypeDesc} (h : ty0 P ts = some u) : ∃ t, ts[0]? = some t ∧ P.underlying t = some u := by
  obtain ⟨t, ht, h2⟩ := bnd h
  exact ⟨t, ht, h2⟩

theorem append_args {ts : Array TypeId} {args : Array Value} {t u : TypeId} {a b : Value} (h0 : ts[0]? = some t) (h1 : ts[1]? = some u) (ha : args[0]? = some a) (hb : args[1]? = some b) (ty : TypeId) :
    Builtin.append_ ts ty args = Builtin.append_ #[t, u] ty #[a, b] := by
  unfold Builtin.append_
  rw [h0, h1, ha, hb]
  rfl

theorem appendA_run {ts : Array TypeId} {args : Array Value} {t ty elem : TypeId} {zeros : Bool} {s x v : AV} {sc xc : Value} {H' : Heap} (hc : Conc B w0 σ H w) (ht : ts[0]? = some t) (hu : P.underlying t = some (.slice elem)) (hz : isZeros P ts = some zeros)
    (ha : args[0]? = some sc) (hb : args[1]? = some xc) (h : appendA P H elem zeros s x = some (v, H')) (hs : VR σ s sc) (hx : VR σ x xc) :
    ∃ σ' w' cv, (Builtin.append_ ts ty args).run P w = .ok cv w' ∧ VR σ' v cv ∧ Conc B w0 σ' H' w' ∧ Stp σ H w σ' H' w' := by
  obtain ⟨size, hsz, g1⟩ := bnd h
  obtain ⟨b, hby, g2⟩ := bnd g1
  obtain ⟨z, hze, g3⟩ := bnd g2
  obtain ⟨h1, g4⟩ := cond_some g3
  obtain ⟨h2, g45⟩ := cond_none g4
  obtain ⟨hsr, g5⟩ := cond_none g45
  clear h g1 g2 g3 g4 g45
  have h1 := nbeq.1 h1
  rw [llen_eq] at h1
  have h2 := nbeqf.1 h2
  obtain ⟨u, ud, hts1, hud, hzd⟩ := isZeros_some hz
  obtain ⟨i, hi, hisz⟩ := szOf_info hsz
  obtain ⟨i', hi', hiby⟩ := byOf_info hby
  rw [hi] at hi'; cases hi'
  obtain ⟨i', zv, hi', hzv, hofv⟩ := zeroOf_info hze
  rw [hi] at hi'; cases hi'
  have hvr : VR σ z zv := ofV_VR hofv
  obtain ⟨n, new, arr, k1, k2, k3⟩ := appended_run (za := z) hc hu hi hisz hiby hzv hze hvr h1 h2 hud hzd hx g5
  have hzs : zv.cells.size = size := by have := hvr.cells.asize; omega
  rw [append_args ht hts1 ha hb]
  exact appTo_run hc hisz hiby h2 hsr hzs k3 k2 hs k1

theorem lenOf_run {x : AV} {xc : Value} {n : Nat} (h : copyLen x = some n) (hx : VR σ x xc) : (Builtin.lenOf xc).run P w = .ok n w := by
  cases x <;> try (cases h; done)
  · cases h; obtain ⟨bs, rfl, rfl⟩ := hx; simp [Builtin.lenOf, llen_eq]
  · cases h; obtain ⟨p, hp, hle, rfl⟩ := hx; simp [Builtin.lenOf]
  · cases h; obtain ⟨p, o, c, hp, hle, rfl, _⟩ := hx; simp [Builtin.lenOf]
  · cases h; cases hx; simp [Builtin.lenOf]

theorem loadN_zero {id off : Nat} {cs : List AV} (h : loadN H id off 0 = some cs) : cs = [] := by
  obtain ⟨t, lo, hi, z, g, _, h2⟩ := loadN_some h
  exact List.eq_nil_of_length_eq_zero (cellsFrom_some h2).1

/-- The first cells of what is copied. -/
theorem copySrc_run {size n m : Nat} {x : AV} {xc : Value} {cs : List AV} (hc : Conc B w0 σ H w) (hn : copyLen x = some m) (hm : n ≤ m) (h : copySrc H size n x = some cs) (hx : VR σ x xc) :
    ∃ arr : Array Value, (Builtin.firstCells size n xc).run P w = .ok arr w ∧ VRs σ cs arr.toList := by
  have slices : ∀ id off len, ((∃ cap, x = .slice id off len cap) ∨ x = .oslice id off len) → loadN H id off (n * size) = some cs → n ≤ len →
      ∃ arr : Array Value, (Builtin.firstCells size n xc).run P w = .ok arr w ∧ VRs σ cs arr.toList := by
    intro id off len hs hl hnl
    obtain ⟨p, ad, cap, hp, hle, rfl, had, _⟩ := sl_VR hs hx
    obtain ⟨arr, h1, h2, h3⟩ := loadN_run (P := P) hc.rd hp hl
    refine ⟨arr, ?_, h2⟩
    rw [firstCells_slice]
    by_cases h0 : 0 < len
    · rw [had h0]; exact h1 w rfl
    · have : n = 0 := by omega
      subst this
      simp only [Nat.zero_mul] at h3 ⊢
      have hcs : cs = [] := List.eq_nil_of_length_eq_zero h3
      subst hcs
      have : arr = #[] := by
        have := h2.asize
        exact Array.eq_empty_of_size_eq_zero this
      subst this
      simp [loadCells, loadCellsFrom]
  cases x with
  | slice id off len cap => cases hn; exact slices id off _ (.inl ⟨cap, rfl⟩) h hm
  | oslice id off len => cases hn; exact slices id off _ (.inr rfl) h hm
  | nils => cases h; cases hx; exact ⟨#[], by simp [Builtin.firstCells], rfl⟩
  | str s =>
    obtain ⟨h1, h2⟩ := cond_some h
    cases h2
    obtain ⟨bs, rfl, rfl⟩ := hx
    refine ⟨(bs.extract 0 n).data.map fun (b : UInt8) => Value.int .u8 b.toNat, by simp [Builtin.firstCells], ?_⟩
    rw [ltake_eq, ← List.map_take]
    have e : bs.data.toList.take n = (bs.extract 0 n).data.toList := by
      simp [ByteArray.data_extract]
    rw [e, bytesCells_eq]
    simpa using VRs.bytes (bs.extract 0 n).data.toList
  | _ => cases h

theorem copy_run {ts : Array TypeId} {args : Array Value} {t ty elem : TypeId} {size : Nat} {d x v : AV} {dc xc : Value} {H' : Heap} (hc : Conc B w0 σ H w) (ht : ts[0]? = some t) (hu : P.underlying t = some (.slice elem)) (hsz : szOf P elem = some size)
    (ha : args[0]? = some dc) (hb : args[1]? = some xc) (h : copyA H size d x = some (v, H')) (hd : VR σ d dc) (hx : VR σ x xc) :
    ∃ w' cv, (Builtin.copy_ ts ty args).run P w = .ok cv w' ∧ VR σ v cv ∧ Conc B w0 σ H' w' ∧ Stp σ H w σ H' w' := by
  obtain ⟨dn, h1, g1⟩ := bnd h
  obtain ⟨sn, h2, g2⟩ := bnd g1
  obtain ⟨cs, h3, g3⟩ := bnd g2
  clear h g1 g2
  have hlen := lenOf_run (P := P) (w := w) h2 hx
  obtain ⟨arr, h4, h5⟩ := copySrc_run (P := P) hc h2 (Nat.min_le_left _ _) h3 hx
  have slices : ∀ id off len, ((∃ cap, d = .slice id off len cap) ∨ d = .oslice id off len) → copyLen d = some len → ((storeN H id off cs).bind fun H' => some (goI (Nat.min sn dn), H')) = some (v, H') →
      ∃ w' cv, (Builtin.copy_ ts ty args).run P w = .ok cv w' ∧ VR σ v cv ∧ Conc B w0 σ H' w' ∧ Stp σ H w σ H' w' := by
    intro id off len hs hcl g
    rw [hcl] at h1
    have e := Option.some.inj h1
    subst e
    obtain ⟨H2, hH2, g⟩ := bnd g
    cases g
    obtain ⟨p, ad, cap, hp, hle, rfl, had, _⟩ := sl_VR hs hd
    obtain ⟨w', hr, k1, k2⟩ := storeN_run (P := P) hc hp hH2 h5
    refine ⟨w', .int .i64 (Nat.min sn len : Nat), ?_, rfl, k1, k2⟩
    by_cases h0 : 0 < len
    · have had := had h0
      subst had
      simp [Builtin.copy_, ht, ha, hb, run_underlying hu, hlen, run_sz hsz, h4, hr, goInt]
    · have : len = 0 := by omega
      subst this
      have hmin : Nat.min sn 0 = 0 := Nat.min_zero sn
      have hmin' : min sn 0 = 0 := Nat.min_zero sn
      rw [hmin] at h3 ⊢
      rw [hmin'] at h4
      have hcs : arr = #[] := by
        have hcs0 : cs = [] := by
          cases x with
          | slice a b c e => exact loadN_zero (by simpa [copySrc] using h3)
          | oslice a b c => exact loadN_zero (by simpa [copySrc] using h3)
          | nils => cases h3; rfl
          | str s =>
            obtain ⟨_, q⟩ := cond_some (b := Nat.beq size 1) h3
            cases q
            rw [ltake_eq]; rfl
          | _ => cases h3
        subst hcs0
        have := h5.asize
        exact Array.eq_empty_of_size_eq_zero this
      subst hcs
      have hw' : w' = w := by
        have hr : (storeCells (p.at off) []).run P w = .ok () w' := hr
        simp [storeCells] at hr
        exact hr.symm
      subst hw'
      have hm2 : Nat.min sn 0 = 0 := Nat.min_zero sn
      simp [Builtin.copy_, ht, ha, hb, run_underlying hu, hlen, run_sz hsz, h4, goInt, storeCells]
  cases d with
  | slice id off len cap => exact slices id off len (.inl ⟨cap, rfl⟩) rfl g3
  | oslice id off len => exact slices id off len (.inr rfl) rfl g3
  | nils =>
    cases h1
    cases hd
    have g3 : some (goI (Nat.min sn 0), H) = some (v, H') := g3
    cases g3
    have hm2 : min sn 0 = 0 := Nat.min_zero sn
    rw [hm2] at h4
    refine ⟨w, .int .i64 (Nat.min sn 0 : Nat), ?_, rfl, hc, Stp.refl _ _ _⟩
    simp [Builtin.copy_, ht, ha, hb, run_underlying hu, hlen, run_sz hsz, h4, goInt]
  | str s => cases g3
  | _ => cases h1

theorem clear_run {ts : Array TypeId} {args : Array Value} {t ty : TypeId} {u : TypeDesc} {x v : AV} {xc : Value} {H' : Heap} (hc : Conc B w0 σ H w) (ht : ts[0]? = some t) (hu : P.underlying t = some u)
    (ha : args[0]? = some xc) (h : oClear P H u x = some (v, H')) (hx : VR σ x xc) :
    ∃ w', (Builtin.clear_ ts ty args).run P w = .ok (.tuple #[]) w' ∧ v = undefA ∧ Conc B w0 σ H' w' ∧ Stp σ H w σ H' w' := by
  cases u with
  | map kt et =>
    cases x with
    | nilm =>
      cases h; cases hx
      exact ⟨w, by simp [Builtin.clear_, ht, ha, run_underlying hu], rfl, hc, Stp.refl _ _ _⟩
    | map id =>
      obtain ⟨es, clock, hg, g⟩ := mapOf_some (k := fun _ clock => some (undefA, H.put id (.map [] clock))) h
      cases g
      obtain ⟨p, hp, rfl⟩ := hx
      obtain ⟨ec, h1, h2⟩ := hc.obj id p _ hp hg
      have hnc : ∀ c e f, Obj.map ec clock ≠ .cells c e f := by intro _ _ _ e; cases e
      have ho : OR σ (World.putObj' w p.b (.map #[] clock)) p (.map [] clock) := ⟨#[], putObj_at h1, .nil⟩
      obtain ⟨k1, k2⟩ := hc.putObj hp ⟨_, hg, rfl⟩ ho
      exact ⟨_, by simp [Builtin.clear_, ht, ha, run_underlying hu, run_getObj h1 hnc, run_setObj h1 hnc], rfl, k1, k2⟩
    | _ => cases h
  | slice elem =>
    have slices : ∀ id off len, ((∃ cap, x = .slice id off len cap) ∨ x = .oslice id off len) → ((szOf P elem).bind fun s => zerosN P elem s len fun cs => (storeN H id off cs).bind fun H' => some (undefA, H')) = some (v, H') →
        ∃ w', (Builtin.clear_ ts ty args).run P w = .ok (.tuple #[]) w' ∧ v = undefA ∧ Conc B w0 σ H' w' ∧ Stp σ H w σ H' w' := by
      intro id off len hs g
      obtain ⟨size, hsz, g1⟩ := bnd g
      obtain ⟨z, hz, g2⟩ := bnd g1
      obtain ⟨h1, g3⟩ := cond_some g2
      obtain ⟨H2, hH2, g4⟩ := bnd g3
      cases g4
      obtain ⟨p, ad, cap, hp, hle, rfl, had, _⟩ := sl_VR hs hx
      obtain ⟨i, zv, hi, hiz, hofv⟩ := zeroOf_info hz
      have hvr : VR σ z zv := ofV_VR hofv
      have h1 := nbeq.1 h1
      rw [llen_eq] at h1
      by_cases h0 : 0 < len
      · by_cases hs0 : 0 < zv.cells.size
        · obtain ⟨w', hr, k1, k2⟩ := storeN_run (P := P) hc hp hH2 (zeroCells_VRs hvr len hs0)
          refine ⟨w', ?_, rfl, k1, k2⟩
          have had := had h0
          subst had
          obtain ⟨l, rfl⟩ : ∃ l, len = l + 1 := ⟨len - 1, by omega⟩
          simp [Builtin.clear_, ht, ha, run_underlying hu, zeroValue, typeInfo, hi, hiz, hr]
        · have hzc : zv.cells = #[] := Array.eq_empty_of_size_eq_zero (by omega)
          have hza : z.cells = [] := List.eq_nil_of_length_eq_zero (by have := hvr.cells.asize; omega)
          have hrep : repl len z.cells = [] := by rw [hza, repl_eq]; simp
          rw [hrep] at hH2
          obtain ⟨w', hr, k1, k2⟩ := storeN_run (P := P) hc hp hH2 (VRs.nil)
          refine ⟨w', ?_, rfl, k1, k2⟩
          have had := had h0
          subst had
          obtain ⟨l, rfl⟩ : ∃ l, len = l + 1 := ⟨len - 1, by omega⟩
          have hzz : Builtin.zeroCells zv.cells (l + 1) = #[] := by rw [hzc]; simp [Builtin.zeroCells]
          simp [Builtin.clear_, ht, ha, run_underlying hu, zeroValue, typeInfo, hi, hiz, hzz, hr]
      · have : len = 0 := by omega
        subst this
        have hH2 : storeN H id off [] = some H' := hH2
        obtain ⟨w', hr, k1, k2⟩ := storeN_run (P := P) hc hp hH2 (VRs.nil)
        have hw' : w' = w := by
          simp [storeCells] at hr
          exact hr.symm
        subst hw'
        exact ⟨w', by cases ad <;> simp [Builtin.clear_, ht, ha, run_underlying hu], rfl, k1, k2⟩
    cases x with
    | slice id off len cap => exact slices id off len (.inl ⟨cap, rfl⟩) h
    | oslice id off len => exact slices id off len (.inr rfl) h
    | nils =>
      cases h; cases hx
      exact ⟨w, by simp [Builtin.clear_, ht, ha, run_underlying hu], rfl, hc, Stp.refl _ _ _⟩
    | _ => cases h
  | _ => cases h

end Go.AM
