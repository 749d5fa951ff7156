/-
  What the abstract machine's operations say of the model's: build, conversions, addresses, indexes.
-/
import Derived.Test.YtdjlpdboochkhaaGreatAmOps2
namespace Go.AM
open Go.RowKit

variable {P : Program} {w : World} {σ : Sg}

theorem placesA_run : ∀ {fs : List Field} {ps : List (Nat × Nat)}, placesA P fs = some ps → ∀ w, (fs.mapM fun f => Prod.mk f.offset <$> sizeOf f.type).run P w = .ok ps w
  | [], _, h, w => by cases h; simp
  | f :: fs, _, h, w => by
    have h : ((szOf P f.type).bind fun n => (placesA P fs).bind fun ps => some ((f.offset, n) :: ps)) = some _ := h
    obtain ⟨n, hn, h⟩ := bnd h
    obtain ⟨ps, hps, h⟩ := bnd h
    cases h
    simp [List.mapM_cons, run_sz hn, placesA_run hps w]

theorem buildA_run {t : TypeId} {ps : List (Nat × AV)} {pc : List (Nat × Value)} {v : AV} (h : buildA P t ps = some v) (hp : PRs σ ps pc) :
    PureOk P σ (Instr.build t pc.toArray) v := by
  obtain ⟨z, hz, h⟩ := bnd h
  obtain ⟨pl, hpl, h⟩ := bnd h
  obtain ⟨cs, hcs, h⟩ := bnd h
  cases h
  obtain ⟨zv, hzr, hzv⟩ := run_zero hz
  obtain ⟨u, hu, hpl⟩ := bnd hpl
  have hu' := fun w => run_und (w := w) hu
  have hzc : VRs σ z.cells zv.cells.toList := (ofV_VR hzv).cells
  cases u with
  | struct fields =>
    have hpl : ((placesA P fields.toList).bind fun ps => some (lget ps)) = some pl := hpl
    obtain ⟨places, hplaces, hpl⟩ := bnd hpl
    cases hpl
    obtain ⟨rc, hrc, hr⟩ := fillA_run hcs hp hzc
    have hrc : Instr.fill (fun i => places[i]?) zv.cells pc = some rc := by
      rw [← hrc]; congr 1; funext i; exact (lget_eq places i).symm
    refine ⟨.agg rc, ⟨rc, rfl, hr⟩, fun w => ?_⟩
    have hp2 := placesA_run hplaces w
    simp only [Instr.build, Sem.run_bind, hzr, hu', Result.andThen_ok, Array.mapM_eq_mapM_toList]
    simp [hp2, hrc]
  | array n elem =>
    have hpl : ((szOf P elem).bind fun s => some fun i => some (Nat.mul i s, s)) = some pl := hpl
    obtain ⟨s, hs, hpl⟩ := bnd hpl
    cases hpl
    obtain ⟨rc, hrc, hr⟩ := fillA_run hcs hp hzc
    refine ⟨.agg rc, ⟨rc, rfl, hr⟩, fun w => ?_⟩
    have hrc : Instr.fill (fun i => some (i * s, s)) zv.cells pc = some rc := hrc
    simp [Instr.build, hzr, hu', run_sz hs, hrc]
  | _ => cases hpl

theorem convInt_run {src dst : TypeId} {us : TypeDesc} {k : IntKind} {x v : AV} {a : Value} (hus : und P src = some us) (hud : und P dst = some (.int k)) (h : convInt k x = some v) (hx : VR σ x a) :
    PureOk P σ (convert src dst a) v := by
  obtain ⟨kd, n, rfl, h⟩ := asI_some h
  cases h
  cases hx
  exact ⟨_, rfl, fun w => by simp [convert, run_und hus, run_und hud, Conv.intToInt]⟩

theorem convStr_run {src dst : TypeId} {us : TypeDesc} {x v : AV} {a : Value} (hus : und P src = some us) (hud : und P dst = some .string) (h : convStr x = some v) (hx : VR σ x a) :
    PureOk P σ (convert src dst a) v := by
  cases x <;> try (cases h; done)
  cases h
  obtain ⟨s, rfl, hs⟩ := hx
  exact ⟨.string s, ⟨s, rfl, hs⟩, fun w => by simp [convert, run_und hus, run_und hud]⟩

theorem nilChk_run {x v : AV} {a : Value} (h : nilChk x = some v) (hx : VR σ x a) : v = x ∧ ((∃ ad, a = .pointer (some ad)) ∨ (∃ f b c, a = .func (.func f) b c) ∨ ∃ l b c, a = .func (.yield l) b c) := by
  cases x <;> try (cases h; done)
  · cases h; obtain ⟨p, _, _, rfl⟩ := hx; exact ⟨rfl, .inl ⟨_, rfl⟩⟩
  · cases h; obtain ⟨b, c, rfl, _⟩ := hx; exact ⟨rfl, .inr (.inl ⟨_, _, _, rfl⟩)⟩
  · cases h; obtain ⟨p, _, rfl⟩ := hx; exact ⟨rfl, .inr (.inr ⟨_, _, _, rfl⟩)⟩

theorem mkIf_run {t : TypeId} {u : TypeDesc} {x v : AV} {a : Value} (hu : und P t = some u) (h : mkIf t u x = some v) (hx : VR σ x a) : PureOk P σ (Instr.makeInterface t a) v := by
  unfold mkIf at h
  split at h
  · cases h
  · cases h
    refine ⟨.iface t a, ⟨a, rfl, hx⟩, fun w => ?_⟩
    rename_i hn
    cases u <;> first | (exact (hn _ rfl).elim) | (simp [Instr.makeInterface, run_und hu])

theorem mkFn_run {ρ : Env} {ρc : Operand → Value} (he : EnvR σ ρ ρc) {fn : Fn} {a b : Array Operand} {v : AV} (h : mkFn ρ fn a.toList b.toList = some v) :
    PureOk P σ (Instr.makeFunc fn (a.map ρc) (b.map ρc)) v := by
  cases fn <;> try (cases h; done)
  obtain ⟨as, has, h⟩ := bnd h
  obtain ⟨bs, hbs, h⟩ := bnd h
  cases h
  refine ⟨_, ⟨a.map ρc, b.map ρc, rfl, ?_, ?_⟩, fun w => by simp [Instr.makeFunc]⟩
  · simpa using argsA_VRs he has
  · simpa using argsA_VRs he hbs

theorem Pl.at_add {p : Pl} {off n : Nat} (h : p.a0 ≤ off) : (p.at off).add n = p.at (off + n) := by
  unfold Pl.at Addr.add
  split
  · subst_vars; rfl
  · simp; omega

theorem fAddr_run {t : TypeId} {fields : Array Field} {f id off : Nat} {v : AV} {a : Value} (hu : und P t = some (.struct fields)) (h : fAddr P fields f id off = some v) (hx : VR σ (.ptr id off) a) :
    PureOk P σ (Instr.fieldAt t a f) v := by
  obtain ⟨fd, hfd, h⟩ := bnd h
  obtain ⟨n, hn, h⟩ := bnd h
  obtain ⟨h0, h⟩ := cond_none h
  cases h
  have h0 := nbeqf.1 h0
  obtain ⟨p, hp, hle, rfl⟩ := hx
  rw [lget_eq] at hfd
  have hfd : fields[f]? = some fd := by simpa using hfd
  refine ⟨.pointer (some (p.at (off + fd.offset))), ⟨p, hp, Nat.le_trans hle (Nat.le_add_right _ _), rfl⟩, fun w => ?_⟩
  simp [Instr.fieldAt, run_und hu, hfd, Instr.sureAddr, fieldPlace, run_sz hn, h0, Pl.at_add hle]

theorem inRange_some {i : Int} {len : Nat} {α : Type} {k : Nat → Option α} {r : α} (h : inRange i len k = some r) : ∃ n : Nat, i = n ∧ n < len ∧ k n = some r := by
  unfold inRange at h
  split at h
  · rename_i n
    obtain ⟨h1, h⟩ := cond_some (b := Nat.ble (Nat.succ n) len) h
    exact ⟨n, rfl, nble.1 h1, h⟩
  · cases h

/-- A slice that is not nil: its address and length. -/
theorem asSl_some {x : AV} {α : Type} {nil : Option α} {k : Nat → Nat → Nat → Option α} {r : α} (h : asSl x nil k = some r) :
    (x = .nils ∧ nil = some r) ∨ ∃ id off len, k id off len = some r ∧ ((∃ cap, x = .slice id off len cap) ∨ x = .oslice id off len) := by
  cases x <;> try (cases h; done)
  · exact .inr ⟨_, _, _, h, .inl ⟨_, rfl⟩⟩
  · exact .inr ⟨_, _, _, h, .inr rfl⟩
  · exact .inl ⟨rfl, h⟩

/-- What is known of such a slice's value; if it has an element, its address is that of the place. -/
theorem sl_VR {x : AV} {id off len : Nat} {a : Value} (hs : (∃ cap, x = .slice id off len cap) ∨ x = .oslice id off len) (hx : VR σ x a) :
    ∃ p ad cap, σ id = some p ∧ p.a0 ≤ off ∧ a = .slice (some ad) len cap ∧ (0 < len → ad = p.at off) ∧ ad.block = p.b ∧ ad.spot = none := by
  rcases hs with ⟨cap, rfl⟩ | rfl
  · obtain ⟨p, hp, hle, rfl⟩ := hx
    exact ⟨p, _, cap, hp, hle, rfl, fun _ => rfl, rfl, rfl⟩
  · obtain ⟨p, o, cap, hp, hle, rfl, h⟩ := hx
    refine ⟨p, _, cap, hp, hle, rfl, fun hl => ?_, rfl, rfl⟩
    rcases h with ⟨rfl, _⟩ | ⟨h0, _⟩
    · rfl
    · omega

theorem oIndexAddr_run {t : TypeId} {u : TypeDesc} {x v : AV} {a b : Value} {k : IntKind} {i : Int} (hu : und P t = some u) (h : oIndexAddr P u x i = some v) (hx : VR σ x a) (hb : b = .int k i) :
    PureOk P σ (Instr.indexAt t a b) v := by
  subst hb
  cases u with
  | array len elem =>
    obtain ⟨s, hs, h⟩ := bnd h
    obtain ⟨id, off, rfl, h⟩ := asPtr_some h
    obtain ⟨n, rfl, hn, h⟩ := inRange_some h
    cases h
    obtain ⟨p, hp, hle, rfl⟩ := hx
    refine ⟨.pointer (some (p.at (off + n * s))), ⟨p, hp, Nat.le_trans hle (Nat.le_add_right _ _), rfl⟩, fun w => ?_⟩
    have hn2 : (0 : Int) ≤ (n : Int) ∧ (n : Int) < (len : Int) := by omega
    simp [Instr.indexAt, asIntOf, run_und hu, Instr.sureAddr, hn, run_sz hs, Pl.at_add hle]
  | slice elem =>
    obtain ⟨s, hs, h⟩ := bnd h
    rcases asSl_some h with ⟨_, h⟩ | ⟨id, off, len, h, hsl⟩
    · cases h
    · obtain ⟨n, rfl, hn, h⟩ := inRange_some h
      cases h
      obtain ⟨p, ad, cap, hp, hle, rfl, had, _⟩ := sl_VR hsl hx
      have had := had (by omega)
      subst had
      refine ⟨.pointer (some (p.at (off + n * s))), ⟨p, hp, Nat.le_trans hle (Nat.le_add_right _ _), rfl⟩, fun w => ?_⟩
      simp [Instr.indexAt, asIntOf, run_und hu, hn, run_sz hs, Pl.at_add hle]
  | _ => cases h

theorem oIndex_run {t : TypeId} {u : TypeDesc} {x v : AV} {a b : Value} {k : IntKind} {i : Int} (hu : und P t = some u) (h : oIndex P u x i = some v) (hx : VR σ x a) (hb : b = .int k i) :
    PureOk P σ (Instr.index t a b) v := by
  subst hb
  cases u with
  | array len elem =>
    obtain ⟨s, hs, h⟩ := bnd h
    obtain ⟨cs, rfl, h⟩ := asAg_some h
    obtain ⟨n, rfl, hn, h⟩ := inRange_some h
    obtain ⟨ca, rfl, hca⟩ := hx
    have hall : ∀ w, ∃ cv, (part elem ca (n * s)).run P w = .ok cv w ∧ VR σ v cv := fun w => partA_run (w := w) h hca
    obtain ⟨cv, h1, hv⟩ := hall default
    have hsame : ∀ w, (part elem ca (n * s)).run P w = .ok cv w := by
      intro w
      obtain ⟨b, hb, h⟩ := bnd h
      unfold part at h1 ⊢
      cases b with
      | true =>
        obtain ⟨n', hn', h⟩ := bnd (x := szOf P elem) h
        simp [run_agg hb, run_sz hn'] at h1 ⊢
        exact h1
      | false =>
        simp only [Sem.run_bind, run_agg hb, Result.andThen_ok, Bool.false_eq_true, if_false] at h1 ⊢
        cases hc : ca[n * s]? with
        | none => rw [hc] at h1; simp at h1
        | some y => rw [hc] at h1; simpa using h1
    exact ⟨cv, hv, fun w => by simp [Instr.index, asIntOf, run_und hu, hn, run_sz hs, hsame]⟩
  | string =>
    cases x <;> try (cases h; done)
    obtain ⟨s, rfl, rfl⟩ := hx
    obtain ⟨n, rfl, hn, h⟩ := inRange_some h
    obtain ⟨c, hc, h⟩ := bnd h
    cases h
    rw [lget_eq, List.getElem?_map] at hc
    cases hd : s.data.toList[n]? with
    | none => rw [hd] at hc; cases hc
    | some c' =>
      rw [hd] at hc
      cases hc
      have hs : s[n]? = some c' := by
        rw [llen_eq, List.length_map, Array.length_toList] at hn
        have hn' : n < s.size := hn
        rw [List.getElem?_eq_some_iff] at hd
        obtain ⟨h1, h2⟩ := hd
        rw [getElem?_pos s n hn']
        congr 1
      exact ⟨.int .u8 c'.toNat, rfl, fun w => by simp [Instr.index, asIntOf, run_und hu, hs]⟩
  | _ => cases h

theorem extract_run {i : Nat} {l : List AV} {v : AV} {a : Value} (h : lget l i = some v) (hx : VR σ (.tup l) a) : PureOk P σ (Instr.extract a i) v := by
  obtain ⟨cs, rfl, hs⟩ := hx
  rw [lget_eq] at h
  obtain ⟨y, hy, hv⟩ := VRs.get hs h
  have hy : cs[i]? = some y := by simpa using hy
  exact ⟨y, hv, fun w => by simp [Instr.extract, hy]⟩

theorem field_run {t : TypeId} {fields : Array Field} {f : Nat} {fd : Field} {l : List AV} {v : AV} {a : Value} (hu : und P t = some (.struct fields)) (hfd : lget fields.toList f = some fd) (h : partA P fd.type l fd.offset = some v) (hx : VR σ (.agg l) a) (w : World) :
    ∃ cv, (Instr.field t a f).run P w = .ok cv w ∧ VR σ v cv := by
  obtain ⟨cs, rfl, hs⟩ := hx
  rw [lget_eq] at hfd
  have hfd : fields[f]? = some fd := by simpa using hfd
  obtain ⟨cv, h1, hv⟩ := partA_run (w := w) h hs
  exact ⟨cv, by simp [Instr.field, run_und hu, hfd, asAgg, h1], hv⟩

theorem s2ap_run {t e : TypeId} {n : Nat} {x v : AV} {a : Value} (hu : und P t = some (.array n e)) (hn : n ≠ 0) (h : s2ap n x = some v) (hx : VR σ x a) : PureOk P σ (Instr.arrayAt t a) v := by
  have key : ∀ id off len, ((∃ cap, x = .slice id off len cap) ∨ x = .oslice id off len) → cond (Nat.ble n len) (some (AV.ptr id off)) none = some v → PureOk P σ (Instr.arrayAt t a) v := by
    intro id off len hs h
    obtain ⟨h1, h⟩ := cond_some h
    cases h
    have h1 := nble.1 h1
    obtain ⟨p, ad, cap, hp, hle, rfl, had, _⟩ := sl_VR hs hx
    have had := had (by omega)
    subst had
    have : ¬ len < n := by omega
    exact ⟨_, ⟨p, hp, hle, rfl⟩, fun w => by simp [Instr.arrayAt, run_und hu, this]⟩
  cases x <;> try (cases h; done)
  · exact key _ _ _ (.inl ⟨_, rfl⟩) h
  · exact key _ _ _ (.inr rfl) h

theorem minA_run {x y v : AV} {a b : Value} (h : minA x y = some v) (hx : VR σ x a) (hy : VR σ y b) : PureOk P σ (Builtin.min2 a b) v := by
  unfold minA at h
  split at h <;> cases h
  cases hx; cases hy
  refine ⟨_, rfl, fun w => ?_⟩
  simp only [Builtin.min2, Sem.run_pure, intLt_eq]
  split <;> simp [*]
theorem maxA_run {x y v : AV} {a b : Value} (h : maxA x y = some v) (hx : VR σ x a) (hy : VR σ y b) : PureOk P σ (Builtin.max2 a b) v := by
  unfold maxA at h
  split at h <;> cases h
  cases hx; cases hy
  rename_i k x k' y
  refine ⟨_, rfl, fun w => ?_⟩
  by_cases hlt : x < y <;> simp [Builtin.max2, intLt_eq, hlt]

theorem foldA_run {f : AV → AV → Option AV} {g : Value → Value → Sem Value} (hf : ∀ x y v a b, f x y = some v → VR σ x a → VR σ y b → PureOk P σ (g a b) v) :
    ∀ {l : List AV} {x v : AV} {a : Value} {lc : List Value}, foldA f l x = some v → VR σ x a → VRs σ l lc → PureOk P σ (lc.foldlM g a) v
  | [], x, v, a, lc, h, hx, hl => by cases hl; cases h; exact ⟨a, hx, fun w => by simp⟩
  | y :: l, x, v, a, lc, h, hx, ⟨b, bs, e, hy, hl⟩ => by
    subst e
    have h : ((f x y).bind fun z => foldA f l z) = some v := h
    obtain ⟨z, hz, h⟩ := bnd h
    obtain ⟨c, hc, hr⟩ := hf _ _ _ _ _ hz hx hy
    obtain ⟨d, hd, hr2⟩ := foldA_run hf h hc hl
    exact ⟨d, hd, fun w => by simp [List.foldlM_cons, hr, hr2]⟩

end Go.AM
