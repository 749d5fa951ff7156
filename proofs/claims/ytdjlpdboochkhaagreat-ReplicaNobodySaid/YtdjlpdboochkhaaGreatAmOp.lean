/-
  What an operation of the abstract machine says of the model's, as a whole.
-/
import Derived.Test.YtdjlpdboochkhaaGreatAmIter
set_option linter.unusedVariables false
namespace Go.AM
open Go.RowKit

variable {P : Program} {B : Nat} {w0 w : World} {σ : Sg} {H : Heap}

/-- A computation of a value comes to what the abstract machine says. -/
def OkV (P : Program) (B : Nat) (w0 : World) (σ : Sg) (H : Heap) (w : World) (s : Sem Value) (v : AV) (H' : Heap) : Prop :=
  ∃ σ' w' cv, s.run P w = .ok cv w' ∧ VR σ' v cv ∧ Conc B w0 σ' H' w' ∧ Stp σ H w σ' H' w'

theorem OkV.pure {s : Sem Value} {v : AV} (hc : Conc B w0 σ H w) (h : PureOk P σ s v) : OkV P B w0 σ H w s v H := by
  obtain ⟨cv, h1, h2⟩ := h
  exact ⟨σ, w, cv, h2 w, h1, hc, Stp.refl _ _ _⟩

theorem OkV.read {s : Sem Value} {v : AV} (hc : Conc B w0 σ H w) (h : ∃ cv, s.run P w = .ok cv w ∧ VR σ v cv) : OkV P B w0 σ H w s v H := by
  obtain ⟨cv, h1, h2⟩ := h
  exact ⟨σ, w, cv, h1, h2, hc, Stp.refl _ _ _⟩

theorem OkV.val {cv : Value} {v : AV} (hc : Conc B w0 σ H w) (h : VR σ v cv) : OkV P B w0 σ H w (Pure.pure cv) v H := ⟨σ, w, cv, rfl, h, hc, Stp.refl _ _ _⟩

theorem OkV.new {s : Sem Value} {o : AObj} {f : Nat → AV} (hc : Conc B w0 σ H w) (h : NewOk P σ s o f w) (hm : o.mine := by exact AObj.mine_row rfl) : OkV P B w0 σ H w s (f H.next) (H.add o) := h.conc hc hm

theorem OkV.conv {s s' : Sem Value} {v : AV} {H' : Heap} (h : OkV P B w0 σ H w s v H') (e : s'.run P w = s.run P w) : OkV P B w0 σ H w s' v H' := by
  obtain ⟨σ', w', cv, h1, h2⟩ := h
  exact ⟨σ', w', cv, e.trans h1, h2⟩

theorem len_args {ts : Array TypeId} {args : Array Value} {t ty : TypeId} {a : Value} (h0 : ts[0]? = some t) (ha : args[0]? = some a) : Builtin.len_ ts ty args = Builtin.len_ #[t] ty #[a] := by
  unfold Builtin.len_
  rw [h0, ha]
  rfl

theorem delete_args {ts : Array TypeId} {args : Array Value} {t u ty : TypeId} {a b : Value} (h0 : ts[0]? = some t) (ha : args[0]? = some a) (hb : args[1]? = some b) :
    Builtin.delete_ ts ty args = Builtin.delete_ #[t, u] ty #[a, b] := by
  unfold Builtin.delete_
  rw [h0, ha, hb]
  rfl

theorem arg1_some {ρ : Env} {ρc : Operand → Value} (he : EnvR σ ρ ρc) {l : Array Operand} {α : Type} {k : AV → Option α} {r : α} (h : arg1 ρ l.toList k = some r) : ∃ a c, k a = some r ∧ VR σ a c ∧ (l.map ρc)[0]? = some c := by
  obtain ⟨x, hx, h1⟩ := bnd h
  obtain ⟨a, ha, h2⟩ := bnd h1
  rw [lget_eq] at hx
  refine ⟨a, ρc x, h2, he x a ha, ?_⟩
  have : l[0]? = some x := by simpa using hx
  simp [this]

theorem arg2_some {ρ : Env} {ρc : Operand → Value} (he : EnvR σ ρ ρc) {l : Array Operand} {α : Type} {k : AV → AV → Option α} {r : α} (h : arg2 ρ l.toList k = some r) :
    ∃ a c b d, k a b = some r ∧ VR σ a c ∧ VR σ b d ∧ (l.map ρc)[0]? = some c ∧ (l.map ρc)[1]? = some d := by
  obtain ⟨x, hx, h1⟩ := bnd h
  obtain ⟨a, ha, h2⟩ := bnd h1
  obtain ⟨y, hy, h3⟩ := bnd h2
  obtain ⟨b, hb, h4⟩ := bnd h3
  rw [lget_eq] at hx hy
  have e1 : l[0]? = some x := by simpa using hx
  have e2 : l[1]? = some y := by simpa using hy
  exact ⟨a, ρc x, b, ρc y, h4, he x a ha, he y b hb, by simp [e1], by simp [e2]⟩

theorem len_run {t ty : TypeId} {u : TypeDesc} {x v : AV} {a : Value} (hc : Rd σ H w) (hu : und P t = some u) (h : lenA H u x = some v) (hx : VR σ x a) :
    ∃ cv, (Builtin.len_ #[t] ty #[a]).run P w = .ok cv w ∧ VR σ v cv := by
  cases u with
  | string =>
    cases x <;> try (cases h; done)
    cases h
    obtain ⟨s, rfl, rfl⟩ := hx
    refine ⟨goInt s.size, by simp [Builtin.len_, run_und hu], ?_⟩
    have : llen (s.data.toList.map (·.toNat)) = s.size := by rw [llen_eq, List.length_map]; rfl
    rw [this]; rfl
  | array n e => cases h; exact ⟨goInt n, by simp [Builtin.len_, run_und hu], rfl⟩
  | slice e =>
    cases x <;> try (cases h; done)
    · cases h; obtain ⟨p, _, _, rfl⟩ := hx; exact ⟨_, by simp [Builtin.len_, run_und hu]; rfl, rfl⟩
    · cases h; obtain ⟨p, _, _, _, _, rfl, _⟩ := hx; exact ⟨_, by simp [Builtin.len_, run_und hu]; rfl, rfl⟩
    · cases h; cases hx; exact ⟨goInt 0, by simp [Builtin.len_, run_und hu], rfl⟩
  | map kt et => exact lenMap_run hc hu h hx
  | _ => cases h

theorem cap_run {ts : Array TypeId} {args : Array Value} {t ty : TypeId} {u : TypeDesc} {x v : AV} {a : Value} (h0 : ts[0]? = some t) (ha : args[0]? = some a) (hu : und P t = some u) (h : capA u x = some v) (hx : VR σ x a) :
    PureOk P σ (Builtin.cap_ ts ty args) v := by
  cases u with
  | array n e => cases h; exact ⟨goInt n, rfl, fun w => by simp [Builtin.cap_, h0, ha, run_und hu]⟩
  | slice e =>
    cases x with
    | slice id off n c => cases h; obtain ⟨p, _, _, rfl⟩ := hx; exact ⟨goInt c, rfl, fun w => by simp [Builtin.cap_, h0, ha, run_und hu]⟩
    | nils => cases h; cases hx; exact ⟨goInt 0, rfl, fun w => by simp [Builtin.cap_, h0, ha, run_und hu]⟩
    | _ => cases h
  | _ => cases h

theorem fold_args {ρ : Env} {ρc : Operand → Value} (he : EnvR σ ρ ρc) {f : AV → AV → Option AV} {g : Value → Value → Sem Value} (hf : ∀ x y v a b, f x y = some v → VR σ x a → VR σ y b → PureOk P σ (g a b) v)
    {l : Array Operand} {as : List AV} (has : argsA ρ l.toList = some as) {x v : AV} {r : List AV} (e : as = x :: r) (h : foldA f r x = some v) :
    ∃ c cs, (l.map ρc).toList = c :: cs ∧ PureOk P σ (cs.foldlM g c) v := by
  have hv := argsA_VRs he has
  rw [← Array.toList_map, e] at hv
  obtain ⟨c, cs, e2, hx, hr⟩ := hv
  exact ⟨c, cs, e2, foldA_run hf h hx hr⟩

/-- A builtin's call. -/
theorem builtin_run {b : Builtin} {ts : Array TypeId} {ty : TypeId} {cons : Array Bool} {l : Array Operand} {ρ : Env} {ρc : Operand → Value} {v : AV} {H' : Heap} (hc : Conc B w0 σ H w) (he : EnvR σ ρ ρc)
    (h : oBuiltin P ρ H b ts l.toList = some (v, H')) :
    ∃ σ' w' cv, (builtin b ts ty cons (l.map ρc)).run P w = .ok (.value cv) w' ∧ VR σ' v cv ∧ Conc B w0 σ' H' w' ∧ Stp σ H w σ' H' w' := by
  have fin : ∀ {s : Sem Value}, (∃ σ' w' cv, s.run P w = .ok cv w' ∧ VR σ' v cv ∧ Conc B w0 σ' H' w' ∧ Stp σ H w σ' H' w') →
      ∃ σ' w' cv, (do pure (Next.value (← s)) : Sem Next).run P w = .ok (.value cv) w' ∧ VR σ' v cv ∧ Conc B w0 σ' H' w' ∧ Stp σ H w σ' H' w' := by
    intro s ⟨σ', w', cv, h1, h2⟩
    exact ⟨σ', w', cv, by simp [h1], h2⟩
  cases b <;> try (cases h; done)
  case append =>
    obtain ⟨u, hu, g1⟩ := bnd (x := ty0 P ts) h
    obtain ⟨t, ht, hu⟩ := ty0_some hu
    obtain ⟨e, rfl, g2⟩ := asSlice_some g1
    obtain ⟨z, hz, g3⟩ := bnd g2
    obtain ⟨s, sc, x, xc, g4, hs, hx, ha, hb⟩ := arg2_some he g3
    exact fin (appendA_run hc ht hu hz ha hb g4 hs hx)
  case cap =>
    obtain ⟨u, hu, g1⟩ := bnd (x := ty0 P ts) h
    obtain ⟨t, ht, hu⟩ := ty0_some hu
    obtain ⟨x, xc, g2, hx, ha⟩ := arg1_some he g1
    obtain ⟨g3, rfl⟩ := ret_some g2
    exact fin (OkV.pure hc (cap_run ht ha hu g3 hx))
  case clear =>
    obtain ⟨u, hu, g1⟩ := bnd (x := ty0 P ts) h
    obtain ⟨t, ht, hu⟩ := ty0_some hu
    obtain ⟨x, xc, g2, hx, ha⟩ := arg1_some he g1
    obtain ⟨w', h1, rfl, h2, h3⟩ := clear_run (ty := ty) hc ht hu ha g2 hx
    exact fin ⟨σ, w', _, h1, ⟨_, rfl, rfl⟩, h2, h3⟩
  case copy =>
    obtain ⟨u, hu, g1⟩ := bnd (x := ty0 P ts) h
    obtain ⟨t, ht, hu⟩ := ty0_some hu
    obtain ⟨e, rfl, g2⟩ := asSlice_some g1
    obtain ⟨s, hs, g3⟩ := bnd g2
    obtain ⟨_, g4⟩ := cond_none g3
    obtain ⟨d, dc, x, xc, g5, hd, hx, ha, hb⟩ := arg2_some he g4
    obtain ⟨w', cv, h1, h2⟩ := copy_run (ty := ty) hc ht hu hs ha hb g5 hd hx
    exact fin ⟨σ, w', cv, h1, h2⟩
  case delete =>
    obtain ⟨u, hu, g1⟩ := bnd (x := ty0 P ts) h
    obtain ⟨t, ht, hu⟩ := ty0_some hu
    obtain ⟨kt, et, rfl, g2⟩ := asMapT_some g1
    obtain ⟨m, mc, k, kc, g3, hm, hk, ha, hb⟩ := arg2_some he g2
    obtain ⟨w', h1, rfl, h2, h3⟩ := mapDel_run (ty := ty) (u := 0) hc hu g3 hm hk
    rw [← delete_args ht ha hb] at h1
    exact fin ⟨σ, w', _, h1, ⟨_, rfl, rfl⟩, h2, h3⟩
  case len =>
    obtain ⟨u, hu, g1⟩ := bnd (x := ty0 P ts) h
    obtain ⟨t, ht, hu⟩ := ty0_some hu
    obtain ⟨x, xc, g2, hx, ha⟩ := arg1_some he g1
    obtain ⟨g3, rfl⟩ := ret_some g2
    have h1 := len_run (ty := ty) hc.rd hu g3 hx
    rw [← len_args ht ha] at h1
    exact fin (OkV.read hc h1)
  case max =>
    obtain ⟨as, has, g1⟩ := bnd (x := argsA ρ l.toList) h
    cases as with
    | nil => cases g1
    | cons x r =>
      obtain ⟨g2, rfl⟩ := ret_some (x := foldA maxA r x) g1
      obtain ⟨c, cs, e, hp⟩ := fold_args (g := Builtin.max2) he (fun _ _ _ _ _ => maxA_run) has rfl g2
      exact fin (OkV.pure hc (by unfold Builtin.max_; rw [e]; exact hp))
  case min =>
    obtain ⟨as, has, g1⟩ := bnd (x := argsA ρ l.toList) h
    cases as with
    | nil => cases g1
    | cons x r =>
      obtain ⟨g2, rfl⟩ := ret_some (x := foldA minA r x) g1
      obtain ⟨c, cs, e, hp⟩ := fold_args (g := Builtin.min2) he (fun _ _ _ _ _ => minA_run) has rfl g2
      exact fin (OkV.pure hc (by unfold Builtin.min_; rw [e]; exact hp))

theorem convert_run {src dst : TypeId} {us ud : TypeDesc} {x v : AV} {a : Value} {H' : Heap} (hc : Conc B w0 σ H w) (hus : und P src = some us) (hud : und P dst = some ud) (h : oConvert P H src dst us ud x = some (v, H')) (hx : VR σ x a) :
    OkV P B w0 σ H w (convert src dst a) v H' := by
  have u8 : ∀ {e : TypeId}, isU8 P e = true → und P e = some (.int .u8) := by
    intro e he
    unfold isU8 at he
    split at he
    · assumption
    · cases he
  cases ud <;> try (cases h; done)
  case int k =>
    obtain ⟨g, rfl⟩ := ret_some (x := convInt k x) h
    exact OkV.pure hc (convInt_run hus hud g hx)
  case string =>
    cases us <;> try (cases h; done)
    case string =>
      obtain ⟨g, rfl⟩ := ret_some (x := convStr x) h
      exact OkV.pure hc (convStr_run hus hud g hx)
    case slice e =>
      obtain ⟨h1, g⟩ := cond_some (b := isU8 P e) h
      obtain ⟨g, rfl⟩ := ret_some g
      exact OkV.read hc (strOfBytes_run hc.rd hus hud (u8 h1) g hx)
  case slice e =>
    cases us <;> try (cases h; done)
    case string =>
      obtain ⟨h1, g⟩ := cond_some (b := isU8 P e) h
      obtain ⟨o, f, rfl, rfl, hm, _, hn⟩ := bytesOfStr_run (σ := σ) hus hud (u8 h1) g hx
      exact OkV.new hc (hn w) hm
    case slice e' =>
      obtain ⟨h1, g⟩ := cond_some (b := isU8 P e) h
      obtain ⟨g, rfl⟩ := ret_some g
      obtain ⟨w', k1, k2, k3, k4⟩ := sameSl_run hc hus hud (u8 h1) g hx
      exact ⟨σ, w', a, k1, k2, k3, k4⟩

/-- An operation that is no call of a value. -/
theorem opA_run {o : Oper} {ρ : Env} {ρc : Operand → Value} {v : AV} {H' : Heap} (hc : Conc B w0 σ H w) (he : EnvR σ ρ ρc) (h : opA P ρ H o.op = some (v, H')) :
    ∃ σ' w' r cv, (execOp ρc o).run P w = .ok r w' ∧ (r = .value cv ∨ (r = .skip ∧ cv = undef)) ∧ VR σ' v cv ∧ Conc B w0 σ' H' w' ∧ Stp σ H w σ' H' w' := by
  have fv : ∀ {s : Sem Value}, OkV P B w0 σ H w s v H' →
      ∃ σ' w' r cv, (do pure (Next.value (← s)) : Sem Next).run P w = .ok r w' ∧ (r = .value cv ∨ (r = .skip ∧ cv = undef)) ∧ VR σ' v cv ∧ Conc B w0 σ' H' w' ∧ Stp σ H w σ' H' w' := by
    intro s ⟨σ', w', cv, h1, h2⟩
    exact ⟨σ', w', .value cv, cv, by simp [h1], .inl rfl, h2⟩
  have fu : ∀ {s : Sem Unit}, (∃ w', s.run P w = .ok () w' ∧ v = undefA ∧ Conc B w0 σ H' w' ∧ Stp σ H w σ H' w') →
      ∃ σ' w' r cv, (do s; pure Next.skip : Sem Next).run P w = .ok r w' ∧ (r = .value cv ∨ (r = .skip ∧ cv = undef)) ∧ VR σ' v cv ∧ Conc B w0 σ' H' w' ∧ Stp σ H w σ' H' w' := by
    intro s ⟨w', h1, hv, h2, h3⟩
    refine ⟨σ, w', .skip, undef, by simp [h1], .inr ⟨rfl, rfl⟩, ?_, h2, h3⟩
    rw [hv]
    exact ⟨_, rfl, rfl⟩
  obtain ⟨dst, op, type, pos, after, guard⟩ := o
  cases op <;> try (cases h; done)
  case move x =>
    obtain ⟨g, rfl⟩ := ret_some (x := ρ x) h
    exact ⟨σ, w, _, ρc x, rfl, .inl rfl, he x v g, hc, Stp.refl _ _ _⟩
  case assign x =>
    obtain ⟨g, rfl⟩ := ret_some (x := ρ x) h
    exact ⟨σ, w, _, ρc x, rfl, .inl rfl, he x v g, hc, Stp.refl _ _ _⟩
  case pick c a b =>
    obtain ⟨g, rfl⟩ := ret_some (x := oPick ρ c a b) h
    obtain ⟨cv, h1, g1⟩ := bnd g
    obtain ⟨av, h2, g2⟩ := bnd g1
    obtain ⟨bv, h3, g3⟩ := bnd g2
    obtain ⟨t, rfl, g4⟩ := asB_some g3
    cases g4
    have h1 : ρc c = .bool t := he c _ h1
    refine ⟨σ, w, .value (if t then ρc a else ρc b), _, by simp [execOp, h1, asBool], .inl rfl, ?_, hc, Stp.refl _ _ _⟩
    cases t
    · exact he b _ h3
    · exact he a _ h2
  case alloc t =>
    obtain ⟨z, hz, g⟩ := bnd (x := zeroOf P t) h
    obtain ⟨rfl, rfl, hn⟩ := alloc_run (σ := σ) hz g
    exact fv (OkV.new (f := fun n => .ptr n 0) hc (hn w))
  case box t x =>
    obtain ⟨a, ha, g⟩ := bnd (x := ρ x) h
    obtain ⟨rfl, rfl, hn⟩ := box_run (P := P) (t := t) g (he x a ha)
    exact fv (OkV.new (f := fun n => .ptr n 0) hc (hn w))
  case build t ps =>
    obtain ⟨l, hl, g⟩ := bnd (x := partsA ρ ps.toList) h
    obtain ⟨g1, rfl⟩ := ret_some g
    have := buildA_run g1 (partsA_PRs he hl)
    have e : (ps.toList.map fun p => (p.1, ρc p.2)).toArray = ps.map fun (i, x) => (i, ρc x) := by
      rw [← Array.toList_inj]; simp
    rw [e] at this
    exact fv (OkV.pure hc this)
  case buildSlice t n ps =>
    obtain ⟨u, hu, g1⟩ := bnd (x := und P t) h
    obtain ⟨e, rfl, g2⟩ := asSlice_some g1
    obtain ⟨s, hs, g3⟩ := bnd (x := szOf P e) g2
    obtain ⟨z, hz, g4⟩ := bnd g3
    obtain ⟨pl, hpl, g5⟩ := bnd g4
    obtain ⟨cs, rfl, rfl, _, _, hn⟩ := bslc_run (σ := σ) (pc := ps.map fun (i, x) => (i, ρc x)) hu hs hz (by simpa using partsA_PRs he hpl) g5
    exact fv (OkV.new (f := fun m => .slice m 0 n n) hc (hn w))
  case load t x =>
    obtain ⟨a, ha, g1⟩ := bnd (x := ρ x) h
    obtain ⟨id, off, rfl, g2⟩ := asPtr_some g1
    obtain ⟨g3, rfl⟩ := ret_some g2
    exact fv (OkV.read hc (oLoad_run hc.rd g3 (he x _ ha)))
  case store t x y =>
    obtain ⟨a, ha, g1⟩ := bnd (x := ρ x) h
    obtain ⟨b, hb, g2⟩ := bnd g1
    obtain ⟨id, off, rfl, g3⟩ := asPtr_some g2
    exact fu (oStore_run hc g3 (he x _ ha) (he y _ hb))
  case nilCheck x =>
    obtain ⟨a, ha, g1⟩ := bnd (x := ρ x) h
    obtain ⟨g2, rfl⟩ := ret_some g1
    have hx := he x _ ha
    obtain ⟨rfl, hv⟩ := nilChk_run g2 hx
    refine ⟨σ, w, .value (ρc x), ρc x, ?_, .inl rfl, hx, hc, Stp.refl _ _ _⟩
    rcases hv with ⟨ad, e⟩ | ⟨f, b, c, e⟩ | ⟨l, b, c, e⟩ <;> simp [execOp, e]
  case binOp op t x y _ =>
    obtain ⟨a, ha, g1⟩ := bnd (x := ρ x) h
    obtain ⟨b, hb, g2⟩ := bnd g1
    obtain ⟨g3, rfl⟩ := ret_some g2
    exact fv (OkV.pure hc (binA_run g3 (he x _ ha) (he y _ hb) x y))
  case unOp op t x =>
    obtain ⟨a, ha, g1⟩ := bnd (x := ρ x) h
    obtain ⟨g3, rfl⟩ := ret_some g1
    exact fv (OkV.pure hc (unA_run g3 (he x _ ha)))
  case convert s d x =>
    obtain ⟨us, hus, g1⟩ := bnd (x := und P s) h
    obtain ⟨ud, hud, g2⟩ := bnd g1
    obtain ⟨a, ha, g3⟩ := bnd g2
    exact fv (convert_run hc hus hud g3 (he x _ ha))
  case sliceToArrayPointer t x =>
    obtain ⟨u, hu, g1⟩ := bnd (x := und P t) h
    obtain ⟨a, ha, g2⟩ := bnd g1
    cases u <;> try (cases g2; done)
    obtain ⟨h0, g3⟩ := cond_none g2
    obtain ⟨g4, rfl⟩ := ret_some g3
    exact fv (OkV.pure hc (s2ap_run hu (nbeqf.1 h0) g4 (he x _ ha)))
  case makeInterface t x =>
    obtain ⟨u, hu, g1⟩ := bnd (x := und P t) h
    obtain ⟨a, ha, g2⟩ := bnd g1
    obtain ⟨g4, rfl⟩ := ret_some g2
    exact fv (OkV.pure hc (mkIf_run hu g4 (he x _ ha)))
  case makeFunc fn a b =>
    obtain ⟨g4, rfl⟩ := ret_some (x := mkFn ρ fn a.toList b.toList) h
    exact fv (OkV.pure hc (mkFn_run he g4))
  case makeMap t r =>
    obtain ⟨u, hu, g1⟩ := bnd (x := und P t) h
    obtain ⟨kt, et, rfl, g2⟩ := asMapT_some g1
    obtain ⟨rfl, rfl, _, hn⟩ := makeMap_run he hu g2
    exact fv (OkV.new hc (hn w) (by intro _ _ _ _ e; cases e))
  case makeSlice t l c =>
    obtain ⟨u, hu, g1⟩ := bnd (x := und P t) h
    obtain ⟨e, rfl, g2⟩ := asSlice_some g1
    obtain ⟨lv, hl, g3⟩ := bnd g2
    obtain ⟨cv, hcv, g4⟩ := bnd g3
    obtain ⟨o, f, rfl, rfl, hm, _, hn⟩ := makeSlice_run (σ := σ) hu g4 (he l _ hl) (he c _ hcv)
    exact fv (OkV.new hc (hn w) hm)
  case slice t x lo hi mx =>
    obtain ⟨u, hu, g1⟩ := bnd (x := und P t) h
    obtain ⟨a, ha, g2⟩ := bnd g1
    obtain ⟨l, g3, hl⟩ := optI_some he g2
    obtain ⟨hh, g4, hhi⟩ := optI_some he g3
    obtain ⟨m, g5, hm⟩ := optI_some he g4
    obtain ⟨g6, rfl⟩ := ret_some g5
    exact fv (OkV.pure hc (oSlice_run hc.rd hu g6 (he x _ ha) hl hhi hm))
  case fieldAddr t x f =>
    obtain ⟨u, hu, g1⟩ := bnd (x := und P t) h
    obtain ⟨fs, rfl, g2⟩ := asStruct_some g1
    obtain ⟨a, ha, g3⟩ := bnd g2
    obtain ⟨id, off, rfl, g4⟩ := asPtr_some g3
    obtain ⟨g5, rfl⟩ := ret_some g4
    exact fv (OkV.pure hc (fAddr_run hu g5 (he x _ ha)))
  case field t x f =>
    obtain ⟨u, hu, g1⟩ := bnd (x := und P t) h
    obtain ⟨fs, rfl, g2⟩ := asStruct_some g1
    obtain ⟨a, ha, g3⟩ := bnd g2
    obtain ⟨l, rfl, g4⟩ := asAg_some g3
    obtain ⟨fd, hfd, g5⟩ := bnd g4
    obtain ⟨g6, rfl⟩ := ret_some g5
    exact fv (OkV.read hc (field_run hu hfd g6 (he x _ ha) w))
  case indexAddr t x i =>
    obtain ⟨u, hu, g1⟩ := bnd (x := und P t) h
    obtain ⟨a, ha, g2⟩ := bnd g1
    obtain ⟨b, hb, g3⟩ := bnd g2
    obtain ⟨k, n, rfl, g4⟩ := asI_some g3
    obtain ⟨g5, rfl⟩ := ret_some g4
    exact fv (OkV.pure hc (oIndexAddr_run hu g5 (he x _ ha) (he i _ hb)))
  case index t x i =>
    obtain ⟨u, hu, g1⟩ := bnd (x := und P t) h
    obtain ⟨a, ha, g2⟩ := bnd g1
    obtain ⟨b, hb, g3⟩ := bnd g2
    obtain ⟨k, n, rfl, g4⟩ := asI_some g3
    obtain ⟨g5, rfl⟩ := ret_some g4
    exact fv (OkV.pure hc (oIndex_run hu g5 (he x _ ha) (he i _ hb)))
  case lookup t m k ok =>
    obtain ⟨u, hu, g1⟩ := bnd (x := und P t) h
    obtain ⟨kt, et, rfl, g2⟩ := asMapT_some g1
    obtain ⟨a, ha, g3⟩ := bnd g2
    obtain ⟨b, hb, g4⟩ := bnd g3
    obtain ⟨g5, rfl⟩ := ret_some g4
    exact fv (OkV.read hc (lookup_run hc.rd hu g5 (he m _ ha) (he k _ hb)))
  case mapUpdate t m k y =>
    obtain ⟨u, hu, g1⟩ := bnd (x := und P t) h
    obtain ⟨kt, et, rfl, g2⟩ := asMapT_some g1
    obtain ⟨a, ha, g3⟩ := bnd g2
    obtain ⟨b, hb, g4⟩ := bnd g3
    obtain ⟨c, hcc, g5⟩ := bnd g4
    exact fu (mapPut_run hc hu g5 (he m _ ha) (he k _ hb) (he y _ hcc))
  case insert t m k y =>
    obtain ⟨u, hu, g1⟩ := bnd (x := und P t) h
    obtain ⟨kt, et, rfl, g2⟩ := asMapT_some g1
    obtain ⟨a, ha, g3⟩ := bnd g2
    obtain ⟨b, hb, g4⟩ := bnd g3
    obtain ⟨c, hcc, g5⟩ := bnd g4
    exact fu (mapPut_run hc hu g5 (he m _ ha) (he k _ hb) (he y _ hcc))
  case range t x =>
    obtain ⟨u, hu, g1⟩ := bnd (x := und P t) h
    obtain ⟨kt, et, rfl, g2⟩ := asMapT_some g1
    obtain ⟨a, ha, g3⟩ := bnd g2
    exact fv (range_run hc hu g3 (he x _ ha))
  case next it b =>
    obtain ⟨rfl, g1⟩ := cond_none (b := b) h
    obtain ⟨a, ha, g2⟩ := bnd g1
    obtain ⟨id, off, rfl, g3⟩ := asPtr_some g2
    obtain ⟨h0, g4⟩ := cond_some g3
    have h0 := nbeq.1 h0
    subst h0
    obtain ⟨w', cv, k1, k2⟩ := next_run (ty := type) hc g4 (he it _ ha)
    exact fv ⟨σ, w', cv, k1, k2⟩
  case entry it =>
    obtain ⟨a, ha, g2⟩ := bnd (x := ρ it) h
    obtain ⟨id, off, rfl, g3⟩ := asPtr_some g2
    obtain ⟨h0, g4⟩ := cond_some g3
    have h0 := nbeq.1 h0
    subst h0
    obtain ⟨cv, k1, k2, hh⟩ := entry_run (P := P) hc g4 (he it _ ha)
    subst hh
    exact fv (OkV.read hc ⟨cv, k1, k2⟩)
  case extract x i =>
    obtain ⟨a, ha, g2⟩ := bnd (x := ρ x) h
    obtain ⟨l, rfl, g3⟩ := asTup_some g2
    obtain ⟨g5, rfl⟩ := ret_some g3
    exact fv (OkV.pure hc (extract_run g5 (he x _ ha)))
  case call c =>
    obtain ⟨callee, args, ats⟩ := c
    cases callee <;> try (cases h; done)
    rename_i b
    have e : ∃ cons, execOp ρc ⟨dst, .call ⟨.builtin b, args, ats⟩, type, pos, after, guard⟩ = builtin b ats type cons (args.map ρc) := ⟨_, rfl⟩
    obtain ⟨cons, e⟩ := e
    obtain ⟨σ', w', cv, h1, h2⟩ := builtin_run (ty := type) (cons := cons) hc he h
    exact ⟨σ', w', .value cv, cv, by rw [e]; exact h1, .inl rfl, h2⟩

end Go.AM
