/-
  Values and objects that name old objects alone; plain operations over no heap.
-/
import Derived.Test.YtdjlpdboochkhaaGreatAmCards
set_option linter.unusedVariables false
namespace Go.AM
open Go.RowKit

variable {P : Program} {B : Nat} {w0 w : World} {σ : Sg} {H : Heap}

mutual
/-- All that a value names is older than N. -/
def Bd (N : Nat) : AV → Prop
  | .ptr id _ => id < N
  | .slice id _ _ _ => id < N
  | .oslice id _ _ => id < N
  | .map id => id < N
  | .yield id => id < N
  | .func _ a c => Bds N a ∧ Bds N c
  | .iface _ x => Bd N x
  | .agg vs => Bds N vs
  | .tup vs => Bds N vs
  | _ => True
def Bds (N : Nat) : List AV → Prop
  | [] => True
  | a :: as => Bd N a ∧ Bds N as
end

def Sg.below (σ : Sg) (N : Nat) : Sg := fun id => if id < N then σ id else none

theorem Sg.below_some {σ : Sg} {N id : Nat} {p : Pl} (h : σ.below N id = some p) : id < N ∧ σ id = some p := by
  unfold Sg.below at h
  split at h
  · exact ⟨by assumption, h⟩
  · cases h

theorem Sg.below_eq {σ : Sg} {N id : Nat} (h : id < N) : σ.below N id = σ id := by unfold Sg.below; rw [if_pos h]
theorem Sg.below_le (σ : Sg) (N : Nat) : Le (σ.below N) σ := fun _ _ h => (Sg.below_some h).2
theorem Sg.below_mono (σ : Sg) {N M : Nat} (h : N ≤ M) : Le (σ.below N) (σ.below M) := fun id p hp => by
  obtain ⟨h1, h2⟩ := Sg.below_some hp
  rw [Sg.below_eq (Nat.lt_of_lt_of_le h1 h)]
  exact h2
theorem Le.below {σ σ' : Sg} (h : Le σ σ') (N : Nat) : Le (σ.below N) (σ'.below N) := fun id p hp => by
  obtain ⟨h1, h2⟩ := Sg.below_some hp
  rw [Sg.below_eq h1]
  exact h _ _ h2

mutual
theorem VR.bd {N : Nat} (hd : ∀ id p, σ id = some p → id < N) : ∀ {a : AV} {v : Value}, VR σ a v → Bd N a
  | .bool _, _, _ => trivial
  | .int _ _, _, _ => trivial
  | .str _, _, _ => trivial
  | .ptr _ _, _, ⟨p, hp, _⟩ => hd _ _ hp
  | .nilp, _, _ => trivial
  | .slice _ _ _ _, _, ⟨p, hp, _⟩ => hd _ _ hp
  | .oslice _ _ _, _, ⟨p, o, c, hp, _⟩ => hd _ _ hp
  | .nils, _, _ => trivial
  | .map _, _, ⟨p, hp, _⟩ => hd _ _ hp
  | .nilm, _, _ => trivial
  | .func _ _ _, _, ⟨a', c', _, h1, h2⟩ => ⟨VRs.bd hd h1, VRs.bd hd h2⟩
  | .yield _, _, ⟨p, hp, _⟩ => hd _ _ hp
  | .nilf, _, _ => trivial
  | .iface _ x, _, ⟨y, _, h⟩ => VR.bd (a := x) (v := y) hd h
  | .nili, _, _ => trivial
  | .agg _, _, ⟨cs, _, h⟩ => VRs.bd hd h
  | .tup _, _, ⟨cs, _, h⟩ => VRs.bd hd h
theorem VRs.bd {N : Nat} (hd : ∀ id p, σ id = some p → id < N) : ∀ {a : List AV} {v : List Value}, VRs σ a v → Bds N a
  | [], _, _ => trivial
  | _ :: _, _, ⟨v, vs, _, h1, h2⟩ => ⟨VR.bd hd h1, VRs.bd hd h2⟩
end

mutual
theorem VR.below {N : Nat} : ∀ {a : AV} {v : Value}, Bd N a → VR σ a v → VR (σ.below N) a v
  | .bool _, _, _, h => h
  | .int _ _, _, _, h => h
  | .str _, _, _, h => h
  | .ptr _ _, _, b, ⟨p, hp, r⟩ => ⟨p, (Sg.below_eq b).trans hp, r⟩
  | .nilp, _, _, h => h
  | .slice _ _ _ _, _, b, ⟨p, hp, r⟩ => ⟨p, (Sg.below_eq b).trans hp, r⟩
  | .oslice _ _ _, _, b, ⟨p, o, c, hp, r⟩ => ⟨p, o, c, (Sg.below_eq b).trans hp, r⟩
  | .nils, _, _, h => h
  | .map _, _, b, ⟨p, hp, r⟩ => ⟨p, (Sg.below_eq b).trans hp, r⟩
  | .nilm, _, _, h => h
  | .func _ _ _, _, b, ⟨a', c', e, h1, h2⟩ => ⟨a', c', e, VRs.below b.1 h1, VRs.below b.2 h2⟩
  | .yield _, _, b, ⟨p, hp, r⟩ => ⟨p, (Sg.below_eq b).trans hp, r⟩
  | .nilf, _, _, h => h
  | .iface _ x, _, b, ⟨y, e, h⟩ => ⟨y, e, VR.below (a := x) (v := y) b h⟩
  | .nili, _, _, h => h
  | .agg _, _, b, ⟨cs, e, h⟩ => ⟨cs, e, VRs.below b h⟩
  | .tup _, _, b, ⟨cs, e, h⟩ => ⟨cs, e, VRs.below b h⟩
theorem VRs.below {N : Nat} : ∀ {a : List AV} {v : List Value}, Bds N a → VRs σ a v → VRs (σ.below N) a v
  | [], _, _, h => h
  | _ :: _, _, b, ⟨v, vs, e, h1, h2⟩ => ⟨v, vs, e, VR.below b.1 h1, VRs.below b.2 h2⟩
end

/-- All that an object names is older than N. -/
def BdO (N : Nat) : AObj → Prop
  | .row t lo hi z g => ∀ i v, rowAt t lo hi z i = some v → Bd N v
  | .map es _ => ∀ e ∈ es, Bd N e.1 ∧ Bd N e.2.1
  | .miter m _ _ _ => ∀ id, m = some id → id < N
  | .loop _ _ _ tm _ _ _ _ d => d < N ∧ ∀ i, i < 256 → Bd N (tm.get i)
  | .defr _ => True
  | .dead => True

theorem ERs.bd {N : Nat} (hd : ∀ id p, σ id = some p → id < N) {a : List (AV × AV × Nat)} {es : List MapEntry} (h : ERs σ a es) : ∀ e ∈ a, Bd N e.1 ∧ Bd N e.2.1 := by
  induction h with
  | nil => intro e he; cases he
  | cons h _ ih =>
    intro e he
    cases he with
    | head => exact ⟨h.1.bd hd, h.2.1.bd hd⟩
    | tail _ hm => exact ih e hm

theorem ERs.fit {N : Nat} {a : List (AV × AV × Nat)} {es : List MapEntry} (h : ERs σ a es) : (∀ e ∈ a, Bd N e.1 ∧ Bd N e.2.1) → ERs (σ.below N) a es := by
  induction h with
  | nil => intro _; exact .nil
  | cons h _ ih =>
    intro hb
    have := hb _ (List.mem_cons_self ..)
    exact .cons ⟨h.1.below this.1, h.2.1.below this.2, h.2.2⟩ (ih fun e he => hb e (by simp [he]))

theorem OR.bd {N : Nat} (hd : ∀ id p, σ id = some p → id < N) {p : Pl} {o : AObj} (h : OR σ w p o) : BdO N o := by
  cases o with
  | row t lo hi z g =>
    obtain ⟨_, _, _, _, _, arr, elem, fr, _, _, _, h9⟩ := h
    intro i v hv
    obtain ⟨cv, _, hr⟩ := h9 i v hv
    exact hr.bd hd
  | map es clock => obtain ⟨es', _, h2⟩ := h; exact h2.bd hd
  | miter m since seen stepped =>
    obtain ⟨_, m', _, h2⟩ := h
    intro id e
    subst e
    obtain ⟨q, hq, _⟩ := h2
    exact hd _ _ hq
  | loop st pend fn tm sz ps as bd d =>
    obtain ⟨tmps, q, _, h2, h3⟩ := h
    exact ⟨hd _ _ h2, fun i hi => (h3.2.2.1 i hi).bd hd⟩
  | defr t => trivial
  | dead => trivial

theorem OR.below {N : Nat} {p : Pl} {o : AObj} (hb : BdO N o) (h : OR σ w p o) : OR (σ.below N) w p o := by
  cases o with
  | row t lo hi z g =>
    obtain ⟨h1, h2, h3, h4, h5, arr, elem, fr, h6, h7, h8, h9⟩ := h
    refine ⟨h1, h2, h3, h4, h5, arr, elem, fr, h6, h7, h8, fun i v hv => ?_⟩
    obtain ⟨cv, hc, hr⟩ := h9 i v hv
    exact ⟨cv, hc, hr.below (hb i v hv)⟩
  | map es clock => obtain ⟨es', h1, h2⟩ := h; exact ⟨es', h1, h2.fit hb⟩
  | miter m since seen stepped =>
    obtain ⟨h0, m', h1, h2⟩ := h
    refine ⟨h0, m', h1, ?_⟩
    cases m with
    | none => exact h2
    | some id => obtain ⟨q, hq, e⟩ := h2; exact ⟨q, (Sg.below_eq (hb id rfl)).trans hq, e⟩
  | loop st pend fn tm sz ps as bd d =>
    obtain ⟨tmps, q, h1, h2, h3⟩ := h
    exact ⟨tmps, q, h1, (Sg.below_eq hb.1).trans h2, h3.1, h3.2.1, fun i hi => (h3.2.2.1 i hi).below (hb.2 i hi), h3.2.2.2⟩
  | defr t => exact h
  | dead => trivial

mutual
theorem Bd.mono {N M : Nat} (hl : N ≤ M) : ∀ {a : AV}, Bd N a → Bd M a
  | .bool _, _ => trivial
  | .int _ _, _ => trivial
  | .str _, _ => trivial
  | .ptr _ _, h => Nat.lt_of_lt_of_le h hl
  | .nilp, _ => trivial
  | .slice _ _ _ _, h => Nat.lt_of_lt_of_le h hl
  | .oslice _ _ _, h => Nat.lt_of_lt_of_le h hl
  | .nils, _ => trivial
  | .map _, h => Nat.lt_of_lt_of_le h hl
  | .nilm, _ => trivial
  | .func _ _ _, h => ⟨Bds.mono hl h.1, Bds.mono hl h.2⟩
  | .yield _, h => Nat.lt_of_lt_of_le h hl
  | .nilf, _ => trivial
  | .iface _ x, h => Bd.mono (a := x) hl h
  | .nili, _ => trivial
  | .agg _, h => Bds.mono hl h
  | .tup _, h => Bds.mono hl h
theorem Bds.mono {N M : Nat} (hl : N ≤ M) : ∀ {a : List AV}, Bds N a → Bds M a
  | [], _ => trivial
  | _ :: _, h => ⟨Bd.mono hl h.1, Bds.mono hl h.2⟩
end

theorem BdO.mono {N M : Nat} (hl : N ≤ M) {o : AObj} (h : BdO N o) : BdO M o := by
  cases o with
  | row t lo hi z g => exact fun i v hv => (h i v hv).mono hl
  | map es clock => exact fun e he => ⟨(h e he).1.mono hl, (h e he).2.mono hl⟩
  | miter m since seen stepped => exact fun id e => Nat.lt_of_lt_of_le (h id e) hl
  | loop st pend fn tm sz ps as bd d => exact ⟨Nat.lt_of_lt_of_le h.1 hl, fun i hi => (h.2 i hi).mono hl⟩
  | defr t => trivial
  | dead => trivial

theorem AV.idOf_bd {a : AV} {id : Nat} (h : a.idOf = some id) {v : Value} (hv : VR σ a v) : ∃ p, σ id = some p := by
  cases a <;> try (cases h; done)
  · cases h; obtain ⟨p, hp, _⟩ := hv; exact ⟨p, hp⟩
  · cases h; obtain ⟨p, hp, _⟩ := hv; exact ⟨p, hp⟩
  · cases h; obtain ⟨p, _, _, hp, _⟩ := hv; exact ⟨p, hp⟩
  · cases h; obtain ⟨p, hp, _⟩ := hv; exact ⟨p, hp⟩

/-- An operation that looks at its operands alone. -/
theorem plain_run {o : Oper} {ρ : Env} {ρc : Operand → Value} {v : AV} {H' : Heap} (he : EnvR σ ρ ρc) (hcls : clsOf P o.op = some .p) (h : opA P ρ H o.op = some (v, H')) (w : World) :
    ∃ cv, (execOp ρc o).run P w = .ok (.value cv) w ∧ VR σ v cv := by
  have fp : ∀ {s : Sem Value}, PureOk P σ s v → ∃ cv, (do pure (Next.value (← s)) : Sem Next).run P w = .ok (.value cv) w ∧ VR σ v cv := by
    intro s ⟨cv, h1, h2⟩
    exact ⟨cv, by simp [h2 w], h1⟩
  obtain ⟨dst, op, type, pos, after, guard⟩ := o
  cases op <;> try (cases hcls; done)
  case move x =>
    obtain ⟨g, rfl⟩ := ret_some (x := ρ x) h
    exact ⟨ρc x, rfl, he x v g⟩
  case assign x =>
    obtain ⟨g, rfl⟩ := ret_some (x := ρ x) h
    exact ⟨ρc x, rfl, he x v g⟩
  case pick c a b =>
    obtain ⟨g, rfl⟩ := ret_some (x := oPick ρ c a b) h
    obtain ⟨cv, h1, g1⟩ := bnd g
    obtain ⟨av, h2, g2⟩ := bnd g1
    obtain ⟨bv, h3, g3⟩ := bnd g2
    obtain ⟨t, rfl, g4⟩ := asB_some g3
    cases g4
    have h1 : ρc c = .bool t := he c _ h1
    refine ⟨if t then ρc a else ρc b, by simp [execOp, h1, asBool], ?_⟩
    cases t
    · exact he b _ h3
    · exact he a _ h2
  case build t ps =>
    obtain ⟨l, hl, g⟩ := bnd (x := partsA ρ ps.toList) h
    obtain ⟨g1, rfl⟩ := ret_some g
    have := buildA_run g1 (partsA_PRs he hl)
    have e : (ps.toList.map fun p => (p.1, ρc p.2)).toArray = ps.map fun (i, x) => (i, ρc x) := by
      rw [← Array.toList_inj]; simp
    rw [e] at this
    exact fp this
  case nilCheck x =>
    obtain ⟨a, ha, g1⟩ := bnd (x := ρ x) h
    obtain ⟨g2, rfl⟩ := ret_some g1
    have hx := he x _ ha
    obtain ⟨rfl, hv⟩ := nilChk_run g2 hx
    refine ⟨ρc x, ?_, hx⟩
    rcases hv with ⟨ad, e⟩ | ⟨f, b, c, e⟩ | ⟨l, b, c, e⟩ <;> simp [execOp, e]
  case binOp op t x y _ =>
    obtain ⟨a, ha, g1⟩ := bnd (x := ρ x) h
    obtain ⟨b, hb, g2⟩ := bnd g1
    obtain ⟨g3, rfl⟩ := ret_some g2
    exact fp (binA_run g3 (he x _ ha) (he y _ hb) x y)
  case unOp op t x =>
    obtain ⟨a, ha, g1⟩ := bnd (x := ρ x) h
    obtain ⟨g3, rfl⟩ := ret_some g1
    exact fp (unA_run g3 (he x _ ha))
  case convert s d x =>
    have hcls : clsC (und P s) (und P d) = some .p := hcls
    obtain ⟨us, hus, g1⟩ := bnd (x := und P s) h
    obtain ⟨ud, hud, g2⟩ := bnd g1
    obtain ⟨a, ha, g3⟩ := bnd g2
    rw [hus, hud] at hcls
    cases ud <;> try (cases g3; done)
    case int k =>
      obtain ⟨g, rfl⟩ := ret_some (x := convInt k a) g3
      exact fp (convInt_run hus hud g (he x _ ha))
    case string =>
      cases us <;> try (cases g3; done)
      case string =>
        obtain ⟨g, rfl⟩ := ret_some (x := convStr a) g3
        exact fp (convStr_run hus hud g (he x _ ha))
      case slice e => cases hcls
    case slice e =>
      cases us <;> try (cases g3; done)
      case string => cases hcls
      case slice e => cases hcls
  case sliceToArrayPointer t x =>
    obtain ⟨u, hu, g1⟩ := bnd (x := und P t) h
    obtain ⟨a, ha, g2⟩ := bnd g1
    cases u <;> try (cases g2; done)
    obtain ⟨h0, g3⟩ := cond_none g2
    obtain ⟨g4, rfl⟩ := ret_some g3
    exact fp (s2ap_run hu (nbeqf.1 h0) g4 (he x _ ha))
  case makeInterface t x =>
    obtain ⟨u, hu, g1⟩ := bnd (x := und P t) h
    obtain ⟨a, ha, g2⟩ := bnd g1
    obtain ⟨g4, rfl⟩ := ret_some g2
    exact fp (mkIf_run hu g4 (he x _ ha))
  case makeFunc fn a b =>
    obtain ⟨g4, rfl⟩ := ret_some (x := mkFn ρ fn a.toList b.toList) h
    exact fp (mkFn_run he g4)
  case fieldAddr t x f =>
    obtain ⟨u, hu, g1⟩ := bnd (x := und P t) h
    obtain ⟨fs, rfl, g2⟩ := asStruct_some g1
    obtain ⟨a, ha, g3⟩ := bnd g2
    obtain ⟨id, off, rfl, g4⟩ := asPtr_some g3
    obtain ⟨g5, rfl⟩ := ret_some g4
    exact fp (fAddr_run hu g5 (he x _ ha))
  case field t x f =>
    obtain ⟨u, hu, g1⟩ := bnd (x := und P t) h
    obtain ⟨fs, rfl, g2⟩ := asStruct_some g1
    obtain ⟨a, ha, g3⟩ := bnd g2
    obtain ⟨l, rfl, g4⟩ := asAg_some g3
    obtain ⟨fd, hfd, g5⟩ := bnd g4
    obtain ⟨g6, rfl⟩ := ret_some g5
    obtain ⟨cv, k1, k2⟩ := field_run hu hfd g6 (he x _ ha) w
    exact ⟨cv, by simp [execOp, k1], k2⟩
  case indexAddr t x i =>
    obtain ⟨u, hu, g1⟩ := bnd (x := und P t) h
    obtain ⟨a, ha, g2⟩ := bnd g1
    obtain ⟨b, hb, g3⟩ := bnd g2
    obtain ⟨k, n, rfl, g4⟩ := asI_some g3
    obtain ⟨g5, rfl⟩ := ret_some g4
    exact fp (oIndexAddr_run hu g5 (he x _ ha) (he i _ hb))
  case index t x i =>
    obtain ⟨u, hu, g1⟩ := bnd (x := und P t) h
    obtain ⟨a, ha, g2⟩ := bnd g1
    obtain ⟨b, hb, g3⟩ := bnd g2
    obtain ⟨k, n, rfl, g4⟩ := asI_some g3
    obtain ⟨g5, rfl⟩ := ret_some g4
    exact fp (oIndex_run hu g5 (he x _ ha) (he i _ hb))
  case extract x i =>
    obtain ⟨a, ha, g2⟩ := bnd (x := ρ x) h
    obtain ⟨l, rfl, g3⟩ := asTup_some g2
    obtain ⟨g5, rfl⟩ := ret_some g3
    exact fp (extract_run g5 (he x _ ha))
  case call c =>
    obtain ⟨callee, args, ats⟩ := c
    cases callee <;> try (cases h; done)
    rename_i b
    have hcls : clsB b (ty0 P ats) = some .p := hcls
    have h : oBuiltin P ρ H b ats args.toList = some (v, H') := h
    have fp2 : ∀ {s : Sem Value}, PureOk P σ s v → execOp ρc ⟨dst, .call ⟨.builtin b, args, ats⟩, type, pos, after, guard⟩ = (do pure (Next.value (← s))) → ∃ cv, (execOp ρc ⟨dst, .call ⟨.builtin b, args, ats⟩, type, pos, after, guard⟩).run P w = .ok (.value cv) w ∧ VR σ v cv := by
      intro s hs e
      rw [e]
      exact fp hs
    cases b <;> try (cases hcls; done)
    case len =>
      obtain ⟨u, hu, g1⟩ := bnd (x := ty0 P ats) h
      rw [hu] at hcls
      obtain ⟨t, ht, hu⟩ := ty0_some hu
      obtain ⟨x, xc, g2, hx, ha⟩ := arg1_some he g1
      obtain ⟨g3, rfl⟩ := ret_some g2
      have hrd : Rd σ ⟨.e, 0⟩ w := ⟨fun id p o _ ho => by rw [show (Heap.get ⟨.e, 0⟩ id) = none from Tr.get_e id] at ho; cases ho⟩
      rw [lenA_any hcls ⟨.e, 0⟩] at g3
      obtain ⟨cv, k1, k2⟩ := len_run (ty := type) hrd hu g3 hx
      rw [← len_args ht ha] at k1
      have e : execOp ρc ⟨dst, .call ⟨.builtin .len, args, ats⟩, type, pos, after, guard⟩ = (do pure (Next.value (← Builtin.len_ ats type (args.map ρc)))) := rfl
      exact ⟨cv, by rw [e]; simp [k1], k2⟩
    case cap =>
      obtain ⟨u, hu, g1⟩ := bnd (x := ty0 P ats) h
      obtain ⟨t, ht, hu⟩ := ty0_some hu
      obtain ⟨x, xc, g2, hx, ha⟩ := arg1_some he g1
      obtain ⟨g3, rfl⟩ := ret_some g2
      exact fp2 (cap_run (ty := type) ht ha hu g3 hx) rfl
    case max =>
      obtain ⟨as, has, g1⟩ := bnd (x := argsA ρ args.toList) h
      cases as with
      | nil => cases g1
      | cons x r =>
        obtain ⟨g2, rfl⟩ := ret_some (x := foldA maxA r x) g1
        obtain ⟨c, cs, e, hp⟩ := fold_args (g := Builtin.max2) he (fun _ _ _ _ _ => maxA_run) has rfl g2
        exact fp2 (s := Builtin.max_ ats type (args.map ρc)) (by unfold Builtin.max_; rw [e]; exact hp) rfl
    case min =>
      obtain ⟨as, has, g1⟩ := bnd (x := argsA ρ args.toList) h
      cases as with
      | nil => cases g1
      | cons x r =>
        obtain ⟨g2, rfl⟩ := ret_some (x := foldA minA r x) g1
        obtain ⟨c, cs, e, hp⟩ := fold_args (g := Builtin.min2) he (fun _ _ _ _ _ => minA_run) has rfl g2
        exact fp2 (s := Builtin.min_ ats type (args.map ρc)) (by unfold Builtin.min_; rw [e]; exact hp) rfl

end Go.AM
