/-
  A region that draws its order: every order comes to what the text's order comes to.
-/
import Derived.Test.YtdjlpdboochkhaaGreatAmFit
set_option linter.unusedVariables false
namespace Go.AM
open Go.RowKit

variable {P : Program} {B : Nat} {w0 w : World} {σ : Sg} {H : Heap}

/-- The text's order of a region's operations, and what the check tells. -/
structure Canon (P : Program) (ops : Array Oper) (ss : Nat → St) (vs : Nat → AV) (f : Nat → Nat) : Prop where
  op : ∀ (i : Nat) (o : Oper), ops[i]? = some o → OpM P ops.toList o (ss i) (ss (i + 1)) (vs i)
  bef : ∀ (j : Nat) (o : Oper), ops.toList[j]? = some o → f j = befOf o ((List.range j).map f)
  edge : ∀ (j : Nat) (o : Oper) (k : Nat), ops.toList[j]? = some o → Binds o k → k < j
  cls : ∀ (j : Nat) (o : Oper), ops.toList[j]? = some o → (clsOf P o.op).isSome = true
  apart : ∀ (i j : Nat) (oi oj : Oper), i < j → ops.toList[i]? = some oi → ops.toList[j]? = some oj → Apart P ops.toList f i j oi oj
  same : ∀ p ∈ confl P ops.toList, ∀ (o ow : Oper), ops.toList[p.1]? = some o → ops.toList[p.2]? = some ow → sameRead P ops.toList o ow (ss p.1) (ss p.2) (ss (p.2 + 1)) = true

/-- An operation's class, as it comes to be done. -/
noncomputable def eff (P : Program) (ops : Array Oper) (ss : Nat → St) (i : Nat) : Option Cls :=
  (ops[i]?).bind fun o => if wantedA ops.toList (ss i).tm o = true then clsOf P o.op else some .p

def dstAt (ops : Array Oper) (i : Nat) : Option Tmp := (ops[i]?).bind (·.dst)

theorem cls_call {op : Op} {c : Cls} (h : clsOf P op = some c) (hw : c ≠ .w) : callOf op = none := by
  cases op <;> try rfl
  case call x =>
    obtain ⟨callee, args, ats⟩ := x
    cases callee with
    | value f => cases h; exact absurd rfl hw
    | _ => rfl

section
variable {ops : Array Oper} {ss : Nat → St} {vs : Nat → AV} {f : Nat → Nat}

theorem opsAt {i : Nat} (hi : i < ops.size) : ∃ o, ops[i]? = some o ∧ ops.toList[i]? = some o := ⟨ops[i], by simp [hi], by simp [hi]⟩

theorem eff_some {i : Nat} {c : Cls} (h : eff P ops ss i = some c) : ∃ o, ops[i]? = some o ∧ ops.toList[i]? = some o ∧ ((wantedA ops.toList (ss i).tm o = true ∧ clsOf P o.op = some c) ∨ (wantedA ops.toList (ss i).tm o = false ∧ c = .p)) := by
  obtain ⟨o, ho, h⟩ := bnd h
  refine ⟨o, ho, by simpa using ho, ?_⟩
  split at h
  · exact .inl ⟨by assumption, h⟩
  · rename_i hw
    cases h
    exact .inr ⟨by simpa using hw, rfl⟩

theorem Canon.eff_is (C : Canon P ops ss vs f) {i : Nat} (hi : i < ops.size) : ∃ c, eff P ops ss i = some c := by
  obtain ⟨o, ho, ho'⟩ := opsAt hi
  have hc := C.cls i o ho'
  unfold eff
  rw [ho]
  simp only [Option.bind_some]
  split
  · exact Option.isSome_iff_exists.1 hc
  · exact ⟨_, rfl⟩

/-- What is known when the text's order can be run. -/
structure Facts (P : Program) (ops : Array Oper) (ss : Nat → St) : Prop where
  bdT : ∀ i, i ≤ ops.size → ∀ t, t < 256 → Bd (ss i).hp.next ((ss i).tm.get t)
  mono1 : ∀ i, i < ops.size → (ss i).hp.next ≤ (ss (i + 1)).hp.next
  sz : ∀ i, i ≤ ops.size → (ss i).sz = (ss 0).sz ∧ (ss i).df = (ss 0).df
  sz256 : (ss 0).sz ≤ 256
  quiet : ∀ i, eff P ops ss i = some .p ∨ eff P ops ss i = some .r → (ss (i + 1)).hp = (ss i).hp
  nx : ∀ i, i ≤ ops.size → ∀ id x, (ss i).hp.get id = some x → id < (ss i).hp.next
  new : ∀ i, eff P ops ss i = some .a → ∃ ob, (ss (i + 1)).hp = (ss i).hp.add ob ∧ BdO ((ss i).hp.next + 1) ob ∧ ob.mine

theorem Conc.dom (h : Conc B w0 σ H w) : ∀ id p, σ id = some p → id < H.next := fun id p hp => by
  obtain ⟨o, ho⟩ := h.ex id p hp
  exact h.next id o ho

/-- The text's order, run. -/
theorem Canon.virt (C : Canon P ops ss vs f) {a : Act} (hs : SR σ (ss 0) a) (hc : Conc B w0 σ (ss 0).hp w) :
    ∀ i, i ≤ ops.size → ∃ σ' w' a', SR σ' (ss i) a' ∧ Conc B w0 σ' (ss i).hp w' := by
  intro i
  induction i with
  | zero => exact fun _ => ⟨σ, w, a, hs, hc⟩
  | succ i ih =>
    intro hi
    obtain ⟨σ1, w1, a1, h1, h2⟩ := ih (by omega)
    obtain ⟨o, ho, ho'⟩ := opsAt (ops := ops) (i := i) (by omega)
    have M := C.op i o ho
    obtain ⟨σ2, w2, cv, k1, k2, k3, _⟩ := M.run B w0 ops i [] { (default : Frame) with kind := .normal } σ1 a1 w1 [] [] rfl ho rfl (h1.op _ _) h2
    exact ⟨σ2, w2, _, h1.put k3.le k1 M.put, k2⟩

theorem Canon.facts (C : Canon P ops ss vs f) {a : Act} (hs : SR σ (ss 0) a) (hc : Conc B w0 σ (ss 0).hp w) : Facts P ops ss := by
  have V := C.virt hs hc
  have hstep : ∀ i o, ops[i]? = some o → i < ops.size := fun i o ho => (Array.getElem?_eq_some_iff.1 ho).1
  refine ⟨fun i hi t ht => ?_, fun i hi => ?_, fun i => ?_, hs.1.1, fun i h => ?_, fun i hi id x hx => ?_, fun i h => ?_⟩
  · obtain ⟨σ1, w1, a1, h1, h2⟩ := V i hi
    exact (h1.1.2.2.1 t ht).bd h2.dom
  · obtain ⟨σ1, w1, a1, h1, h2⟩ := V i (by omega)
    obtain ⟨o, ho, ho'⟩ := opsAt (ops := ops) hi
    obtain ⟨σ2, w2, cv, k1, k2, k3, _⟩ := (C.op i o ho).run B w0 ops i [] { (default : Frame) with kind := .normal } σ1 a1 w1 [] [] rfl ho rfl (h1.op _ _) h2
    exact k3.next
  · induction i with
    | zero => exact fun _ => ⟨rfl, rfl⟩
    | succ i ih =>
      intro hi
      obtain ⟨o, ho, ho'⟩ := opsAt (ops := ops) (i := i) (by omega)
      obtain ⟨_, e2, e3⟩ := put_hp (C.op i o ho).put
      obtain ⟨e4, e5⟩ := ih (by omega)
      exact ⟨e2.trans e4, e3.trans e5⟩
  · have key : ∀ c, (c = .p ∨ c = .r) → eff P ops ss i = some c → (ss (i + 1)).hp = (ss i).hp := by
      intro c hc he
      obtain ⟨o, ho, ho', hk⟩ := eff_some he
      have M := C.op i o ho
      rcases hk with ⟨hw, hcl⟩ | ⟨hw, _⟩
      · have hcall : callOf o.op = none := cls_call hcl (by rcases hc with rfl | rfl <;> simp)
        rcases M.kind with ⟨h0, _⟩ | ⟨_, ⟨_, hop⟩ | hne⟩
        · rw [hw] at h0; cases h0
        · rcases hc with rfl | rfl
          · exact (plain_any hcl hop).1
          · obtain ⟨D, hD⟩ := read_dep (P := P) (ρ := envOf (ss i).tm) hcl
            exact (hD.same _ _ _ hop).1
        · exact absurd hcall hne
      · rcases M.kind with ⟨_, _, e⟩ | ⟨h1, _⟩
        · exact e
        · rw [hw] at h1; cases h1
    rcases h with h | h
    · exact key _ (.inl rfl) h
    · exact key _ (.inr rfl) h
  · obtain ⟨σ1, w1, a1, h1, h2⟩ := V i hi
    exact h2.next id x hx
  · obtain ⟨o, ho, ho', hk⟩ := eff_some h
    have M := C.op i o ho
    obtain ⟨σ1, w1, a1, h1, h2⟩ := V i (Nat.le_of_lt (hstep i o ho))
    rcases hk with ⟨hw, hcl⟩ | ⟨_, e⟩
    · have hcall : callOf o.op = none := cls_call hcl (by simp)
      rcases M.kind with ⟨h0, _⟩ | ⟨_, ⟨_, hop⟩ | hne⟩
      · rw [hw] at h0; cases h0
      · obtain ⟨ob, fv, e1, e2, hmine, s, e3, hn⟩ := make_run h1.env hcl hop
        obtain ⟨w', cv, p, _, _, _, _, _, hno⟩ := hn w1
        obtain ⟨hor, _⟩ := hno (ss i).hp.next h2.fresh
        refine ⟨ob, e2, hor.bd fun id q hq => ?_, hmine⟩
        unfold Sg.add at hq
        split at hq
        · subst_vars; omega
        · have := h2.dom id q hq; omega
      · exact absurd hcall hne
    · cases e

theorem Facts.mono (F : Facts P ops ss) : ∀ {i j : Nat}, i ≤ j → j ≤ ops.size → (ss i).hp.next ≤ (ss j).hp.next := by
  intro i j
  induction j with
  | zero => intro h _; have : i = 0 := by omega
            subst this; exact Nat.le_refl _
  | succ j ih =>
    intro h hj
    by_cases e : i = j + 1
    · subst e; exact Nat.le_refl _
    · exact Nat.le_trans (ih (by omega) (by omega)) (F.mono1 j (by omega))

theorem Facts.nextA (F : Facts P ops ss) {i : Nat} (h : eff P ops ss i = some .a) : (ss (i + 1)).hp.next = (ss i).hp.next + 1 := by
  obtain ⟨ob, e, _⟩ := F.new i h
  rw [e]; rfl

theorem Facts.ltA (F : Facts P ops ss) {i j : Nat} (h : eff P ops ss i = some .a) (hij : i < j) (hj : j ≤ ops.size) : (ss i).hp.next < (ss j).hp.next := by
  have := F.mono (i := i + 1) (j := j) hij hj
  have := F.nextA h
  omega

/-! ### Temporaries -/

/-- What the temporaries hold when some operations are done. -/
structure TInv (ops : Array Oper) (ss : Nat → St) (vs : Nat → AV) (S : Nat → Bool) (σ : Sg) (a : Act) : Prop where
  w : ∀ i t, i < ops.size → S i = true → dstAt ops i = some t → (∀ j, i < j → j < ops.size → S j = true → dstAt ops j ≠ some t) → VR σ (vs i) (a.tmps.getD t undef)
  z : ∀ t, t < 256 → (∀ i, i < ops.size → S i = true → dstAt ops i ≠ some t) → VR σ ((ss 0).tm.get t) (a.tmps.getD t undef)
  hi : ∀ t, 256 ≤ t → a.tmps.getD t undef = undef
  sz : (ss 0).sz ≤ a.tmps.size

theorem Canon.tm (C : Canon P ops ss vs f) (F : Facts P ops ss) {t : Nat} (ht : t < 256) : ∀ j, j ≤ ops.size →
    (∃ i, i < j ∧ dstAt ops i = some t ∧ (∀ i', i < i' → i' < j → dstAt ops i' ≠ some t) ∧ (ss j).tm.get t = vs i) ∨ ((∀ i, i < j → dstAt ops i ≠ some t) ∧ (ss j).tm.get t = (ss 0).tm.get t) := by
  intro j
  induction j with
  | zero => exact fun _ => .inr ⟨fun i hi => by omega, rfl⟩
  | succ j ih =>
    intro hj
    obtain ⟨o, ho, ho'⟩ := opsAt (ops := ops) (i := j) (by omega)
    have hput := (C.op j o ho).put
    have hsz : (ss j).sz ≤ 256 := by rw [(F.sz j (by omega)).1]; exact F.sz256
    have hg := St.put_tm hput hsz ht
    have hd : dstAt ops j = o.dst := by unfold dstAt; rw [ho]; rfl
    by_cases e : o.dst = some t
    · rw [if_pos e] at hg
      exact .inl ⟨j, by omega, by rw [hd, e], fun i' h1 h2 => by omega, hg⟩
    · rw [if_neg e] at hg
      rcases ih (by omega) with ⟨i, h1, h2, h3, h4⟩ | ⟨h1, h2⟩
      · refine .inl ⟨i, by omega, h2, fun i' k1 k2 => ?_, hg.trans h4⟩
        by_cases e2 : i' = j
        · subst e2; rw [hd]; exact e
        · exact h3 i' k1 (by omega)
      · refine .inr ⟨fun i hi => ?_, hg.trans h2⟩
        by_cases e2 : i = j
        · subst e2; rw [hd]; exact e
        · exact h1 i (by omega)

/-- The done operations are closed. -/
def Closed (ops : Array Oper) (S : Nat → Bool) : Prop := ∀ (j : Nat) (o : Oper) (k : Nat), ops.toList[j]? = some o → S j = true → Binds o k → S k = true

theorem Canon.bef_done (C : Canon P ops ss vs f) {S : Nat → Bool} (hcl : Closed ops S) {j i : Nat} {o : Oper} (ho : ops.toList[j]? = some o) (hr : ∀ k, Binds o k → S k = true) (hb : Nat.testBit (f j) i = true) : S i = true :=
  bef_in C.bef C.edge hcl j o i ho hr hb

/-- An operation that is done, behind one that is not: it does not wait for it. -/
theorem Canon.later (C : Canon P ops ss vs f) {S : Nat → Bool} (hcl : Closed ops S) {i j : Nat} {oi : Oper} (hi : ops.toList[i]? = some oi) (hSi : S i = true) (hSj : S j = false) : Nat.testBit (f i) j = false := by
  cases hb : Nat.testBit (f i) j with
  | false => rfl
  | true =>
    have := C.bef_done hcl hi (fun k hk => hcl i oi k hi hSi hk) hb
    rw [hSj] at this
    cases this

theorem dst_names {l : List Oper} {o : Oper} {t : Tmp} (h : o.dst = some t) : t ∈ namesOf l o := by
  unfold namesOf
  simp [h]

/-- What a ready operation looks at. -/
theorem TInv.names {S : Nat → Bool} {a : Act} (T : TInv ops ss vs S σ a) (C : Canon P ops ss vs f) (F : Facts P ops ss) (hcl : Closed ops S) {j : Nat} {o : Oper} (ho : ops[j]? = some o) (hS : S j = false) (hr : ∀ k, Binds o k → S k = true)
    {t : Nat} (ht : t < 256) (hn : t ∈ namesOf ops.toList o) : VR σ ((ss j).tm.get t) (a.tmps.getD t undef) := by
  have ho' : ops.toList[j]? = some o := by simpa using ho
  have hjs : j < ops.size := (Array.getElem?_eq_some_iff.1 ho).1
  have hlater : ∀ i, i < ops.size → S i = true → dstAt ops i = some t → i < j := by
    intro i hi hSi hd
    rcases Nat.lt_trichotomy i j with h | h | h
    · exact h
    · subst h; rw [hS] at hSi; cases hSi
    · obtain ⟨oi, hoi, hoi'⟩ := opsAt (ops := ops) hi
      have hb := C.later hcl hoi' hSi hS
      have hd : oi.dst = some t := by unfold dstAt at hd; rw [hoi] at hd; exact hd
      exact absurd hn (((C.apart j i o oi h ho' hoi').names hb).2.1 t hd)
  rcases C.tm F ht j (by omega) with ⟨i, h1, h2, h3, h4⟩ | ⟨h1, h2⟩
  · rw [h4]
    obtain ⟨oi, hoi, hoi'⟩ := opsAt (ops := ops) (i := i) (by omega)
    have hd : oi.dst = some t := by unfold dstAt at h2; rw [hoi] at h2; exact h2
    have hSi : S i = true := by
      cases hb : Nat.testBit (f j) i with
      | true => exact C.bef_done hcl ho' hr hb
      | false => exact absurd hn (((C.apart i j oi o h1 hoi' ho').names hb).1 t hd)
    refine T.w i t (by omega) hSi h2 fun i' k1 k2 k3 k4 => ?_
    exact h3 i' k1 (hlater i' k2 k3 k4) k4
  · rw [h2]
    exact T.z t ht fun i k1 k2 k3 => h1 i (hlater i k1 k2 k3) k3

theorem TInv.opR {S : Nat → Bool} {a : Act} (T : TInv ops ss vs S σ a) (C : Canon P ops ss vs f) (F : Facts P ops ss) (hcl : Closed ops S) {j : Nat} {o : Oper} (ho : ops[j]? = some o) (hS : S j = false) (hr : ∀ k, Binds o k → S k = true) :
    OpR σ ops.toList o (ss j) a := by
  refine ⟨fun t v ht hv => ?_, fun t ht v hv => ?_, T.hi⟩
  · obtain ⟨h1, rfl⟩ := tget_some hv
    refine T.names C F hcl ho hS hr h1 ?_
    unfold namesOf
    refine List.mem_append.2 (.inl (List.mem_append.2 (.inr (List.mem_flatMap.2 ⟨.tmp t, by simpa using ht, by simp [tmpOf]⟩))))
  · obtain ⟨h1, rfl⟩ := tget_some hv
    refine T.names C F hcl ho hS hr h1 ?_
    unfold namesOf
    exact List.mem_append.2 (.inr ht)

/-- The set with one more. -/
def more (S : Nat → Bool) (j : Nat) : Nat → Bool := fun i => S i || i == j

theorem more_self {S : Nat → Bool} {j : Nat} : more S j j = true := by simp [more]
theorem more_of {S : Nat → Bool} {i j : Nat} (h : S i = true) : more S j i = true := by simp [more, h]
theorem more_or {S : Nat → Bool} {i j : Nat} (h : more S j i = true) : S i = true ∨ i = j := by simpa [more] using h
theorem more_not {S : Nat → Bool} {i j : Nat} (h : more S j i = false) : S i = false ∧ i ≠ j := by simpa [more] using h

theorem TInv.step {S : Nat → Bool} {a : Act} (T : TInv ops ss vs S σ a) (C : Canon P ops ss vs f) (F : Facts P ops ss) (hcl : Closed ops S) {j : Nat} {o : Oper} (ho : ops[j]? = some o) (hS : S j = false)
    {σ' : Sg} {cv : Value} (hl : Le σ σ') (hv : VR σ' (vs j) cv) : TInv ops ss vs (more S j) σ' (a.put o.dst cv) := by
  have ho' : ops.toList[j]? = some o := by simpa using ho
  have hjs : j < ops.size := (Array.getElem?_eq_some_iff.1 ho).1
  have hdj : dstAt ops j = o.dst := by unfold dstAt; rw [ho]; rfl
  have hlt := St.put_lt (C.op j o ho).put
  rw [(F.sz j (by omega)).1] at hlt
  have hlt' : ∀ x, o.dst = some x → x < a.tmps.size := fun x e => Nat.lt_of_lt_of_le (hlt x e) T.sz
  refine ⟨fun i t hi hSi hd hla => ?_, fun t ht hno => ?_, fun t ht => ?_, by rw [put_size]; exact T.sz⟩
  · rw [put_get hlt']
    rcases more_or hSi with hSi1 | rfl
    · have hne : o.dst ≠ some t := by
        intro e
        rcases Nat.lt_trichotomy i j with h | h | h
        · exact hla j h hjs more_self (by rw [hdj]; exact e)
        · subst h; rw [hS] at hSi1; cases hSi1
        · obtain ⟨oi, hoi, hoi'⟩ := opsAt (ops := ops) hi
          have hb := C.later hcl hoi' hSi1 hS
          have hd' : oi.dst = some t := by unfold dstAt at hd; rw [hoi] at hd; exact hd
          exact (((C.apart j i o oi h ho' hoi').names hb).1 t e) (dst_names hd')
      rw [if_neg hne]
      exact (T.w i t hi hSi1 hd fun i' k1 k2 k3 => hla i' k1 k2 (more_of k3)).mono hl
    · rw [hdj] at hd
      rw [if_pos hd]
      exact hv
  · have hne : o.dst ≠ some t := by rw [← hdj]; exact hno j hjs more_self
    rw [put_get hlt', if_neg hne]
    exact (T.z t ht fun i k1 k2 => hno i k1 (more_of k2)).mono hl
  · rw [put_get hlt', if_neg, T.hi t ht]
    intro e
    exact absurd (hlt t e) (Nat.not_lt.2 (Nat.le_trans F.sz256 ht))

theorem TInv.start {a : Act} (hs : SR σ (ss 0) a) : TInv ops ss vs (fun _ => false) σ a :=
  ⟨fun i t _ h => absurd h (by simp), fun t ht _ => hs.1.2.2.1 t ht, hs.1.2.2.2, hs.1.2.1⟩

theorem TInv.done {S : Nat → Bool} {a : Act} (T : TInv ops ss vs S σ a) (C : Canon P ops ss vs f) (F : Facts P ops ss) (hall : ∀ i, i < ops.size → S i = true) : TR σ (ss ops.size).tm (ss ops.size).sz a.tmps := by
  obtain ⟨e1, _⟩ := F.sz ops.size (Nat.le_refl _)
  refine ⟨by rw [e1]; exact F.sz256, by rw [e1]; exact T.sz, fun t ht => ?_, T.hi⟩
  rcases C.tm F ht ops.size (Nat.le_refl _) with ⟨i, h1, h2, h3, h4⟩ | ⟨h1, h2⟩
  · rw [h4]
    exact T.w i t h1 (hall i h1) h2 fun j k1 k2 _ => h3 j k1 k2
  · rw [h2]
    exact T.z t ht fun i k1 _ => h1 i k1

end

end Go.AM
