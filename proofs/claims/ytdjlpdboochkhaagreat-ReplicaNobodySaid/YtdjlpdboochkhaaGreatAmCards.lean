/-
  What the check of a region that draws its order tells.
-/
import Derived.Test.YtdjlpdboochkhaaGreatAmFrame
set_option linter.unusedVariables false
namespace Go.AM

variable {P : Program}

/-- An edge that orders. -/
def Binds (o : Oper) (k : Nat) : Prop := ∃ e ∈ o.after.toList, Region.binds .any e = true ∧ e.on = k

theorem befFold (acc : List Nat) (i : Nat) : ∀ (es : List Edge) (s : Nat),
    Nat.testBit (es.foldl (fun s e => if Region.binds .any e then s ||| 2 ^ e.on ||| acc.getD e.on 0 else s) s) i = true →
      Nat.testBit s i = true ∨ ∃ e ∈ es, Region.binds .any e = true ∧ (e.on = i ∨ Nat.testBit (acc.getD e.on 0) i = true)
  | [], s, h => .inl h
  | e :: es, s, h => by
    rw [List.foldl_cons] at h
    rcases befFold acc i es _ h with h1 | ⟨e', he, hb, hx⟩
    · cases hb : Region.binds .any e with
      | false => rw [hb] at h1; exact .inl h1
      | true =>
        rw [hb, if_pos rfl, Nat.testBit_or, Nat.testBit_or, Bool.or_eq_true, Bool.or_eq_true] at h1
        rcases h1 with (h1 | h1) | h1
        · exact .inl h1
        · rw [Nat.testBit_two_pow] at h1
          exact .inr ⟨e, by simp, hb, .inl (by simpa using h1)⟩
        · exact .inr ⟨e, by simp, hb, .inr h1⟩
    · exact .inr ⟨e', by simp [he], hb, hx⟩

theorem bef_bit {o : Oper} {acc : List Nat} {i : Nat} (h : Nat.testBit (befOf o acc) i = true) : ∃ k, Binds o k ∧ (k = i ∨ Nat.testBit (acc.getD k 0) i = true) := by
  rcases befFold acc i _ _ h with h1 | ⟨e, he, hb, hx⟩
  · rw [Nat.zero_testBit] at h1; cases h1
  · exact ⟨e.on, ⟨e, he, hb, rfl⟩, hx⟩

theorem cardsOf_cons {ops : List Oper} {o : Oper} {l : List Oper} {acc : List Nat} : cardsOf P ops (o :: l) acc = cardOf P ops o (befOf o acc) :: cardsOf P ops l (acc ++ [befOf o acc]) := rfl

/-- The cards, with what each waits for. -/
theorem cards_get {ops : List Oper} : ∀ (l : List Oper) (acc : List Nat), ∃ f : Nat → Nat,
    (∀ j, j < acc.length → f j = acc.getD j 0) ∧
    (∀ j o, l[j]? = some o → (cardsOf P ops l acc)[j]? = some (cardOf P ops o (f (acc.length + j))) ∧ f (acc.length + j) = befOf o ((List.range (acc.length + j)).map f)) ∧ (cardsOf P ops l acc).length = l.length
  | [], acc => ⟨fun j => acc.getD j 0, fun _ _ => rfl, fun j o h => by simp at h, rfl⟩
  | o :: l, acc => by
    obtain ⟨f, h1, h2, h3⟩ := cards_get l (acc ++ [befOf o acc])
    have hacc : (List.range acc.length).map f = acc := by
      apply List.ext_getElem?
      intro j
      by_cases hj : j < acc.length
      · rw [List.getElem?_map, List.getElem?_range hj]
        have := h1 j (by simp; omega)
        simp only [Option.map_some]
        rw [this, List.getD_eq_getElem?_getD, List.getElem?_append_left hj, List.getElem?_eq_getElem hj]
        rfl
      · rw [List.getElem?_eq_none_iff.2 (by simp; omega), List.getElem?_eq_none_iff.2 (by omega)]
    refine ⟨f, fun j hj => ?_, fun j o' hj => ?_, by rw [cardsOf_cons, List.length_cons, h3]; rfl⟩
    · rw [h1 j (by simp; omega), List.getD_eq_getElem?_getD, List.getD_eq_getElem?_getD, List.getElem?_append_left hj]
    · cases j with
      | zero =>
        simp at hj
        subst hj
        have hf : f acc.length = befOf o acc := by
          rw [h1 acc.length (by simp), List.getD_eq_getElem?_getD, List.getElem?_append_right (Nat.le_refl _)]
          simp
        rw [cardsOf_cons, Nat.add_zero, hacc]
        exact ⟨by rw [List.getElem?_cons_zero, hf], hf⟩
      | succ j =>
        simp only [List.getElem?_cons_succ] at hj
        have := h2 j o' hj
        rw [List.length_append, List.length_singleton, show acc.length + 1 + j = acc.length + (j + 1) by omega] at this
        rw [cardsOf_cons, List.getElem?_cons_succ]
        exact this

theorem rowOk_all {cj : Card} : ∀ {l : List Card} {i : Nat}, rowOk cj l i = true → ∀ k c, l[k]? = some c → pairOk c cj (i + k) = true
  | [], i, _, k, c, hk => by simp at hk
  | x :: l, i, h, k, c, hk => by
    have h : cond (pairOk x cj i) (rowOk cj l (i + 1)) false = true := h
    cases hp : pairOk x cj i with
    | false => rw [hp] at h; cases h
    | true =>
      rw [hp] at h
      cases k with
      | zero => simp at hk; subst hk; exact hp
      | succ k =>
        simp only [List.getElem?_cons_succ] at hk
        have := rowOk_all h k c hk
        rw [show i + (k + 1) = i + 1 + k by omega]
        exact this

theorem cardsOk_all : ∀ {todo done : List Card}, cardsOk done todo = true → ∀ j c, todo[j]? = some c → rowOk c (done ++ todo.take j) 0 = true ∧ c.cls.isSome = true
  | [], _, _, j, c, hj => by simp at hj
  | x :: todo, done, h, j, c, hj => by
    have h : cond (rowOk x done 0 && x.cls.isSome) (cardsOk (done ++ [x]) todo) false = true := h
    cases hx : rowOk x done 0 && x.cls.isSome with
    | false => rw [hx] at h; cases h
    | true =>
      rw [hx] at h
      cases j with
      | zero =>
        simp at hj; subst hj
        simpa using hx
      | succ j =>
        simp only [List.getElem?_cons_succ] at hj
        have := cardsOk_all h j c hj
        simpa using this

theorem edgesAll_all : ∀ {l : List Oper} {i : Nat}, edgesAll l i = true → ∀ k o, l[k]? = some o → edgesOk o (i + k) = true
  | [], i, _, k, o, hk => by simp at hk
  | x :: l, i, h, k, o, hk => by
    have h : cond (edgesOk x i) (edgesAll l (i + 1)) false = true := h
    cases hp : edgesOk x i with
    | false => rw [hp] at h; cases h
    | true =>
      rw [hp] at h
      cases k with
      | zero => simp at hk; subst hk; exact hp
      | succ k =>
        simp only [List.getElem?_cons_succ] at hk
        have := edgesAll_all h k o hk
        rw [show i + (k + 1) = i + 1 + k by omega]
        exact this

theorem mem_conflRow {cj : Card} {j : Nat} : ∀ {l : List Card} {i k : Nat} {c : Card}, l[k]? = some c → Nat.testBit cj.bef (i + k) = false →
    (isR c.cls = true → isW cj.cls = true → (i + k, j) ∈ conflRow cj j l i) ∧ (isW c.cls = true → isR cj.cls = true → (j, i + k) ∈ conflRow cj j l i)
  | [], i, k, c, hk, _ => by simp at hk
  | x :: l, i, k, c, hk, hb => by
    have e : conflRow cj j (x :: l) i = cond (Nat.testBit cj.bef i) (conflRow cj j l (i + 1)) (cond (isR x.cls && isW cj.cls) ((i, j) :: conflRow cj j l (i + 1)) (cond (isW x.cls && isR cj.cls) ((j, i) :: conflRow cj j l (i + 1)) (conflRow cj j l (i + 1)))) := rfl
    rw [e]
    cases k with
    | zero =>
      simp at hk
      subst hk
      rw [Nat.add_zero] at hb ⊢
      rw [hb]
      refine ⟨fun h1 h2 => by rw [h1, h2]; simp, fun h1 h2 => ?_⟩
      have hw : isW cj.cls = false := by cases hc : cj.cls with
        | none => rfl
        | some y => rw [hc] at h2; cases y <;> first | rfl | cases h2
      rw [h1, h2, hw]
      simp
    | succ k =>
      simp only [List.getElem?_cons_succ] at hk
      have hb' : Nat.testBit cj.bef (i + 1 + k) = false := by rw [show i + 1 + k = i + (k + 1) by omega]; exact hb
      obtain ⟨h1, h2⟩ := mem_conflRow (i := i + 1) (j := j) hk hb'
      rw [show i + 1 + k = i + (k + 1) by omega] at h1 h2
      constructor
      · intro x1 x2
        have := h1 x1 x2
        cases Nat.testBit cj.bef i <;> cases isR x.cls && isW cj.cls <;> cases isW x.cls && isR cj.cls <;> simp [this]
      · intro x1 x2
        have := h2 x1 x2
        cases Nat.testBit cj.bef i <;> cases isR x.cls && isW cj.cls <;> cases isW x.cls && isR cj.cls <;> simp [this]

theorem mem_conflAll : ∀ {todo done : List Card} {j0 : Nat}, j0 = done.length → ∀ {j : Nat} {cj : Card}, todo[j]? = some cj → ∀ p ∈ conflRow cj (j0 + j) (done ++ todo.take j) 0, p ∈ conflAll done todo j0
  | [], _, _, _, j, c, hj, _, _ => by simp at hj
  | x :: todo, done, j0, hd, j, c, hj, p, hp => by
    have e : conflAll done (x :: todo) j0 = conflRow x j0 done 0 ++ conflAll (done ++ [x]) todo (j0 + 1) := rfl
    rw [e]
    cases j with
    | zero =>
      simp at hj; subst hj
      simp at hp
      exact List.mem_append.2 (.inl hp)
    | succ j =>
      simp only [List.getElem?_cons_succ] at hj
      refine List.mem_append.2 (.inr (mem_conflAll (by simp [hd]) hj p ?_))
      rw [show j0 + 1 + j = j0 + (j + 1) by omega]
      simpa using hp

def namesOf (ops : List Oper) (o : Oper) : List Tmp := o.dst.toList ++ o.op.operands.toList.flatMap tmpOf ++ guardDst ops o.guard

/-- What is known of two operations, i ahead of j in the text. -/
structure Apart (P : Program) (ops : List Oper) (f : Nat → Nat) (i j : Nat) (oi oj : Oper) : Prop where
  names : Nat.testBit (f j) i = false → (∀ d, oi.dst = some d → d ∉ namesOf ops oj) ∧ (∀ d, oj.dst = some d → d ∉ namesOf ops oi) ∧ ¬ (clsOf P oi.op = some .w ∧ clsOf P oj.op = some .w)
  rw' : Nat.testBit (f j) i = false → (clsOf P oi.op = some .r → clsOf P oj.op = some .w → (i, j) ∈ confl P ops) ∧ (clsOf P oi.op = some .w → clsOf P oj.op = some .r → (j, i) ∈ confl P ops)

theorem dstIn_iff {d : Option Tmp} {l : List Tmp} : dstIn d l = true ↔ ∃ x, d = some x ∧ x ∈ l := by
  cases d with
  | none => simp [dstIn]
  | some x =>
    show natIn x l = true ↔ _
    rw [natIn_eq]
    simp

/-- All that the check tells. -/
theorem regOk_all {ops : List Oper} (h : regOk P ops = true) : ∃ f : Nat → Nat,
    (∀ (j : Nat) (o : Oper), ops[j]? = some o → f j = befOf o ((List.range j).map f)) ∧
    (∀ (j : Nat) (o : Oper) (k : Nat), ops[j]? = some o → Binds o k → k < j) ∧
    (∀ (j : Nat) (o : Oper), ops[j]? = some o → (clsOf P o.op).isSome = true) ∧
    (∀ (i j : Nat) (oi oj : Oper), i < j → ops[i]? = some oi → ops[j]? = some oj → Apart P ops f i j oi oj) := by
  unfold regOk at h
  rw [Bool.and_eq_true] at h
  obtain ⟨h1, h2⟩ := h
  obtain ⟨f, _, hf, hlen⟩ := cards_get (P := P) (ops := ops) ops []
  simp only [List.length_nil, Nat.zero_add] at hf
  refine ⟨f, fun j o hj => (hf j o hj).2, fun j o k hj hb => ?_, fun j o hj => ?_, fun i j oi oj hij hi hj => ?_⟩
  · have := edgesAll_all h1 j o hj
    obtain ⟨e, he, hb, rfl⟩ := hb
    unfold edgesOk at this
    rw [List.all_eq_true] at this
    have := this e he
    rw [hb] at this
    simpa using this
  · exact (cardsOk_all h2 j _ (hf j o hj).1).2
  · have hci := (hf i oi hi).1
    have hcj := (hf j oj hj).1
    have hrow := (cardsOk_all h2 j _ hcj).1
    rw [List.nil_append] at hrow
    have hcit : ((cardsOf P ops ops []).take j)[i]? = some (cardOf P ops oi (f i)) := by rw [List.getElem?_take, if_pos hij]; exact hci
    have hp := rowOk_all hrow i _ hcit
    rw [Nat.zero_add] at hp
    constructor
    · intro hb
      unfold pairOk at hp
      rw [show (cardOf P ops oj (f j)).bef = f j from rfl, hb, cond_false] at hp
      simp only [Bool.not_eq_true', Bool.or_eq_false_iff] at hp
      obtain ⟨⟨p1, p2⟩, p3⟩ := hp
      refine ⟨fun d hd hm => ?_, fun d hd hm => ?_, fun ⟨c1, c2⟩ => ?_⟩
      · have : dstIn (cardOf P ops oi (f i)).dst (cardOf P ops oj (f j)).names = true := dstIn_iff.2 ⟨d, hd, hm⟩
        rw [p1] at this; cases this
      · have : dstIn (cardOf P ops oj (f j)).dst (cardOf P ops oi (f i)).names = true := dstIn_iff.2 ⟨d, hd, hm⟩
        rw [p2] at this; cases this
      · have : (isW (clsOf P oi.op) && isW (clsOf P oj.op)) = true := by rw [c1, c2]; rfl
        rw [show (isW (clsOf P oi.op) && isW (clsOf P oj.op)) = false from p3] at this
        cases this
    · intro hb
      have hm := mem_conflRow (cj := cardOf P ops oj (f j)) (j := j) (i := 0) hcit (by rw [Nat.zero_add]; exact hb)
      rw [Nat.zero_add] at hm
      have hall : ∀ p ∈ conflRow (cardOf P ops oj (f j)) j ((cardsOf P ops ops []).take j) 0, p ∈ confl P ops := by
        intro p hp
        have := mem_conflAll (todo := cardsOf P ops ops []) (done := []) (j0 := 0) rfl hcj p
        rw [Nat.zero_add, List.nil_append] at this
        exact this hp
      refine ⟨fun c1 c2 => hall _ (hm.1 ?_ ?_), fun c1 c2 => hall _ (hm.2 ?_ ?_)⟩
      · show isR (clsOf P oi.op) = true; rw [c1]; rfl
      · show isW (clsOf P oj.op) = true; rw [c2]; rfl
      · show isW (clsOf P oi.op) = true; rw [c1]; rfl
      · show isR (clsOf P oj.op) = true; rw [c2]; rfl

/-- A set that is closed under what its members wait for holds all that a ready operation waits for. -/
theorem bef_in {ops : List Oper} {f : Nat → Nat} (hf : ∀ j o, ops[j]? = some o → f j = befOf o ((List.range j).map f)) (he : ∀ j o k, ops[j]? = some o → Binds o k → k < j) {S : Nat → Bool}
    (hcl : ∀ j o k, ops[j]? = some o → S j = true → Binds o k → S k = true) : ∀ (j : Nat) (o : Oper) (i : Nat), ops[j]? = some o → (∀ k, Binds o k → S k = true) → Nat.testBit (f j) i = true → S i = true := by
  intro j
  induction j using Nat.strongRecOn with
  | _ j ih =>
    intro o i ho hS hb
    rw [hf j o ho] at hb
    obtain ⟨k, hk, hx⟩ := bef_bit hb
    have hkj := he j o k ho hk
    rcases hx with rfl | hx
    · exact hS k hk
    · rw [List.getD_eq_getElem?_getD, List.getElem?_map, List.getElem?_range hkj] at hx
      simp only [Option.map_some, Option.getD_some] at hx
      have hlt : k < ops.length := Nat.lt_trans hkj (List.getElem?_eq_some_iff.1 ho).1
      have hok : ops[k]? = some ops[k] := List.getElem?_eq_getElem hlt
      exact ih k hkj _ i hok (fun k' hk' => hcl k _ k' hok (hS k hk) hk') hx

end Go.AM
