/-
  What the fast evaluator's operations come to: the heap, each operation.
-/
import Derived.Test.YtdjlpdboochkhaaGreatAmFxOk
set_option linter.unusedVariables false
namespace Go.AM

variable {P : Program}

theorem getH_ok {H : Heap} {id : Nat} {k : AObj → Bool} (h : getH H id k = true) : ∃ o, H.get id = some o ∧ k o = true := by
  cases H
  exact optT h
theorem setH_eq (H : Heap) (id : Nat) (o : AObj) (k : Heap → Bool) : setH H id o k = k (H.put id o) := by
  cases H
  exact Tr.setK_eq o _ id _
theorem addH_eq (H : Heap) (o : AObj) (k : Nat → Heap → Bool) : addH H o k = k H.next (H.add o) := by
  cases H with
  | mk objs next =>
    show Tr.setK o objs next (fun t => forceN (Nat.succ next) fun n => k next ⟨t, n⟩) = _
    rw [Tr.setK_eq, forceN_eq]
    rfl
theorem rowC_ok {o : AObj} {k : Tr AV → Nat → Nat → List AV → Nat → Bool} (h : rowC o k = true) : ∃ t lo hi z g, o = .row t lo hi z g ∧ k t lo hi z g = true := by
  cases o <;> first | (cases h; done) | exact ⟨_, _, _, _, _, rfl, h⟩
theorem loopC_ok {o : AObj} {k : LoopState → Option Code → FuncId → Tm → Nat → List Tmp → Code → Code → Nat → Bool} (h : loopC o k = true) :
    ∃ st pe fn tm sz ps as bd d, o = .loop st pe fn tm sz ps as bd d ∧ k st pe fn tm sz ps as bd d = true := by
  cases o <;> first | (cases h; done) | exact ⟨_, _, _, _, _, _, _, _, _, rfl, h⟩

theorem rowAtK_ok {t : Tr AV} {lo hi : Nat} {z : List AV} {i : Nat} {k : AV → Bool} (h : rowAtK t lo hi z i k = true) : ∃ v, rowAt t lo hi z i = some v ∧ k v = true := by
  obtain ⟨h1, h⟩ := boolF h
  obtain ⟨h2, h⟩ := boolF h
  unfold rowAt
  rw [h1, h2]
  show ∃ v, zAt z i (t.get i) = some v ∧ k v = true
  unfold zAt
  cases hg : t.get i with
  | none => rw [hg] at h; exact optT h
  | some v => rw [hg] at h; exact ⟨v, rfl, h⟩

theorem cellsK_ok {t : Tr AV} {lo hi : Nat} {z : List AV} : ∀ {n i : Nat} {k : List AV → Bool}, cellsK t lo hi z n i k = true → ∃ vs, cellsFrom t lo hi z i n = some vs ∧ k vs = true
  | 0, i, k, h => ⟨[], rfl, h⟩
  | n + 1, i, k, h => by
    have h : rowAtK t lo hi z i (fun v => cellsK t lo hi z n (i + 1) fun vs => k (v :: vs)) = true := h
    obtain ⟨v, h1, h2⟩ := rowAtK_ok h
    obtain ⟨vs, h3, h4⟩ := cellsK_ok h2
    refine ⟨v :: vs, ?_, h4⟩
    show ((rowAt t lo hi z i).bind fun v => (cellsFrom t lo hi z (i + 1) n).bind fun vs => some (v :: vs)) = _
    rw [h1, Option.bind_some, h3]; rfl

theorem fillK_eq (vs : List AV) : ∀ (t : Tr AV) (i : Nat) (k : Tr AV → Bool), fillK vs t i k = k (t.fill i vs) := by
  induction vs with
  | nil => intro t i k; rfl
  | cons x xs ih =>
    intro t i k
    show Tr.setK x t i (fun t => fillK xs t (i + 1) k) = _
    rw [Tr.setK_eq, ih]; rfl

theorem rowBx_eq (cs : List AV) : (rowBx cs).out = ofRow cs := by
  have key : ∀ (cs : List AV) (t : Tr AV) (i : Nat), (@List.rec AV (fun _ => Tr AV → Nat → Bx AObj) (fun t n => .mk (.row t 0 n [] 0)) (fun x _ ih t i => Tr.setK x t i fun t => ih t (Nat.succ i)) cs t i).out = .row (t.fill i cs) 0 (i + cs.length) [] 0 := by
    intro cs
    induction cs with
    | nil => intro t i; rfl
    | cons x xs ih =>
      intro t i
      show (Tr.setK x t i fun t => (@List.rec AV (fun _ => Tr AV → Nat → Bx AObj) (fun t n => .mk (.row t 0 n [] 0)) (fun x _ ih t i => Tr.setK x t i fun t => ih t (Nat.succ i)) xs t (i + 1))).out = _
      rw [Tr.setK_eq, ih]
      show AObj.row _ 0 (i + 1 + xs.length) [] 0 = AObj.row _ 0 (i + (xs.length + 1)) [] 0
      rw [Nat.add_assoc, Nat.add_comm 1]; rfl
  unfold rowBx
  rw [key]
  unfold ofRow
  rw [llen_eq, Nat.zero_add]

theorem storeK_ok {H : Heap} {id off : Nat} {vs : List AV} {k : Heap → Bool} (h : storeK H id off vs k = true) : ∃ H', storeN H id off vs = some H' ∧ k H' = true := by
  obtain ⟨o, h1, h⟩ := getH_ok h
  obtain ⟨t, lo, hi, z, g, rfl, h⟩ := rowC_ok h
  rcases boolT h with ⟨h0, h⟩ | ⟨_, h⟩
  case inr => cases h
  have h0 : Nat.beq g roG = false := h0
  obtain ⟨h2, h⟩ := boolF h
  obtain ⟨h3, h⟩ := boolF h
  obtain ⟨h4, h⟩ := boolF h
  rw [fillK_eq, setH_eq] at h
  refine ⟨_, ?_, h⟩
  unfold storeN
  rw [h1]
  show storeIn H id off vs t lo hi z g = _
  unfold storeIn
  rw [h0, h2, h3, h4]; rfl

theorem rK_ok {r : R} {k : VK} (h : rK r k = true) : ∃ v H', r = some (v, H') ∧ k v H' = true := by
  obtain ⟨p, rfl, h⟩ := optT h
  exact ⟨p.1, p.2, rfl, h⟩

/-- An operation's closure is the operation. -/
def OpOk (P : Program) (b : Bx OpT) (op : Op) : Prop := ∀ tm H k, b.out tm H k = true → ∃ v H', opA P (envOf tm) H op = some (v, H') ∧ k v H' = true

theorem slowO_ok (op : Op) : OpOk P (slowO P op) op := fun tm H k h => rK_ok h
theorem noneO_ok (op : Op) : OpOk P noneO op := fun tm H k h => by cases h

theorem binK_ok {op : BinOp} {t : TypeId} {a b : AV} {k : AV → Bool} (h : (binK P op t).out a b k = true) : ∃ v, binA P op t a b = some v ∧ k v = true := by
  have slow : ∀ {k : AV → Bool}, @Option.rec AV (fun _ => Bool) false k (binA P op t a b) = true → ∃ v, binA P op t a b = some v ∧ k v = true := fun h => optT h
  unfold binK at h
  split at h
  · rename_i kt hu
    obtain ⟨f, ef⟩ := Bx.ex (intK kt op)
    obtain ⟨ok, eo⟩ := Bx.ex (isKd kt)
    have hf : ∀ x y k, f x y k = true → ∃ v, binInt op kt kt x y = some v ∧ k v = true := fun x y k h => intK_ok (by rw [ef]; exact h)
    have hk : ∀ k, ok k = true → k = kt := fun k h => isKd_eq (by rw [eo]; exact h)
    rw [ef, eo] at h
    cases hs : isShift op with
    | false =>
      rw [hs] at h
      obtain ⟨ka, x, rfl, h1⟩ := intC_f h
      obtain ⟨h2, h3⟩ := boolF h1
      obtain ⟨kb, y, rfl, h4⟩ := intC_f h3
      obtain ⟨h5, h6⟩ := boolF h4
      obtain rfl := hk _ h2
      obtain rfl := hk _ h5
      exact hf _ _ _ h6
    | true =>
      rw [hs] at h
      obtain ⟨ka, x, rfl, h1⟩ := intC_f h
      obtain ⟨h2, h3⟩ := boolF h1
      obtain ⟨kb, y, rfl, h4⟩ := intC_f h3
      obtain rfl := hk _ h2
      obtain ⟨v, h5, h6⟩ := hf _ _ _ h4
      refine ⟨v, ?_, h6⟩
      rw [← h5]
      show binInt op ka kb x y = binInt op ka ka x y
      unfold binInt
      rw [hs]; rfl
  · exact slow h

theorem tget_eq {tm : Tm} {x : Operand} {v : AV} (h : envOf tm x = some v) : envOf tm x = some v := h

theorem ptr_bind {v : AV} {id off : Nat} {α : Type} (k : Nat → Nat → Option α) (h : v = .ptr id off) : asPtr v k = k id off := by subst h; rfl

theorem opK_ok (op : Op) : OpOk P (opK P op) op := by
  cases op with
  | move x =>
    intro tm H k h
    obtain ⟨f, ef⟩ := Bx.ex (rdK x)
    have h : (@Bx.rec _ (fun _ => Bx OpT) (fun f => .mk fun tm H k => f tm fun v => k v H) (rdK x)).out tm H k = true := h
    rw [ef] at h
    obtain ⟨v, h1, h2⟩ := rdK_ok (x := x) (by rw [ef]; exact h)
    exact ⟨v, H, by show ret H (envOf tm x) = _; rw [h1]; rfl, h2⟩
  | assign x =>
    intro tm H k h
    obtain ⟨f, ef⟩ := Bx.ex (rdK x)
    have h : (@Bx.rec _ (fun _ => Bx OpT) (fun f => .mk fun tm H k => f tm fun v => k v H) (rdK x)).out tm H k = true := h
    rw [ef] at h
    obtain ⟨v, h1, h2⟩ := rdK_ok (x := x) (by rw [ef]; exact h)
    exact ⟨v, H, by show ret H (envOf tm x) = _; rw [h1]; rfl, h2⟩
  | pick c a b =>
    intro tm H k h
    obtain ⟨fc, ec⟩ := Bx.ex (rdK c)
    obtain ⟨fa, ea⟩ := Bx.ex (rdK a)
    obtain ⟨fb, eb⟩ := Bx.ex (rdK b)
    unfold opK at h
    dsimp only at h
    rw [ec, ea, eb] at h
    obtain ⟨vc, h1, h⟩ := rdK_ok (x := c) (by rw [ec]; exact h)
    obtain ⟨va, h2, h⟩ := rdK_ok (x := a) (by rw [ea]; exact h)
    obtain ⟨vb, h3, h⟩ := rdK_ok (x := b) (by rw [eb]; exact h)
    obtain ⟨t, rfl, h⟩ := boolC_ok h
    refine ⟨cond t va vb, H, ?_, ?_⟩
    · show ret H (oPick (envOf tm) c a b) = _
      unfold oPick
      rw [h1, h2, h3]; rfl
    · cases t <;> exact h
  | binOp op t x y ty =>
    intro tm H k h
    obtain ⟨fx, ex⟩ := Bx.ex (rdK x)
    obtain ⟨fy, ey⟩ := Bx.ex (rdK y)
    obtain ⟨g, eg⟩ := Bx.ex (binK P op t)
    unfold opK at h
    dsimp only at h
    rw [ex, ey, eg] at h
    obtain ⟨a, h1, h⟩ := rdK_ok (x := x) (by rw [ex]; exact h)
    obtain ⟨b, h2, h⟩ := rdK_ok (x := y) (by rw [ey]; exact h)
    obtain ⟨v, h3, h⟩ := binK_ok (P := P) (op := op) (t := t) (by rw [eg]; exact h)
    refine ⟨v, H, ?_, h⟩
    show ((envOf tm x).bind fun a => (envOf tm y).bind fun b => ret H (binA P op t a b)) = _
    rw [h1, h2]
    show ret H (binA P op t a b) = _
    rw [h3]; rfl
  | unOp op t x =>
    cases op with
    | not =>
      intro tm H k h
      obtain ⟨f, ef⟩ := Bx.ex (rdK x)
      unfold opK at h
      dsimp only at h
      rw [ef] at h
      obtain ⟨v, h1, h⟩ := rdK_ok (x := x) (by rw [ef]; exact h)
      obtain ⟨b, rfl, h⟩ := boolC_ok h
      refine ⟨.bool (!b), H, ?_, ?_⟩
      · show ((envOf tm x).bind fun a => ret H (unA .not a)) = _
        rw [h1]; rfl
      · cases b <;> exact h
    | _ => exact slowO_ok _
  | load t x =>
    intro tm H k h
    obtain ⟨f, ef⟩ := Bx.ex (rdK x)
    unfold opK at h
    dsimp only at h
    rw [ef] at h
    show ∃ v H', ((envOf tm x).bind fun v => asPtr v fun id off => ret H (oLoad P H t id off)) = some (v, H') ∧ _
    cases ha : aggO P t with
    | none => rw [ha] at h; cases h
    | some ag =>
      rw [ha] at h
      cases ag with
      | false =>
        obtain ⟨v, h1, h⟩ := rdK_ok (x := x) (by rw [ef]; exact h)
        obtain ⟨id, off, rfl, h⟩ := ptrC_ok h
        obtain ⟨o, h2, h⟩ := getH_ok h
        obtain ⟨tr, lo, hi, z, g, rfl, h⟩ := rowC_ok h
        obtain ⟨w, h3, h⟩ := rowAtK_ok h
        refine ⟨w, H, ?_, h⟩
        rw [h1]
        show ret H (oLoad P H t id off) = _
        unfold oLoad loadN
        rw [ha, h2]
        show ret H (((cellsFrom tr lo hi z off 1)).bind fun l => lget l 0) = _
        show ret H (((rowAt tr lo hi z off).bind fun v => some [v]).bind fun l => lget l 0) = _
        rw [h3]; rfl
      | true =>
        cases hn : szOf P t with
        | none => rw [hn] at h; cases h
        | some n =>
          rw [hn] at h
          obtain ⟨v, h1, h⟩ := rdK_ok (x := x) (by rw [ef]; exact h)
          obtain ⟨id, off, rfl, h⟩ := ptrC_ok h
          obtain ⟨o, h2, h⟩ := getH_ok h
          obtain ⟨tr, lo, hi, z, g, rfl, h⟩ := rowC_ok h
          obtain ⟨vs, h3, h⟩ := cellsK_ok h
          refine ⟨.agg vs, H, ?_, h⟩
          rw [h1]
          show ret H (oLoad P H t id off) = _
          unfold oLoad loadN
          rw [ha, hn, h2]
          show ret H ((cellsFrom tr lo hi z off n).bind fun l => some (.agg l)) = _
          rw [h3]; rfl
  | store t x v =>
    intro tm H k h
    obtain ⟨fx, ex⟩ := Bx.ex (rdK x)
    obtain ⟨fv, ev⟩ := Bx.ex (rdK v)
    unfold opK at h
    dsimp only at h
    rw [ex, ev] at h
    cases hn : szOf P t with
    | none => rw [hn] at h; cases h
    | some n =>
      rw [hn] at h
      obtain ⟨p, h1, h⟩ := rdK_ok (x := x) (by rw [ex]; exact h)
      obtain ⟨w, h2, h⟩ := rdK_ok (x := v) (by rw [ev]; exact h)
      obtain ⟨id, off, rfl, h9⟩ := ptrC_ok h
      have h := cellsC_ok h9
      obtain ⟨h3, h⟩ := boolF h
      obtain ⟨H', h4, h⟩ := storeK_ok h
      refine ⟨undefA, H', ?_, h⟩
      show ((envOf tm x).bind fun p => (envOf tm v).bind fun v => asPtr p fun id off => oStore P H t id off v) = _
      rw [h1, h2]
      show oStore P H t id off w = _
      unfold oStore
      rw [hn]
      show cond (Nat.beq (llen w.cells) n) _ _ = _
      rw [h3, h4]; rfl
  | nilCheck x =>
    intro tm H k h
    obtain ⟨f, ef⟩ := Bx.ex (rdK x)
    unfold opK at h
    dsimp only at h
    rw [ef] at h
    obtain ⟨v, h1, h⟩ := rdK_ok (x := x) (by rw [ef]; exact h)
    obtain ⟨w, h2, h⟩ := optT h
    refine ⟨w, H, ?_, h⟩
    show ((envOf tm x).bind fun v => ret H (nilChk v)) = _
    rw [h1]
    show ret H (nilChk v) = _
    rw [h2]; rfl
  | fieldAddr t x i =>
    intro tm H k h
    obtain ⟨f, ef⟩ := Bx.ex (rdK x)
    unfold opK at h
    dsimp only at h
    rw [ef] at h
    show ∃ v H', ((und P t).bind fun u => asStruct u fun fs => (envOf tm x).bind fun v => asPtr v fun id off => ret H (fAddr P fs i id off)) = some (v, H') ∧ _
    split at h
    · rename_i fs hu
      split at h
      · rename_i fd hfd
        split at h
        · cases h
        · rename_i n hn hsz
          obtain ⟨v, h1, h⟩ := rdK_ok (x := x) (by rw [ef]; exact h)
          obtain ⟨id, off, rfl, h9⟩ := ptrC_ok h
          rw [forceN_eq] at h9
          refine ⟨_, H, ?_, h9⟩
          rw [hu, h1]
          show ret H (fAddr P fs i id off) = _
          unfold fAddr
          rw [hfd]
          show ret H ((szOf P fd.type).bind fun n => cond (Nat.beq n 0) none (some (.ptr id (Nat.add off fd.offset)))) = _
          rw [hsz]
          have : Nat.beq n 0 = false := nbeqf.2 (fun e => by subst e; exact hn rfl)
          show ret H (cond (Nat.beq n 0) none _) = _
          rw [this]; rfl
        · cases h
      · cases h
    · cases h
  | indexAddr t x y =>
    intro tm H k h
    obtain ⟨fx, ex⟩ := Bx.ex (rdK x)
    obtain ⟨fy, ey⟩ := Bx.ex (rdK y)
    unfold opK at h
    dsimp only at h
    rw [ex, ey] at h
    split at h
    · rename_i e hu
      split at h
      · rename_i s hs
        obtain ⟨v, h1, h⟩ := rdK_ok (x := x) (by rw [ex]; exact h)
        obtain ⟨i, h2, h⟩ := rdK_ok (x := y) (by rw [ey]; exact h)
        obtain ⟨ki, i, rfl, h⟩ := intC_f h
        show ∃ w H', ((und P t).bind fun u => (envOf tm x).bind fun v => (envOf tm y).bind fun i => asI i fun i => ret H (oIndexAddr P u v i)) = some (w, H') ∧ _
        rw [hu, h1, h2]
        show ∃ w H', ret H (oIndexAddr P (.slice e) v i) = some (w, H') ∧ _
        cases i with
        | negSucc n => cases h
        | ofNat n =>
          have fin : ∀ (id off len : Nat), (@Bool.rec (fun _ => Bool) false (forceN (Nat.add off (Nat.mul n s)) fun o => k (.ptr id o) H) (Nat.ble (Nat.succ n) len)) = true →
              (∀ k' : Nat → Nat → Nat → Option AV, asSl v none k' = k' id off len) → ∃ w H', ret H (oIndexAddr P (.slice e) v (.ofNat n)) = some (w, H') ∧ k w H' = true := by
            intro id off len h hv
            obtain ⟨hb, h⟩ := boolF h
            rw [forceN_eq] at h
            refine ⟨_, H, ?_, h⟩
            show ret H ((szOf P e).bind fun s => asSl v none fun id off len => inRange (.ofNat n) len fun n => some (.ptr id (Nat.add off (Nat.mul n s)))) = _
            rw [hs]
            show ret H (asSl v none fun id off len => inRange (.ofNat n) len fun n => some (.ptr id (Nat.add off (Nat.mul n s)))) = _
            rw [hv]
            show ret H (cond (Nat.ble (Nat.succ n) len) _ none) = _
            rw [hb]; rfl
          rcases slC_ok h with ⟨_, h⟩ | ⟨id, off, len, c, rfl, h⟩ | ⟨id, off, len, rfl, h⟩
          · cases h
          · exact fin id off len h (fun _ => rfl)
          · exact fin id off len h (fun _ => rfl)
      · cases h
    · exact slowO_ok _ tm H k h
  | extract x i =>
    intro tm H k h
    obtain ⟨f, ef⟩ := Bx.ex (rdK x)
    unfold opK at h
    dsimp only at h
    rw [ef] at h
    obtain ⟨v, h1, h⟩ := rdK_ok (x := x) (by rw [ef]; exact h)
    obtain ⟨l, rfl, h⟩ := tupC_ok h
    obtain ⟨w, h2, h⟩ := optT h
    refine ⟨w, H, ?_, h⟩
    show ((envOf tm x).bind fun v => asTup v fun l => ret H (lget l i)) = _
    rw [h1]
    show ret H (lget l i) = _
    rw [h2]; rfl
  | alloc t =>
    intro tm H k h
    unfold opK at h
    dsimp only at h
    show ∃ v H', ((zeroOf P t).bind fun z => newRowA H z.cells) = some (v, H') ∧ _
    cases hz : zeroOf P t with
    | none => rw [hz] at h; cases h
    | some z =>
      rw [hz] at h
      show ∃ v H', newRowA H z.cells = some (v, H') ∧ _
      unfold newRowA
      cases ha : allOne z.cells with
      | false => 
        have h : (@Bool.rec (fun _ => Bx OpT) noneO (@Bx.rec _ (fun _ => Bx OpT) (fun o => .mk fun _ H k => addH H o fun id H => k (.ptr id 0) H) (rowBx z.cells)) (allOne z.cells)).out tm H k = true := h
        rw [ha] at h; cases h
      | true =>
        have h : (@Bool.rec (fun _ => Bx OpT) noneO (@Bx.rec _ (fun _ => Bx OpT) (fun o => .mk fun _ H k => addH H o fun id H => k (.ptr id 0) H) (rowBx z.cells)) (allOne z.cells)).out tm H k = true := h
        rw [ha] at h
        obtain ⟨o, eo⟩ := Bx.ex (rowBx z.cells)
        have ho : o = ofRow z.cells := by rw [← rowBx_eq, eo]; rfl
        rw [eo, ho] at h
        have h : addH H (ofRow z.cells) (fun id H => k (.ptr id 0) H) = true := h
        rw [addH_eq] at h
        exact ⟨_, _, rfl, h⟩
  | call c =>
    intro tm H k h
    unfold opK at h
    dsimp only at h
    split at h
    · rename_i b hb
      cases b with
      | len =>
        unfold builtinK at h
        dsimp only at h
        split at h
        · rename_i x hx
          obtain ⟨f, ef⟩ := Bx.ex (rdK x)
          unfold lenK at h
          rw [ef] at h
          have spec : ∀ u, ty0 P c.argTypes = some u → opA P (envOf tm) H (.call c) = arg1 (envOf tm) c.args.toList fun x => ret H (lenA H u x) := by
            intro u hu
            show oCall P (envOf tm) H c = _
            unfold oCall
            rw [hb]
            show ((ty0 P c.argTypes).bind fun u => arg1 (envOf tm) c.args.toList fun x => ret H (lenA H u x)) = _
            rw [hu]; rfl
          have a1 : ∀ (k' : AV → R), arg1 (envOf tm) c.args.toList k' = (envOf tm x).bind k' := by
            intro k'; unfold arg1; rw [hx]; rfl
          split at h
          · rename_i e hu
            obtain ⟨v, h1, h⟩ := rdK_ok (x := x) (by rw [ef]; exact h)
            rw [spec _ hu, a1, h1]
            rcases slC_ok h with ⟨rfl, h⟩ | ⟨id, off, len, cp, rfl, h⟩ | ⟨id, off, len, rfl, h⟩
            · exact ⟨_, _, rfl, h⟩
            · exact ⟨_, _, rfl, h⟩
            · exact ⟨_, _, rfl, h⟩
          · rename_i hu
            obtain ⟨v, h1, h⟩ := rdK_ok (x := x) (by rw [ef]; exact h)
            rw [spec _ hu, a1, h1]
            obtain ⟨s, rfl, h9⟩ := strC_ok h
            rw [forceN_eq] at h9
            exact ⟨_, _, rfl, h9⟩
          · exact slowO_ok _ tm H k h
        · exact slowO_ok _ tm H k h
      | _ => exact slowO_ok _ tm H k h
    · cases h
  | _ => exact slowO_ok _

end Go.AM
