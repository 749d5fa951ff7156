/-
  What the fast evaluator's operations come to.
-/
import Derived.Test.YtdjlpdboochkhaaGreatAmFx2
set_option linter.unusedVariables false
namespace Go.AM

theorem Bx.rec_eq {α β : Type} (k : α → β) (b : Bx α) : @Bx.rec α (fun _ => β) k b = k b.out := by cases b; rfl

theorem boolT {a b : Bool} {c : Bool} (h : @Bool.rec (fun _ => Bool) a b c = true) : (c = false ∧ a = true) ∨ (c = true ∧ b = true) := by
  cases c
  · exact .inl ⟨rfl, h⟩
  · exact .inr ⟨rfl, h⟩
theorem boolF {b c : Bool} (h : @Bool.rec (fun _ => Bool) false b c = true) : c = true ∧ b = true := by
  cases c
  · cases h
  · exact ⟨rfl, h⟩
theorem optT {α : Type} {x : Option α} {k : α → Bool} (h : @Option.rec α (fun _ => Bool) false k x = true) : ∃ a, x = some a ∧ k a = true := by
  cases x with
  | none => cases h
  | some a => exact ⟨a, rfl, h⟩

theorem S4_eq {α : Type} (d : Nat) (t : N4 α) (k : α → Bool) : (S4 α d).out t k = k (N4.get t d) := by
  cases t
  match d with
  | 0 => rfl
  | 1 => rfl
  | 2 => rfl
  | d + 3 => rfl

theorem P4_eq {α : Type} (d : Nat) (t : N4 α) (m : α → (α → Bool) → Bool) (k : N4 α → Bool) : (P4 α d).out t m k = m (N4.get t d) fun x => k (N4.put t d x) := by
  cases t
  match d with
  | 0 => rfl
  | 1 => rfl
  | 2 => rfl
  | d + 3 => rfl

theorem Bx.ex {α : Type} (b : Bx α) : ∃ v, b = .mk v := by cases b; exact ⟨_, rfl⟩

theorem S4_mk {α : Type} (d : Nat) : ∃ f, S4 α d = .mk f ∧ ∀ t k, f t k = k (N4.get t d) := by
  obtain ⟨f, hf⟩ := Bx.ex (S4 α d)
  refine ⟨f, hf, fun t k => ?_⟩
  have := S4_eq d t k
  rw [hf] at this
  exact this
theorem P4_mk {α : Type} (d : Nat) : ∃ f, P4 α d = .mk f ∧ ∀ t m k, f t m k = m (N4.get t d) fun x => k (N4.put t d x) := by
  obtain ⟨f, hf⟩ := Bx.ex (P4 α d)
  refine ⟨f, hf, fun t m k => ?_⟩
  have := P4_eq d t m k
  rw [hf] at this
  exact this

theorem selK_eq (i : Nat) (t : Tm) (k : AV → Bool) : (selK i).out t k = k (Tm.get t i) := by
  obtain ⟨f0, e0, h0⟩ := S4_mk (α := N4 (N4 (N4 AV))) (Nat.div i 64)
  obtain ⟨f1, e1, h1⟩ := S4_mk (α := N4 (N4 AV)) (Nat.mod (Nat.div i 16) 4)
  obtain ⟨f2, e2, h2⟩ := S4_mk (α := N4 AV) (Nat.mod (Nat.div i 4) 4)
  obtain ⟨f3, e3, h3⟩ := S4_mk (α := AV) (Nat.mod i 4)
  unfold selK
  rw [e0, e1, e2, e3]
  show f0 t (fun t => f1 t fun t => f2 t fun t => f3 t k) = _
  rw [h0, h1, h2, h3]
  rfl

theorem putK_eq (i : Nat) (t : Tm) (v : AV) (k : Tm → Bool) : (putK i).out t v k = k (Tm.put t i v) := by
  obtain ⟨f0, e0, h0⟩ := P4_mk (α := N4 (N4 (N4 AV))) (Nat.div i 64)
  obtain ⟨f1, e1, h1⟩ := P4_mk (α := N4 (N4 AV)) (Nat.mod (Nat.div i 16) 4)
  obtain ⟨f2, e2, h2⟩ := P4_mk (α := N4 AV) (Nat.mod (Nat.div i 4) 4)
  obtain ⟨f3, e3, h3⟩ := P4_mk (α := AV) (Nat.mod i 4)
  unfold putK
  rw [e0, e1, e2, e3]
  show f0 t (fun t k => f1 t (fun t k => f2 t (fun t k => f3 t (fun _ k => k v) k) k) k) k = _
  rw [h0, h1, h2, h3]
  rfl

theorem forceN_eq (n : Nat) (k : Nat → Bool) : forceN n k = k n := by cases n <;> rfl

theorem rdK_ok {x : Operand} {tm : Tm} {k : AV → Bool} (h : (rdK x).out tm k = true) : ∃ v, envOf tm x = some v ∧ k v = true := by
  cases x with
  | tmp t =>
    have h : (@Bool.rec (fun _ => Bx SelT) (.mk fun _ _ => false) (selK t) (Nat.ble (Nat.succ t) 256)).out tm k = true := h
    cases hb : Nat.ble (Nat.succ t) 256 with
    | false => rw [hb] at h; cases h
    | true =>
      rw [hb] at h
      refine ⟨Tm.get tm t, ?_, (selK_eq t tm k).symm.trans h⟩
      show cond (Nat.ble (Nat.succ t) 256) _ _ = _
      rw [hb]; rfl
  | const v =>
    have h : (@Option.rec AV (fun _ => Bx SelT) (.mk fun _ _ => false) (fun a => .mk fun _ k => k a) (ofV v)).out tm k = true := h
    show ∃ w, ofV v = some w ∧ _
    cases hv : ofV v with
    | none => rw [hv] at h; cases h
    | some a => rw [hv] at h; exact ⟨a, rfl, h⟩
  | global g => cases h
  | func f => exact ⟨_, rfl, h⟩

theorem dstK_ok {sz : Nat} {dst : Option Tmp} {tm : Tm} {v : AV} {k : Tm → Bool} (h : (dstK sz dst).out tm v k = true) (df : List Nat) (H0 H : Heap) :
    ∃ tm', St.put ⟨tm, sz, df, H0⟩ dst v H = some ⟨tm', sz, df, H⟩ ∧ k tm' = true := by
  cases dst with
  | none => exact ⟨tm, rfl, h⟩
  | some d =>
    have h : (@Bool.rec (fun _ => Bx PutT) (.mk fun _ _ _ => false) (putK d) (Nat.ble (Nat.succ d) sz)).out tm v k = true := h
    cases hb : Nat.ble (Nat.succ d) sz with
    | false => rw [hb] at h; cases h
    | true =>
      rw [hb] at h
      refine ⟨Tm.put tm d v, ?_, (putK_eq d tm v k).symm.trans h⟩
      show cond (Nat.ble (Nat.succ d) sz) _ _ = _
      rw [hb]; rfl

/-! ### Cases of values -/
theorem intC_ok {v : AV} {k : IntKind → Int → Bool} {e : Bool} (h : v.intC k e = true) : (∃ kd n, v = .int kd n ∧ k kd n = true) ∨ e = true := by
  cases v <;> first | exact .inr h | exact .inl ⟨_, _, rfl, h⟩
theorem intC_f {v : AV} {k : IntKind → Int → Bool} (h : v.intC k false = true) : ∃ kd n, v = .int kd n ∧ k kd n = true := by
  rcases intC_ok h with h | h
  · exact h
  · cases h
theorem boolC_ok {v : AV} {k : Bool → Bool} (h : v.boolC k = true) : ∃ b, v = .bool b ∧ k b = true := by
  cases v <;> first | (cases h; done) | exact ⟨_, rfl, h⟩
theorem ptrC_ok {v : AV} {k : Nat → Nat → Bool} (h : v.ptrC k = true) : ∃ i o, v = .ptr i o ∧ k i o = true := by
  cases v <;> first | (cases h; done) | exact ⟨_, _, rfl, h⟩
theorem tupC_ok {v : AV} {k : List AV → Bool} (h : v.tupC k = true) : ∃ l, v = .tup l ∧ k l = true := by
  cases v <;> first | (cases h; done) | exact ⟨_, rfl, h⟩
theorem strC_ok {v : AV} {k : List Nat → Bool} (h : v.strC k = true) : ∃ l, v = .str l ∧ k l = true := by
  cases v <;> first | (cases h; done) | exact ⟨_, rfl, h⟩
theorem cellsC_ok {v : AV} {k : List AV → Bool} (h : v.cellsC k = true) : k v.cells = true := by
  cases v <;> exact h
theorem slC_ok {v : AV} {n : Bool} {k : Nat → Nat → Nat → Bool} (h : v.slC n k = true) : (v = .nils ∧ n = true) ∨ (∃ i o l c, v = .slice i o l c ∧ k i o l = true) ∨ (∃ i o l, v = .oslice i o l ∧ k i o l = true) := by
  cases v <;> first | (cases h; done) | exact .inl ⟨rfl, h⟩ | exact .inr (.inl ⟨_, _, _, _, rfl, h⟩) | exact .inr (.inr ⟨_, _, _, rfl, h⟩)

/-! ### Numbers -/
theorem isKd_eq {kt k : IntKind} (h : (isKd kt).out k = true) : k = kt := by
  cases kt <;> cases k <;> first | rfl | cases h

theorem bits_max (kt : IntKind) : (minN kt = none ∧ kt.signed = false ∧ maxN kt + 1 = 2 ^ kt.bits) ∨ (∃ m, minN kt = some m ∧ m = maxN kt ∧ kt.signed = true ∧ 2 * (maxN kt + 1) = 2 ^ kt.bits ∧ maxN kt + 1 = 2 ^ (kt.bits - 1)) := by
  cases kt
  · exact .inr ⟨127, rfl, rfl, rfl, rfl, rfl⟩
  · exact .inr ⟨32767, rfl, rfl, rfl, rfl, rfl⟩
  · exact .inr ⟨2147483647, rfl, rfl, rfl, rfl, rfl⟩
  · exact .inr ⟨9223372036854775807, rfl, rfl, rfl, rfl, rfl⟩
  · exact .inl ⟨rfl, rfl, rfl⟩
  · exact .inl ⟨rfl, rfl, rfl⟩
  · exact .inl ⟨rfl, rfl, rfl⟩
  · exact .inl ⟨rfl, rfl, rfl⟩

theorem pow_cast (n : Nat) : ((2 ^ n : Nat) : Int) = (2 : Int) ^ n := by rw [Int.natCast_pow]; rfl

theorem emod_in {n M : Nat} (h : n < M) : (n : Int) % (M : Int) = n := Int.emod_eq_of_lt (by omega) (by omega)

theorem wrap_nat_in (kt : IntKind) (n : Nat) (h : n ≤ maxN kt) : kt.wrap (.ofNat n) = .ofNat n := by
  unfold IntKind.wrap
  rw [← pow_cast, ← pow_cast]
  show (if (kt.signed && decide ((n : Int) % ((2 ^ kt.bits : Nat) : Int) ≥ ((2 ^ (kt.bits - 1) : Nat) : Int))) = true then (n : Int) % ((2 ^ kt.bits : Nat) : Int) - ((2 ^ kt.bits : Nat) : Int) else (n : Int) % ((2 ^ kt.bits : Nat) : Int)) = (n : Int)
  rcases bits_max kt with ⟨_, hs, hm⟩ | ⟨m, _, _, hs, hm, hm2⟩
  · rw [hs, emod_in (by omega)]
    simp
  · rw [hs, emod_in (by omega), ← hm2]
    have : ¬ ((n : Int) ≥ ((maxN kt + 1 : Nat) : Int)) := by omega
    simp only [Bool.true_and, decide_eq_true_eq, if_neg this]

theorem wrap_neg_in (kt : IntKind) (n m : Nat) (hm : minN kt = some m) (h : n ≤ m) : kt.wrap (.negSucc n) = .negSucc n := by
  unfold IntKind.wrap
  rw [← pow_cast, ← pow_cast]
  rcases bits_max kt with ⟨h1, _⟩ | ⟨m', h1, h2, hs, h3, h4⟩
  · rw [hm] at h1; cases h1
  · rw [hm] at h1; cases h1
    have e : (Int.negSucc n) % ((2 ^ kt.bits : Nat) : Int) = ((2 ^ kt.bits : Nat) : Int) - 1 - n := by
      rw [Int.negSucc_emod _ (by have : 0 < 2 ^ kt.bits := Nat.two_pow_pos _; omega), emod_in (by omega)]
    show (if (kt.signed && decide ((Int.negSucc n) % ((2 ^ kt.bits : Nat) : Int) ≥ ((2 ^ (kt.bits - 1) : Nat) : Int))) = true then (Int.negSucc n) % ((2 ^ kt.bits : Nat) : Int) - ((2 ^ kt.bits : Nat) : Int) else (Int.negSucc n) % ((2 ^ kt.bits : Nat) : Int)) = _
    rw [hs, e, ← h4, ← h3]
    have : ((2 * (maxN kt + 1) : Nat) : Int) - 1 - n ≥ ((maxN kt + 1 : Nat) : Int) := by omega
    simp only [Bool.true_and, decide_eq_true_eq, if_pos this]
    have e2 : Int.negSucc n = -((n : Int) + 1) := rfl
    rw [e2]; omega

theorem wrap_nat_mod (kt : IntKind) (n : Nat) (h : minN kt = none) : kt.wrap (.ofNat n) = .ofNat (n % (maxN kt + 1)) := by
  unfold IntKind.wrap
  rw [← pow_cast, ← pow_cast]
  rcases bits_max kt with ⟨_, hs, hm⟩ | ⟨m, h1, _⟩
  · show (if (kt.signed && decide ((n : Int) % ((2 ^ kt.bits : Nat) : Int) ≥ ((2 ^ (kt.bits - 1) : Nat) : Int))) = true then (n : Int) % ((2 ^ kt.bits : Nat) : Int) - ((2 ^ kt.bits : Nat) : Int) else (n : Int) % ((2 ^ kt.bits : Nat) : Int)) = _
    rw [hs]
    simp only [Bool.false_and, Bool.false_eq_true, if_false]
    rw [← hm]; rfl
  · rw [h] at h1; cases h1

theorem wrapK_eq (kt : IntKind) (z : Int) (k : Int → Bool) : (wrapK kt).out z k = k (kt.wrap z) := by
  unfold wrapK
  cases hm : minN kt with
  | none =>
    cases z with
    | ofNat n =>
      show @Bool.rec (fun _ => Bool) (forceN (n % (maxN kt + 1)) fun n => k (.ofNat n)) (forceN n fun n => k (.ofNat n)) (Nat.ble n (maxN kt)) = _
      rw [forceN_eq, forceN_eq]
      cases hb : Nat.ble n (maxN kt) with
      | true => rw [wrap_nat_in kt n (nble.1 hb)]
      | false => rw [wrap_nat_mod kt n hm]
    | negSucc n => rfl
  | some m =>
    cases z with
    | ofNat n =>
      show @Bool.rec (fun _ => Bool) (k (kt.wrap (.ofNat n))) (forceN n fun n => k (.ofNat n)) (Nat.ble n (maxN kt)) = _
      rw [forceN_eq]
      cases hb : Nat.ble n (maxN kt) with
      | true => rw [wrap_nat_in kt n (nble.1 hb)]
      | false => rfl
    | negSucc n =>
      show @Bool.rec (fun _ => Bool) (k (kt.wrap (.negSucc n))) (forceN n fun n => k (.negSucc n)) (Nat.ble n m) = _
      rw [forceN_eq]
      cases hb : Nat.ble n m with
      | true => rw [wrap_neg_in kt n m hm (nble.1 hb)]
      | false => rfl

theorem subNN_eq (m n : Nat) (k : Int → Bool) : subNN m n k = k ((m : Int) - n) := by
  unfold subNN
  cases hb : Nat.ble n m with
  | true =>
    have := nble.1 hb
    show k (.ofNat (m - n)) = _
    congr 1; show ((m - n : Nat) : Int) = _; omega
  | false =>
    have := nblef.1 hb
    show k (.negSucc (Nat.pred (n - m))) = _
    congr 1
    have e : Int.negSucc (Nat.pred (n - m)) = -(((n - m - 1 : Nat) : Int) + 1) := rfl
    rw [e]; omega

theorem addZ_eq (x y : Int) (k : Int → Bool) : addZ x y k = k (x + y) := by
  cases x with
  | ofNat a => cases y with
    | ofNat b => rfl
    | negSucc b =>
      show subNN a (b + 1) k = _
      rw [subNN_eq]; congr 1
  | negSucc a => cases y with
    | ofNat b =>
      show subNN b (a + 1) k = _
      rw [subNN_eq]
      show k ((b : Int) - ((a + 1 : Nat) : Int)) = k (Int.negSucc a + (b : Int))
      refine congrArg k ?_
      have e : Int.negSucc a = -((a : Int) + 1) := rfl
      rw [e]; omega
    | negSucc b => rfl

theorem subZ_eq (x y : Int) (k : Int → Bool) : subZ x y k = k (x - y) := by
  have e : ∀ a, Int.negSucc a = -((a : Int) + 1) := fun _ => rfl
  cases x with
  | ofNat a => cases y with
    | ofNat b => show subNN a b k = _; rw [subNN_eq]; rfl
    | negSucc b =>
      show k ((a + b + 1 : Nat) : Int) = k ((a : Int) - Int.negSucc b)
      refine congrArg k ?_
      rw [e]; omega
  | negSucc a => cases y with
    | ofNat b =>
      show k (.negSucc (a + b)) = k (Int.negSucc a - (b : Int))
      refine congrArg k ?_
      rw [e, e]; omega
    | negSucc b =>
      show subNN b a k = _
      rw [subNN_eq]
      refine congrArg k ?_
      rw [e, e]; omega

theorem eqZ_eq (x y : Int) : eqZ x y = intEq x y := by cases x <;> cases y <;> rfl
theorem ltZ_eq (x y : Int) : ltZ x y = intLt x y := by cases x <;> cases y <;> rfl
theorem leZ_eq (x y : Int) : leZ x y = intLe x y := by
  rw [intLe_eq]
  cases x with
  | ofNat a => cases y with
    | ofNat b => show Nat.ble a b = _; rw [Bool.eq_iff_iff, nble]; simp
    | negSucc b =>
      show false = _
      symm; rw [decide_eq_false_iff_not]
      have e2 : Int.negSucc b = -((b : Int) + 1) := rfl
      rw [e2]; show ¬ (a : Int) ≤ _; omega
  | negSucc a => cases y with
    | ofNat b =>
      show true = _
      symm; rw [decide_eq_true_iff]
      have e2 : Int.negSucc a = -((a : Int) + 1) := rfl
      rw [e2]; show _ ≤ (b : Int); omega
    | negSucc b =>
      show Nat.ble b a = _
      rw [Bool.eq_iff_iff, nble]
      have e : Int.negSucc a = -((a : Int) + 1) := rfl
      have e2 : Int.negSucc b = -((b : Int) + 1) := rfl
      rw [e, e2, decide_eq_true_iff]; omega

theorem boolK_eq (b : Bool) (k : AV → Bool) : boolK b k = k (.bool b) := by cases b <;> rfl

theorem natC_ok {x y : Int} {e : Bool} {k : Nat → Nat → Bool} (h : natC x y e k = true) : e = true ∨ ∃ a b : Nat, x = .ofNat a ∧ y = .ofNat b ∧ k a b = true := by
  cases x with
  | ofNat a => cases y with
    | ofNat b => exact .inr ⟨a, b, rfl, rfl, h⟩
    | negSucc b => exact .inl h
  | negSucc a => exact .inl h

theorem slowI_ok {op : BinOp} {kt : IntKind} {x y : Int} {k : AV → Bool} (h : slowI op kt x y k = true) : ∃ v, binInt op kt kt x y = some v ∧ k v = true := optT h

theorem ofInt_nat (w a : Nat) (h : a < 2 ^ w) : (BitVec.ofInt w (.ofNat a)).toNat = a := by
  show (BitVec.ofInt w (a : Int)).toNat = a
  rw [BitVec.ofInt_natCast, BitVec.toNat_ofNat, Nat.mod_eq_of_lt h]

theorem max_lt (kt : IntKind) {a : Nat} (h : a ≤ maxN kt) : a < 2 ^ kt.bits := by
  rcases bits_max kt with ⟨_, _, hm⟩ | ⟨_, _, _, _, hm, _⟩ <;> omega

theorem kd_beq (k : IntKind) : (k == k) = true := by cases k <;> rfl

theorem bitK_ok {op : BinOp} {kt : IntKind} {g : Nat → Nat → Nat} (hg : ∀ a b, a ≤ maxN kt → b ≤ maxN kt → g a b ≤ maxN kt → binInt op kt kt (.ofNat a) (.ofNat b) = some (.int kt (.ofNat (g a b))))
    {x y : Int} {k : AV → Bool} (h : (bitK op kt g).out x y k = true) : ∃ v, binInt op kt kt x y = some v ∧ k v = true := by
  rcases natC_ok h with h | ⟨a, b, rfl, rfl, h⟩
  · exact slowI_ok h
  · rcases boolT h with ⟨_, h⟩ | ⟨h1, h⟩
    · exact slowI_ok h
    · rcases boolT h with ⟨_, h⟩ | ⟨h2, h⟩
      · exact slowI_ok h
      · rcases boolT h with ⟨_, h⟩ | ⟨h3, h⟩
        · exact slowI_ok h
        · rw [forceN_eq] at h
          exact ⟨_, hg a b (nble.1 h1) (nble.1 h2) (nble.1 h3), h⟩

theorem bits_and {kt : IntKind} (f : (n : Nat) → BitVec n → BitVec n → BitVec n) (g : Nat → Nat → Nat) (hf : ∀ n (x y : BitVec n), (f n x y).toNat = g x.toNat y.toNat) {a b : Nat} (h1 : a ≤ maxN kt) (h2 : b ≤ maxN kt) (h3 : g a b ≤ maxN kt) :
    bitsA f kt (.ofNat a) (.ofNat b) = some (.int kt (.ofNat (g a b))) := by
  unfold bitsA
  rw [hf, ofInt_nat _ _ (max_lt kt h1), ofInt_nat _ _ (max_lt kt h2)]
  have := wrap_nat_in kt (g a b) h3
  show some (AV.int kt (kt.wrap (.ofNat (g a b)))) = _
  rw [this]

theorem binInt_same (op : BinOp) (kt : IntKind) (x y : Int) (h : isShift op = false) : binInt op kt kt x y = intBin op kt x y := by
  unfold binInt
  rw [h, kd_beq]; rfl

theorem wrapK_mk (kt : IntKind) : ∃ w, wrapK kt = .mk w ∧ ∀ z k, w z k = k (kt.wrap z) := by
  obtain ⟨f, hf⟩ := Bx.ex (wrapK kt)
  refine ⟨f, hf, fun z k => ?_⟩
  have := wrapK_eq kt z k
  rw [hf] at this
  exact this

theorem intK_ok {op : BinOp} {kt : IntKind} {x y : Int} {k : AV → Bool} (h : (intK kt op).out x y k = true) : ∃ v, binInt op kt kt x y = some v ∧ k v = true := by
  cases op with
  | add =>
    have h : (@Bx.rec WrapT (fun _ => Bx IntT) (fun w => .mk fun x y k => addZ x y fun z => w z fun z => k (.int kt z)) (wrapK kt)).out x y k = true := h
    obtain ⟨w, ew, hw⟩ := wrapK_mk kt
    rw [ew] at h
    have h : addZ x y (fun z => w z fun z => k (.int kt z)) = true := h
    rw [addZ_eq, hw] at h
    exact ⟨_, binInt_same _ _ _ _ rfl, h⟩
  | sub =>
    have h : (@Bx.rec WrapT (fun _ => Bx IntT) (fun w => .mk fun x y k => subZ x y fun z => w z fun z => k (.int kt z)) (wrapK kt)).out x y k = true := h
    obtain ⟨w, ew, hw⟩ := wrapK_mk kt
    rw [ew] at h
    have h : subZ x y (fun z => w z fun z => k (.int kt z)) = true := h
    rw [subZ_eq, hw] at h
    exact ⟨_, binInt_same _ _ _ _ rfl, h⟩
  | mul =>
    have h : (@Bx.rec WrapT (fun _ => Bx IntT) (fun w => .mk fun x y k => natC x y (slowI .mul kt x y k) fun a b => w (.ofNat (Nat.mul a b)) fun z => k (.int kt z)) (wrapK kt)).out x y k = true := h
    obtain ⟨w, ew, hw⟩ := wrapK_mk kt
    rw [ew] at h
    have h : natC x y (slowI .mul kt x y k) (fun a b => w (.ofNat (Nat.mul a b)) fun z => k (.int kt z)) = true := h
    rcases natC_ok h with h1 | ⟨a, b, rfl, rfl, h1⟩
    · exact slowI_ok h1
    · rw [hw] at h1
      exact ⟨_, binInt_same _ _ _ _ rfl, h1⟩
  | quo =>
    have h : (@Bx.rec WrapT (fun _ => Bx IntT) (fun w => .mk fun x y k => natC x y (slowI .quo kt x y k) fun a b => @Bool.rec (fun _ => Bool) (w (.ofNat (Nat.div a b)) fun z => k (.int kt z)) false (Nat.beq b 0)) (wrapK kt)).out x y k = true := h
    obtain ⟨w, ew, hw⟩ := wrapK_mk kt
    rw [ew] at h
    have h : natC x y (slowI .quo kt x y k) (fun a b => @Bool.rec (fun _ => Bool) (w (.ofNat (Nat.div a b)) fun z => k (.int kt z)) false (Nat.beq b 0)) = true := h
    rcases natC_ok h with h1 | ⟨a, b, rfl, rfl, h1⟩
    · exact slowI_ok h1
    · rcases boolT h1 with ⟨hb, h2⟩ | ⟨_, h2⟩
      · rw [hw] at h2
        refine ⟨_, (binInt_same _ _ _ _ rfl).trans ?_, h2⟩
        show cond (intEq (.ofNat b) 0) none _ = _
        have : intEq (.ofNat b) 0 = Nat.beq b 0 := rfl
        rw [this, hb]; rfl
      · cases h2
  | rem =>
    have h : natC x y (slowI .rem kt x y k) (fun a b => @Bool.rec (fun _ => Bool) (forceN (Nat.mod a b) fun n => k (.int kt (.ofNat n))) false (Nat.beq b 0)) = true := h
    rcases natC_ok h with h1 | ⟨a, b, rfl, rfl, h1⟩
    · exact slowI_ok h1
    · rcases boolT h1 with ⟨hb, h2⟩ | ⟨_, h2⟩
      · rw [forceN_eq] at h2
        refine ⟨_, (binInt_same _ _ _ _ rfl).trans ?_, h2⟩
        show cond (intEq (.ofNat b) 0) none _ = _
        have : intEq (.ofNat b) 0 = Nat.beq b 0 := rfl
        rw [this, hb]; rfl
      · cases h2
  | and => exact bitK_ok (fun a b h1 h2 h3 => (binInt_same .and kt _ _ rfl).trans (bits_and _ Nat.land (fun n x y => BitVec.toNat_and x y) h1 h2 h3)) h
  | or => exact bitK_ok (fun a b h1 h2 h3 => (binInt_same .or kt _ _ rfl).trans (bits_and _ Nat.lor (fun n x y => BitVec.toNat_or x y) h1 h2 h3)) h
  | xor => exact bitK_ok (fun a b h1 h2 h3 => (binInt_same .xor kt _ _ rfl).trans (bits_and _ Nat.xor (fun n x y => BitVec.toNat_xor x y) h1 h2 h3)) h
  | shl =>
    have h : (@Bx.rec WrapT (fun _ => Bx IntT) (fun w => .mk fun x y k => natC x y (slowI .shl kt x y k) fun a b => w (.ofNat (Nat.mul a (Nat.pow 2 (Nat.min b kt.bits)))) fun z => k (.int kt z)) (wrapK kt)).out x y k = true := h
    obtain ⟨w, ew, hw⟩ := wrapK_mk kt
    rw [ew] at h
    have h : natC x y (slowI .shl kt x y k) (fun a b => w (.ofNat (Nat.mul a (Nat.pow 2 (Nat.min b kt.bits)))) fun z => k (.int kt z)) = true := h
    rcases natC_ok h with h1 | ⟨a, b, rfl, rfl, h1⟩
    · exact slowI_ok h1
    · rw [hw] at h1
      refine ⟨_, ?_, h1⟩
      show some (AV.int kt (kt.wrap (Int.ofNat a * 2 ^ (min b kt.bits)))) = _
      congr 3
  | shr =>
    have h : natC x y (slowI .shr kt x y k) (fun a b => forceN (Nat.div a (Nat.pow 2 (Nat.min b kt.bits))) fun n => k (.int kt (.ofNat n))) = true := h
    rcases natC_ok h with h1 | ⟨a, b, rfl, rfl, h1⟩
    · exact slowI_ok h1
    · rw [forceN_eq] at h1
      refine ⟨_, ?_, h1⟩
      show some (AV.int kt ((Int.ofNat a).fdiv (2 ^ (min b kt.bits)))) = _
      congr 2
      rw [← pow_cast]
      exact (Int.ofNat_fdiv _ _).symm
  | eql =>
    refine ⟨_, binInt_same _ _ _ _ rfl, ?_⟩
    have h : boolK (eqZ x y) k = true := h
    rw [boolK_eq, eqZ_eq] at h; exact h
  | neq =>
    refine ⟨_, binInt_same _ _ _ _ rfl, ?_⟩
    have h : @Bool.rec (fun _ => Bool) (k (.bool true)) (k (.bool false)) (eqZ x y) = true := h
    rw [eqZ_eq] at h
    cases he : intEq x y <;> rw [he] at h <;> exact h
  | lss =>
    refine ⟨_, binInt_same _ _ _ _ rfl, ?_⟩
    have h : boolK (ltZ x y) k = true := h
    rw [boolK_eq, ltZ_eq] at h; exact h
  | leq =>
    refine ⟨_, binInt_same _ _ _ _ rfl, ?_⟩
    have h : boolK (leZ x y) k = true := h
    rw [boolK_eq, leZ_eq] at h; exact h
  | gtr =>
    refine ⟨_, binInt_same _ _ _ _ rfl, ?_⟩
    have h : boolK (ltZ y x) k = true := h
    rw [boolK_eq, ltZ_eq] at h; exact h
  | geq =>
    refine ⟨_, binInt_same _ _ _ _ rfl, ?_⟩
    have h : boolK (leZ y x) k = true := h
    rw [boolK_eq, leZ_eq] at h; exact h
  | andNot => exact slowI_ok h

end Go.AM
