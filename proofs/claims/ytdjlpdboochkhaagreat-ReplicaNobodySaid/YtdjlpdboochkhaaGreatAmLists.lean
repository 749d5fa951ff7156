/-
  Laws of the abstract machine's data: lists, trees, frames.
-/
import Derived.Test.YtdjlpdboochkhaaGreatAmSpec
namespace Go.AM

theorem lget_eq {α : Type} (l : List α) (i : Nat) : lget l i = l[i]? := by
  induction l generalizing i with
  | nil => rfl
  | cons x xs ih =>
    show cond (Nat.beq i 0) (some x) (lget xs (Nat.pred i)) = _
    cases i with
    | zero => rfl
    | succ i => rw [ih]; rfl

theorem llen_eq {α : Type} (l : List α) : llen l = l.length := by
  induction l with
  | nil => rfl
  | cons x xs ih => show Nat.succ (llen xs) = _; rw [ih]; rfl

theorem ldrop_eq {α : Type} (n : Nat) (l : List α) : ldrop n l = l.drop n := by
  induction l generalizing n with
  | nil => cases n <;> rfl
  | cons x xs ih =>
    show cond (Nat.beq n 0) (x :: xs) (ldrop (Nat.pred n) xs) = _
    cases n with
    | zero => rfl
    | succ n => rw [ih]; rfl

theorem ltake_eq {α : Type} (n : Nat) (l : List α) : ltake n l = l.take n := by
  induction l generalizing n with
  | nil => cases n <;> rfl
  | cons x xs ih =>
    show cond (Nat.beq n 0) [] (x :: ltake (Nat.pred n) xs) = _
    cases n with
    | zero => rfl
    | succ n => rw [ih]; rfl

theorem allOne_eq (l : List AV) : allOne l = l.all AV.one := by
  induction l with
  | nil => rfl
  | cons x xs ih => show cond x.one (allOne xs) false = _; rw [ih]; simp only [List.all_cons]; cases x.one <;> rfl

theorem natIn_eq (n : Nat) (l : List Nat) : natIn n l = l.contains n := by
  induction l with
  | nil => rfl
  | cons x xs ih =>
    show cond (Nat.beq n x) true (natIn n xs) = _
    rw [ih, List.contains_cons]
    cases h : Nat.beq n x
    · have : n ≠ x := fun e => by subst e; simp at h
      simp [this]
    · have : n = x := Nat.eq_of_beq_eq_true h
      simp [this]

theorem natsEq_eq (x y : List Nat) : natsEq x y = (x == y) := by
  induction x generalizing y with
  | nil => cases y <;> rfl
  | cons a x ih =>
    cases y with
    | nil => rfl
    | cons b y =>
      show cond (Nat.beq a b) (natsEq x y) false = _
      rw [ih, List.cons_beq_cons]
      cases h : Nat.beq a b
      · have : a ≠ b := fun e => by subst e; simp at h
        simp [this]
      · have : a = b := Nat.eq_of_beq_eq_true h
        simp [this]

theorem intEq_eq (x y : Int) : intEq x y = (x == y) := by
  cases x <;> cases y <;> simp only [intEq] <;> first
    | (rename_i a b; cases h : Nat.beq a b
       · have : a ≠ b := fun e => by subst e; simp at h
         symm; rw [beq_eq_false_iff_ne]; intro e; injection e; contradiction
       · have : a = b := Nat.eq_of_beq_eq_true h
         subst this; simp)
    | (symm; rw [beq_eq_false_iff_ne]; intro e; cases e)

theorem intLt_eq (x y : Int) : intLt x y = decide (x < y) := by
  cases x <;> cases y <;> simp only [intLt]
  · rename_i a b
    rw [Bool.eq_iff_iff]; simp [Nat.blt_eq]
  · rename_i a b; symm; rw [decide_eq_false_iff_not]; have : (0 : Int) ≤ Int.ofNat a := Int.natCast_nonneg a; omega
  · rename_i a b; symm; rw [decide_eq_true_iff]; have : (0 : Int) ≤ Int.ofNat b := Int.natCast_nonneg b; omega
  · rename_i a b
    rw [Bool.eq_iff_iff]; simp only [Nat.blt_eq, decide_eq_true_eq]; omega

theorem intLe_eq (x y : Int) : intLe x y = decide (x ≤ y) := by
  rw [intLe, intLt_eq, Bool.eq_iff_iff]; simp

theorem repl_eq {α : Type} (n : Nat) (z : List α) : repl n z = (List.replicate n z).flatten := by
  induction n with
  | zero => rfl
  | succ n ih => show z ++ repl n z = _; rw [ih]; rfl

theorem cond_some {α : Type} {b : Bool} {x : Option α} {v : α} (h : cond b x none = some v) : b = true ∧ x = some v := by
  cases b
  · cases h
  · exact ⟨rfl, h⟩

theorem cond_none {α : Type} {b : Bool} {x : Option α} {v : α} (h : cond b none x = some v) : b = false ∧ x = some v := by
  cases b
  · exact ⟨rfl, h⟩
  · cases h

theorem nbeq {a b : Nat} : Nat.beq a b = true ↔ a = b := ⟨Nat.eq_of_beq_eq_true, fun h => by subst h; simp⟩
theorem nbeqf {a b : Nat} : Nat.beq a b = false ↔ a ≠ b := by
  cases h : Nat.beq a b
  · simp; intro e; subst e; simp at h
  · simp; exact Nat.eq_of_beq_eq_true h
theorem nble {a b : Nat} : Nat.ble a b = true ↔ a ≤ b := ⟨Nat.le_of_ble_eq_true, Nat.ble_eq_true_of_le⟩
theorem nblef {a b : Nat} : Nat.ble a b = false ↔ b < a := by
  cases h : Nat.ble a b
  · simp; apply Nat.lt_of_not_le; intro hle; rw [Nat.ble_eq_true_of_le hle] at h; cases h
  · simp; exact Nat.le_of_ble_eq_true h

/-! ### Trees -/
section
variable {α : Type}

theorem Tr.get_n (l : Tr α) (v : Option α) (r : Tr α) (i : Nat) : (Tr.n l v r).get i = if i = 0 then v else if i % 2 = 1 then l.get (i / 2) else r.get (i / 2 - 1) := by
  show @Bool.rec (fun _ => Option α) (@Bool.rec (fun _ => Option α) (r.get (i / 2 - 1)) (l.get (i / 2)) (Nat.beq (i % 2) 1)) v (Nat.beq i 0) = _
  by_cases h : i = 0
  · simp [h]
  · rw [nbeqf.2 h]
    simp only [h, if_false]
    by_cases h1 : i % 2 = 1
    · rw [nbeq.2 h1]; simp [h1]
    · rw [nbeqf.2 h1]; simp [h1]

theorem Tr.get_e (i : Nat) : (Tr.e : Tr α).get i = none := rfl

theorem Tr.path_succ (x : α) (f i : Nat) : Tr.path x (f + 1) i = if i = 0 then .n .e (some x) .e else if i % 2 = 1 then .n (Tr.path x f (i / 2)) none .e else .n .e none (Tr.path x f (i / 2 - 1)) := by
  show @Bool.rec (fun _ => Tr α) (@Bool.rec (fun _ => Tr α) (.n .e none (Tr.path x f (i / 2 - 1))) (.n (Tr.path x f (i / 2)) none .e) (Nat.beq (i % 2) 1)) (.n .e (some x) .e) (Nat.beq i 0) = _
  by_cases h : i = 0
  · simp [h]
  · rw [nbeqf.2 h]
    simp only [h, if_false]
    by_cases h1 : i % 2 = 1
    · rw [nbeq.2 h1]; simp [h1]
    · rw [nbeqf.2 h1]; simp [h1]

theorem Tr.get_path (x : α) : ∀ (f i j : Nat), i ≤ f → (Tr.path x f i).get j = if j = i then some x else none
  | 0, i, j, h => by
    have : i = 0 := by omega
    subst this
    show (Tr.n .e (some x) .e).get j = _
    rw [Tr.get_n]
    by_cases hj : j = 0
    · simp [hj]
    · simp [hj, Tr.get_e]
  | f + 1, i, j, h => by
    rw [Tr.path_succ]
    by_cases hi : i = 0
    · subst hi
      simp only [if_true]
      rw [Tr.get_n]
      by_cases hj : j = 0
      · simp [hj]
      · simp [hj, Tr.get_e]
    · simp only [hi, if_false]
      by_cases hi1 : i % 2 = 1
      · simp only [hi1, if_true]
        rw [Tr.get_n]
        by_cases hj : j = 0
        · subst hj; simp [Ne.symm hi]
        · simp only [hj, if_false]
          by_cases hj1 : j % 2 = 1
          · simp only [hj1, if_true]
            rw [Tr.get_path x f (i / 2) (j / 2) (by omega)]
            have : (j / 2 = i / 2) ↔ j = i := by omega
            simp [this]
          · have : j ≠ i := fun e => by subst e; exact hj1 hi1
            simp [hj1, this, Tr.get_e]
      · simp only [hi1, if_false]
        rw [Tr.get_n]
        by_cases hj : j = 0
        · subst hj; simp [Ne.symm hi]
        · simp only [hj, if_false]
          by_cases hj1 : j % 2 = 1
          · have : j ≠ i := fun e => by subst e; exact hi1 hj1
            simp [hj1, this, Tr.get_e]
          · simp only [hj1, if_false]
            rw [Tr.get_path x f (i / 2 - 1) (j / 2 - 1) (by omega)]
            have : (j / 2 - 1 = i / 2 - 1) ↔ j = i := by omega
            simp [this]

theorem Tr.setK_n {β : Type} (x : α) (l : Tr α) (v : Option α) (r : Tr α) (i : Nat) (k : Tr α → β) : Tr.setK x (.n l v r) i k =
    if i = 0 then k (.n l (some x) r) else if i % 2 = 1 then Tr.setK x l (i / 2) (fun l' => k (.n l' v r)) else Tr.setK x r (i / 2 - 1) (fun r' => k (.n l v r')) := by
  show @Bool.rec (fun _ => β) (@Bool.rec (fun _ => β) (Tr.setK x r (i / 2 - 1) fun r' => k (.n l v r')) (Tr.setK x l (i / 2) fun l' => k (.n l' v r)) (Nat.beq (i % 2) 1)) (k (.n l (some x) r)) (Nat.beq i 0) = _
  by_cases h : i = 0
  · simp [h]
  · rw [nbeqf.2 h]
    simp only [h, if_false]
    by_cases h1 : i % 2 = 1
    · rw [nbeq.2 h1]; simp [h1]
    · rw [nbeqf.2 h1]; simp [h1]

theorem Tr.setK_eq (x : α) (t : Tr α) : ∀ {β : Type} (i : Nat) (k : Tr α → β), Tr.setK x t i k = k (t.set i x) := by
  induction t with
  | e => intro β i k; rfl
  | n l v r ihl ihr =>
    intro β i k
    unfold Tr.set
    rw [Tr.setK_n, Tr.setK_n]
    by_cases h : i = 0
    · simp [h]
    · simp only [h, if_false]
      by_cases h1 : i % 2 = 1
      · simp only [h1, if_true]; rw [ihl, ihl]
      · simp only [h1, if_false]; rw [ihr, ihr]

theorem Tr.set_n (x : α) (l : Tr α) (v : Option α) (r : Tr α) (i : Nat) : (Tr.n l v r).set i x =
    if i = 0 then .n l (some x) r else if i % 2 = 1 then .n (l.set (i / 2) x) v r else .n l v (r.set (i / 2 - 1) x) := by
  unfold Tr.set
  rw [Tr.setK_n, Tr.setK_eq, Tr.setK_eq]
  rfl

theorem Tr.get_set (t : Tr α) : ∀ (i j : Nat) (x : α), (t.set i x).get j = if j = i then some x else t.get j := by
  induction t with
  | e => intro i j x; exact Tr.get_path x i i j (Nat.le_refl _)
  | n l v r ihl ihr =>
    intro i j x
    rw [Tr.set_n]
    by_cases hi : i = 0
    · subst hi
      simp only [if_true]
      rw [Tr.get_n, Tr.get_n]
      by_cases hj : j = 0
      · simp [hj]
      · simp [hj]
    · simp only [hi, if_false]
      by_cases hi1 : i % 2 = 1
      · simp only [hi1, if_true]
        rw [Tr.get_n, Tr.get_n]
        by_cases hj : j = 0
        · subst hj; simp [Ne.symm hi]
        · simp only [hj, if_false]
          by_cases hj1 : j % 2 = 1
          · simp only [hj1, if_true]
            rw [ihl]
            have : (j / 2 = i / 2) ↔ j = i := by omega
            simp [this]
          · have : j ≠ i := fun e => by subst e; exact hj1 hi1
            simp [hj1, this]
      · simp only [hi1, if_false]
        rw [Tr.get_n, Tr.get_n]
        by_cases hj : j = 0
        · subst hj; simp [Ne.symm hi]
        · simp only [hj, if_false]
          by_cases hj1 : j % 2 = 1
          · have : j ≠ i := fun e => by subst e; exact hi1 hj1
            simp [hj1, this]
          · simp only [hj1, if_false]
            rw [ihr]
            have : (j / 2 - 1 = i / 2 - 1) ↔ j = i := by omega
            simp [this]

theorem Tr.get_fill (l : List α) : ∀ (t : Tr α) (i j : Nat), (t.fill i l).get j = if i ≤ j ∧ j < i + l.length then l[j - i]? else t.get j := by
  induction l with
  | nil =>
    intro t i j
    have : ¬ (i ≤ j ∧ j < i + ([] : List α).length) := by simp
    rw [if_neg this]; rfl
  | cons x xs ih =>
    intro t i j
    show ((t.set i x).fill (i + 1) xs).get j = _
    rw [ih, Tr.get_set]
    by_cases h : i + 1 ≤ j ∧ j < i + 1 + xs.length
    · have h2 : i ≤ j ∧ j < i + (x :: xs).length := by simp; omega
      rw [if_pos h, if_pos h2]
      have : j - i = (j - (i + 1)) + 1 := by omega
      rw [this, List.getElem?_cons_succ]
    · rw [if_neg h]
      by_cases h3 : j = i
      · subst h3
        rw [if_pos rfl, if_pos (by simp)]
        simp
      · rw [if_neg h3, if_neg (by simp; omega)]
end

/-! ### The heap -/
theorem Heap.get_put (H : Heap) (i j : Nat) (o : AObj) : (H.put i o).get j = if j = i then some o else H.get j := Tr.get_set _ _ _ _
theorem Heap.get_add (H : Heap) (j : Nat) (o : AObj) : (H.add o).get j = if j = H.next then some o else H.get j := Tr.get_set _ _ _ _
theorem Heap.next_put (H : Heap) (i : Nat) (o : AObj) : (H.put i o).next = H.next := rfl
theorem Heap.next_add (H : Heap) (o : AObj) : (H.add o).next = H.next + 1 := rfl

/-! ### Frames -/
theorem N4.get_put {α : Type} (t : N4 α) (i j : Nat) (x : α) (hi : i < 4) (hj : j < 4) : (t.put i x).get j = if j = i then x else t.get j := by
  cases t
  have h4 : ∀ k : Nat, k < 4 → k = 0 ∨ k = 1 ∨ k = 2 ∨ k = 3 := by omega
  rcases h4 i hi with rfl | rfl | rfl | rfl <;> rcases h4 j hj with rfl | rfl | rfl | rfl <;> rfl

theorem Tm.get_put (t : Tm) (i j : Nat) (x : AV) (hi : i < 256) (hj : j < 256) : (Tm.put t i x).get j = if j = i then x else Tm.get t j := by
  unfold Tm.put Tm.get
  simp only [show ∀ a b : Nat, Nat.div a b = a / b from fun _ _ => rfl, show ∀ a b : Nat, Nat.mod a b = a % b from fun _ _ => rfl]
  rw [N4.get_put _ _ _ _ (by omega) (by omega)]
  by_cases h : j / 64 = i / 64
  · rw [if_pos h, N4.get_put _ _ _ _ (by omega) (by omega)]
    by_cases h1 : j / 16 % 4 = i / 16 % 4
    · rw [if_pos h1, N4.get_put _ _ _ _ (by omega) (by omega)]
      by_cases h2 : j / 4 % 4 = i / 4 % 4
      · rw [if_pos h2, N4.get_put _ _ _ _ (by omega) (by omega)]
        by_cases h3 : j % 4 = i % 4
        · rw [if_pos h3, if_pos (by omega)]
        · rw [if_neg h3, if_neg (by omega), h, h1, h2]
      · rw [if_neg h2, if_neg (by omega), h, h1]
    · rw [if_neg h1, if_neg (by omega), h]
  · rw [if_neg h, if_neg (by omega)]

theorem N4.get_all {α : Type} (x : α) (i : Nat) : (N4.all x).get i = x := by
  match i with
  | 0 => rfl
  | 1 => rfl
  | 2 => rfl
  | i + 3 => rfl

theorem Tm.get_none (i : Nat) : Tm.none.get i = undefA := by
  unfold Tm.get Tm.none
  rw [N4.get_all, N4.get_all, N4.get_all, N4.get_all]

theorem fillTm_get (l : List AV) : ∀ (i : Nat) (t : Tm) (j : Nat), i + l.length ≤ 256 → j < 256 → (fillTm l i t).get j = if i ≤ j ∧ j < i + l.length then l.getD (j - i) undefA else t.get j := by
  induction l with
  | nil => intro i t j _ _; rw [if_neg (by simp)]; rfl
  | cons x xs ih =>
    intro i t j hi hj
    simp only [List.length_cons] at hi ⊢
    show (fillTm xs (i + 1) (t.put i x)).get j = _
    rw [ih _ _ _ (by omega) hj, Tm.get_put _ _ _ _ (by omega) hj]
    by_cases h : i + 1 ≤ j ∧ j < i + 1 + xs.length
    · rw [if_pos h, if_pos (by omega)]
      have : j - i = (j - (i + 1)) + 1 := by omega
      rw [this, List.getD_cons_succ]
    · rw [if_neg h]
      by_cases h3 : j = i
      · subst h3; rw [if_pos rfl, if_pos (by omega)]; simp
      · rw [if_neg h3, if_neg (by omega)]

end Go.AM
