/-
  Words of 32 bits, fast; one stirring of BLAKE2s as a summary.
-/
import Derived.Test.YtdjlpdboochkhaaGreatAmX
import Derived.Test.YtdjlpdboochkhaaGreatAmFxOk
set_option linter.unusedVariables false
namespace Go.AM

noncomputable def forceO (n : Nat) {α : Type} (k : Nat → Option α) : Option α := @Nat.rec (fun _ => Option α) (k 0) (fun m _ => k (Nat.succ m)) n
theorem forceO_eq (n : Nat) {α : Type} (k : Nat → Option α) : forceO n k = k n := by cases n <;> rfl

noncomputable def asU (v : AV) {α : Type} (k : Nat → Option α) : Option α := match v with
  | .int .u32 (.ofNat n) => cond (Nat.ble n 4294967295) (k n) none
  | _ => none
noncomputable def asN (v : AV) {α : Type} (k : Nat → Option α) : Option α := match v with
  | .int _ (.ofNat n) => k n
  | _ => none
theorem asU_some {v : AV} {α : Type} {k : Nat → Option α} {r : α} (h : asU v k = some r) : ∃ n, v = .int .u32 (.ofNat n) ∧ n ≤ 4294967295 ∧ k n = some r := by
  unfold asU at h
  split at h
  · obtain ⟨h1, h2⟩ := cond_some h; exact ⟨_, rfl, nble.1 h1, h2⟩
  · cases h
theorem asN_some {v : AV} {α : Type} {k : Nat → Option α} {r : α} (h : asN v k = some r) : ∃ kd n, v = .int kd (.ofNat n) ∧ k n = some r := by
  unfold asN at h
  split at h
  · exact ⟨_, _, rfl, h⟩
  · cases h

def u32V (n : Nat) : AV := .int .u32 (.ofNat n)

noncomputable def rdCell (H : Heap) (id i : Nat) : Option AV := (H.get id).bind fun o => rowOf o fun t lo hi z _ => rowAt t lo hi z i

/-- v[i] of an array of 16 words. -/
noncomputable def rdW (H : Heap) (p i : AV) {α : Type} (k : Nat → Option α) : Option α :=
  asPtr p fun id off => asN i fun n => cond (Nat.ble (Nat.succ n) 16) ((rdCell H id (Nat.add off n)).bind fun v => asU v k) none
noncomputable def wrW (H : Heap) (p i : AV) (n : Nat) {α : Type} (k : Heap → Option α) : Option α :=
  forceO n fun n => asPtr p fun id off => asN i fun j => cond (Nat.ble (Nat.succ j) 16) ((storeN H id (Nat.add off j) [u32V n]).bind k) none

noncomputable def addW (a b : Nat) : Nat := Nat.mod (Nat.add a b) 4294967296
noncomputable def rotW (s a : Nat) : Nat := Nat.lor (Nat.mod (Nat.mul a (Nat.pow 2 s)) 4294967296) (Nat.div a (Nat.pow 2 (Nat.sub 32 s)))

noncomputable def gStir (l : List AV) (H : Heap) : R := match l with
  | [p, a, b, c, d, x, y] => asU x fun x => asU y fun y =>
    rdW H p a fun va => rdW H p b fun vb => wrW H p a (addW va (addW vb x)) fun H =>
    rdW H p d fun vd => rdW H p a fun va => wrW H p d (rotW 16 (Nat.xor vd va)) fun H =>
    rdW H p c fun vc => rdW H p d fun vd => wrW H p c (addW vc vd) fun H =>
    rdW H p b fun vb => rdW H p c fun vc => wrW H p b (rotW 20 (Nat.xor vb vc)) fun H =>
    rdW H p a fun va => rdW H p b fun vb => wrW H p a (addW va (addW vb y)) fun H =>
    rdW H p d fun vd => rdW H p a fun va => wrW H p d (rotW 24 (Nat.xor vd va)) fun H =>
    rdW H p c fun vc => rdW H p d fun vd => wrW H p c (addW vc vd) fun H =>
    rdW H p b fun vb => rdW H p c fun vc => wrW H p b (rotW 25 (Nat.xor vb vc)) fun H => some (.tup [], H)
  | _ => none

variable {P : Program}

/-- The types that stirring knows: an array of 16 words; a word. -/
structure WordT (P : Program) (ta tw : TypeId) : Prop where
  arr : und P ta = some (.array 16 tw)
  sz : szOf P tw = some 1
  ag : aggO P tw = some false

theorem rdW_ok {ta tw : TypeId} (T : WordT P ta tw) {H : Heap} {p i : AV} {α : Type} {k : Nat → Option α} {r : α} (h : rdW H p i k = some r) :
    ∃ n, n ≤ 4294967295 ∧ k n = some r ∧ ∀ K : HK, K (u32V n) H → OS2 (xNil p H) fun a H => OS2 (xIndexAddr P ta a i H) fun a H => OS2 (xLoad P tw a H) K := by
  obtain ⟨id, off, rfl, h⟩ := asPtr_some h
  obtain ⟨kd, j, rfl, h⟩ := asN_some h
  obtain ⟨h1, h⟩ := cond_some h
  obtain ⟨v, h2, h⟩ := bnd h
  obtain ⟨n, rfl, hn, h⟩ := asU_some h
  refine ⟨n, hn, h, fun K hK => ?_⟩
  rw [show xNil (.ptr id off) H = some (.ptr id off, H) from rfl, OS2_some]
  have e1 : xIndexAddr P ta (.ptr id off) (.int kd (.ofNat j)) H = some (.ptr id (off + j), H) := by
    unfold xIndexAddr
    rw [T.arr]
    show ret H ((szOf P tw).bind fun s => asPtr (.ptr id off) fun id off => inRange (.ofNat j) 16 fun n => some (.ptr id (Nat.add off (Nat.mul n s)))) = _
    rw [T.sz]
    show ret H (cond (Nat.ble (Nat.succ j) 16) (some (.ptr id (Nat.add off (Nat.mul j 1)))) none) = _
    rw [h1]
    show some (AV.ptr id (off + j * 1), H) = _
    rw [Nat.mul_one]
  rw [e1, OS2_some]
  have e2 : xLoad P tw (.ptr id (off + j)) H = some (u32V n, H) := by
    show ret H (oLoad P H tw id (off + j)) = _
    unfold oLoad loadN
    rw [T.ag]
    show ret H (((H.get id).bind fun o => rowOf o fun t lo hi z _ => cellsFrom t lo hi z (off + j) 1).bind fun l => lget l 0) = _
    obtain ⟨o, h3, h4⟩ := bnd h2
    obtain ⟨t, lo, hi, z, g, rfl, h5⟩ := rowOf_some h4
    rw [h3]
    show ret H (((rowAt t lo hi z (off + j)).bind fun v => some [v]).bind fun l => lget l 0) = _
    have h5 : rowAt t lo hi z (off + j) = _ := h5
    rw [h5]; rfl
  rw [e2]
  exact hK

theorem wrW_ok {ta tw : TypeId} (T : WordT P ta tw) {H : Heap} {p i : AV} {n : Nat} {α : Type} {k : Heap → Option α} {r : α} (h : wrW H p i n k = some r) :
    ∃ H', k H' = some r ∧ ∀ K : HK, K undefA H' → OS2 (xNil p H) fun a H => OS2 (xIndexAddr P ta a i H) fun a H => OS2 (xStore P tw a (u32V n) H) K := by
  unfold wrW at h
  rw [forceO_eq] at h
  obtain ⟨id, off, rfl, h⟩ := asPtr_some h
  obtain ⟨kd, j, rfl, h⟩ := asN_some h
  obtain ⟨h1, h⟩ := cond_some h
  obtain ⟨H', h2, h⟩ := bnd h
  refine ⟨H', h, fun K hK => ?_⟩
  rw [show xNil (.ptr id off) H = some (.ptr id off, H) from rfl, OS2_some]
  have e1 : xIndexAddr P ta (.ptr id off) (.int kd (.ofNat j)) H = some (.ptr id (off + j), H) := by
    unfold xIndexAddr
    rw [T.arr]
    show ret H ((szOf P tw).bind fun s => asPtr (.ptr id off) fun id off => inRange (.ofNat j) 16 fun n => some (.ptr id (Nat.add off (Nat.mul n s)))) = _
    rw [T.sz]
    show ret H (cond (Nat.ble (Nat.succ j) 16) (some (.ptr id (Nat.add off (Nat.mul j 1)))) none) = _
    rw [h1]
    show some (AV.ptr id (off + j * 1), H) = _
    rw [Nat.mul_one]
  rw [e1, OS2_some]
  have e2 : xStore P tw (.ptr id (off + j)) (u32V n) H = some (undefA, H') := by
    show oStore P H tw id (off + j) (u32V n) = _
    unfold oStore
    rw [T.sz]
    show ((storeN H id (off + j) [u32V n]).bind fun H' => some (undefA, H')) = _
    have h2 : storeN H id (off + j) [u32V n] = some H' := h2
    rw [h2]; rfl
  rw [e2]
  exact hK

theorem addW_ok {tw : TypeId} (a b : Nat) (H : Heap) : xBin P .add tw (u32V a) (u32V b) H = some (u32V (addW a b), H) := by
  show some (AV.int .u32 (IntKind.wrap .u32 (Int.ofNat a + Int.ofNat b)), H) = _
  have : IntKind.wrap .u32 (Int.ofNat a + Int.ofNat b) = .ofNat (addW a b) := wrap_nat_mod .u32 (a + b) rfl
  rw [this]; rfl
theorem addW_le (a b : Nat) : addW a b ≤ 4294967295 := by
  have : addW a b < 4294967296 := Nat.mod_lt _ (by omega)
  omega
theorem xor_le {a b : Nat} (ha : a ≤ 4294967295) (hb : b ≤ 4294967295) : Nat.xor a b ≤ 4294967295 := by
  have : Nat.xor a b < 2 ^ 32 := Nat.xor_lt_two_pow (by omega) (by omega)
  omega
theorem xorW_ok {tw : TypeId} {a b : Nat} (ha : a ≤ 4294967295) (hb : b ≤ 4294967295) (H : Heap) : xBin P .xor tw (u32V a) (u32V b) H = some (u32V (Nat.xor a b), H) := by
  have : binInt .xor .u32 .u32 (.ofNat a) (.ofNat b) = some (.int .u32 (.ofNat (Nat.xor a b))) := (binInt_same .xor .u32 _ _ rfl).trans (bits_and _ Nat.xor (fun n x y => BitVec.toNat_xor x y) ha hb (xor_le ha hb))
  show ret H (binInt .xor .u32 .u32 (.ofNat a) (.ofNat b)) = _
  rw [this]; rfl

/-- What turning to the left says. -/
theorem rotW_or {a s : Nat} (ha : a ≤ 4294967295) (hs : s ≤ 32) : binInt .or .u32 .u32 (.ofNat (Nat.mod (Nat.mul a (Nat.pow 2 s)) 4294967296)) (.ofNat (Nat.div a (Nat.pow 2 (Nat.sub 32 s)))) = some (u32V (rotW s a)) := by
  have h1 : Nat.mod (Nat.mul a (Nat.pow 2 s)) 4294967296 < 2 ^ 32 := Nat.mod_lt _ (by omega)
  have h2 : Nat.div a (Nat.pow 2 (Nat.sub 32 s)) ≤ a := Nat.div_le_self _ _
  have h3 : Nat.lor (Nat.mod (Nat.mul a (Nat.pow 2 s)) 4294967296) (Nat.div a (Nat.pow 2 (Nat.sub 32 s))) < 2 ^ 32 := Nat.or_lt_two_pow h1 (by omega)
  exact (binInt_same .or .u32 _ _ rfl).trans (bits_and _ Nat.lor (fun n x y => BitVec.toNat_or x y) (show _ ≤ 4294967295 by omega) (show _ ≤ 4294967295 by omega) (show _ ≤ 4294967295 by omega))

theorem shlW_ok {tw : TypeId} (a s : Nat) (hs : s ≤ 32) (H : Heap) : xBin P .shl tw (u32V a) (.int .u64 (.ofNat s)) H = some (u32V (Nat.mod (Nat.mul a (Nat.pow 2 s)) 4294967296), H) := by
  show some (AV.int .u32 (IntKind.wrap .u32 (Int.ofNat a * 2 ^ (min s 32))), H) = _
  rw [Nat.min_eq_left hs, ← pow_cast]
  have : IntKind.wrap .u32 (Int.ofNat a * ((2 ^ s : Nat) : Int)) = .ofNat (a * 2 ^ s % 4294967296) := wrap_nat_mod .u32 (a * 2 ^ s) rfl
  rw [this]; rfl
theorem shrW_ok {tw : TypeId} (a s : Nat) (hs : s ≤ 32) (H : Heap) : xBin P .shr tw (u32V a) (.int .u64 (.ofNat s)) H = some (u32V (Nat.div a (Nat.pow 2 s)), H) := by
  show some (AV.int .u32 ((Int.ofNat a).fdiv (2 ^ (min s 32))), H) = _
  rw [Nat.min_eq_left hs, ← pow_cast]
  have : (Int.ofNat a).fdiv ((2 ^ s : Nat) : Int) = .ofNat (a / 2 ^ s) := (Int.ofNat_fdiv _ _).symm
  rw [this]; rfl
theorem orW_ok {tw : TypeId} {a s : Nat} (ha : a ≤ 4294967295) (hs : s ≤ 32) (H : Heap) :
    xBin P .or tw (u32V (Nat.mod (Nat.mul a (Nat.pow 2 s)) 4294967296)) (u32V (Nat.div a (Nat.pow 2 (Nat.sub 32 s)))) H = some (u32V (rotW s a), H) := by
  show ret H (binInt .or .u32 .u32 (.ofNat _) (.ofNat _)) = _
  rw [rotW_or ha hs]; rfl

end Go.AM
