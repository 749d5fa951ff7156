/-
  What the abstract machine's operations say of the model's: the other operations without the heap.
-/
import Derived.Test.YtdjlpdboochkhaaGreatAmOps1
namespace Go.AM
open Go.RowKit

variable {P : Program} {w : World} {σ : Sg}

/-- A computation that leaves the world alone comes to what the abstract value says. -/
def PureOk (P : Program) (σ : Sg) (s : Sem Value) (v : AV) : Prop := ∃ cv, VR σ v cv ∧ ∀ w, s.run P w = .ok cv w

def otherV : Value → Bool
  | .int .. | .float .. | .complex .. | .string .. => false
  | _ => true

theorem binOp_eql {t : TypeId} {a b : Value} (ha : otherV a = true) : binOp .eql t a b = (do pure (.bool (← Op.equal t a b))) := by
  cases a <;> first | (cases ha; done) | (cases b <;> rfl)
theorem binOp_neq {t : TypeId} {a b : Value} (ha : otherV a = true) : binOp .neq t a b = (do pure (.bool (!(← Op.equal t a b)))) := by
  cases a <;> first | (cases ha; done) | (cases b <;> rfl)

def otherA : AV → Bool
  | .int .. | .str .. => false
  | _ => true

theorem VR.other : ∀ {x : AV} {a : Value}, VR σ x a → otherA x = true → otherV a = true
  | .bool _, _, h, _ => by cases h; rfl
  | .ptr _ _, _, h, _ => by obtain ⟨_, _, _, rfl⟩ := h; rfl
  | .nilp, _, h, _ => by cases h; rfl
  | .slice _ _ _ _, _, h, _ => by obtain ⟨_, _, _, rfl⟩ := h; rfl
  | .oslice _ _ _, _, h, _ => by obtain ⟨_, _, _, _, _, rfl, _⟩ := h; rfl
  | .nils, _, h, _ => by cases h; rfl
  | .map _, _, h, _ => by obtain ⟨_, _, rfl⟩ := h; rfl
  | .nilm, _, h, _ => by cases h; rfl
  | .func _ _ _, _, h, _ => by obtain ⟨_, _, rfl, _⟩ := h; rfl
  | .yield _, _, h, _ => by obtain ⟨_, _, rfl⟩ := h; rfl
  | .nilf, _, h, _ => by cases h; rfl
  | .iface _ _, _, h, _ => by obtain ⟨_, rfl, _⟩ := h; rfl
  | .nili, _, h, _ => by cases h; rfl
  | .agg _, _, h, _ => by obtain ⟨_, rfl, _⟩ := h; rfl
  | .tup _, _, h, _ => by obtain ⟨_, rfl, _⟩ := h; rfl

theorem eqGuard_no {op : BinOp} {t : TypeId} {x y : Operand} {a b : Value} (h1 : op ≠ .eql) (h2 : op ≠ .neq) : (eqGuard op t x y a b).run P w = .ok () w := by
  cases op <;> first | (exact absurd rfl h1) | (exact absurd rfl h2) | (simp [eqGuard]; done)

theorem eqGuard_other {op : BinOp} {t : TypeId} {x y : Operand} {a b : Value} (h1 : a = .nilIface → b = .nilIface → False) (h2 : ∀ cs ds, a = .agg cs → b = .agg ds → P.eqGuardType P.depth t = false) :
    (eqGuard op t x y a b).run P w = .ok () w := by
  by_cases e1 : op = .eql
  · subst e1
    cases a <;> first
      | (simp [eqGuard]; done)
      | (cases b <;> first | (simp [eqGuard]; done) | (exact (h1 rfl rfl).elim) | (simp [eqGuard, h2 _ _ rfl rfl]))
  · by_cases e2 : op = .neq
    · subst e2
      cases a <;> first
        | (simp [eqGuard]; done)
        | (cases b <;> first | (simp [eqGuard]; done) | (exact (h1 rfl rfl).elim) | (simp [eqGuard, h2 _ _ rfl rfl]))
    · exact eqGuard_no e1 e2

theorem VR.nili_of : ∀ {x : AV}, VR σ x .nilIface → x = .nili
  | .nili, _ => rfl
  | .bool _, h => by cases h
  | .int _ _, h => by cases h
  | .str _, h => by obtain ⟨_, h, _⟩ := h; cases h
  | .ptr _ _, h => by obtain ⟨_, _, _, h⟩ := h; cases h
  | .nilp, h => by cases h
  | .slice _ _ _ _, h => by obtain ⟨_, _, _, h⟩ := h; cases h
  | .oslice _ _ _, h => by obtain ⟨_, _, _, _, _, h, _⟩ := h; cases h
  | .nils, h => by cases h
  | .map _, h => by obtain ⟨_, _, h⟩ := h; cases h
  | .nilm, h => by cases h
  | .func _ _ _, h => by obtain ⟨_, _, h, _⟩ := h; cases h
  | .yield _, h => by obtain ⟨_, _, h⟩ := h; cases h
  | .nilf, h => by cases h
  | .iface _ _, h => by obtain ⟨_, h, _⟩ := h; cases h
  | .agg _, h => by obtain ⟨_, h, _⟩ := h; cases h
  | .tup _, h => by obtain ⟨_, h, _⟩ := h; cases h

theorem VR.agg_of {cs : Array Value} : ∀ {x : AV}, VR σ x (.agg cs) → ∃ l, x = .agg l
  | .agg l, _ => ⟨l, rfl⟩
  | .nili, h => by cases h
  | .bool _, h => by cases h
  | .int _ _, h => by cases h
  | .str _, h => by obtain ⟨_, h, _⟩ := h; cases h
  | .ptr _ _, h => by obtain ⟨_, _, _, h⟩ := h; cases h
  | .nilp, h => by cases h
  | .slice _ _ _ _, h => by obtain ⟨_, _, _, h⟩ := h; cases h
  | .oslice _ _ _, h => by obtain ⟨_, _, _, _, _, h, _⟩ := h; cases h
  | .nils, h => by cases h
  | .map _, h => by obtain ⟨_, _, h⟩ := h; cases h
  | .nilm, h => by cases h
  | .func _ _ _, h => by obtain ⟨_, _, h, _⟩ := h; cases h
  | .yield _, h => by obtain ⟨_, _, h⟩ := h; cases h
  | .nilf, h => by cases h
  | .iface _ _, h => by obtain ⟨_, h, _⟩ := h; cases h
  | .tup _, h => by obtain ⟨_, h, _⟩ := h; cases h

theorem eqA_nili {d : Nat} {t : TypeId} {r : Bool} (h : eqA P (d + 1) t .nili .nili = some r) : False := by
  have h : ((und P t).bind fun u => eqBy P (eqA P d) t u .nili .nili) = some r := h
  obtain ⟨u, hu, h⟩ := bnd h
  cases u <;> cases h

theorem eqA_agg {d : Nat} {t : TypeId} {r : Bool} {l m : List AV} (h : eqA P (d + 1) t (.agg l) (.agg m) = some r) : P.eqGuardType P.depth t = false := by
  have h : ((und P t).bind fun u => eqBy P (eqA P d) t u (.agg l) (.agg m)) = some r := h
  obtain ⟨u, hu, h⟩ := bnd h
  cases u <;> try (cases h; done)
  · have h := (cond_none (x := (szOf P _).bind fun n => eqElems P (eqA P d) _ n l m _ 0) h).1
    exact h
  · have h := (cond_none (x := eqFields P (eqA P d) l m _) h).1
    simp only [Bool.or_eq_false_iff] at h
    exact h.2

theorem binEq_run {op : BinOp} {t : TypeId} {x y v : AV} {a b : Value} (h : binEq P op t x y = some v) (ho : otherA x = true) (hx : VR σ x a) (hy : VR σ y b) (xo yo : Operand) :
    PureOk P σ (do eqGuard op t xo yo a b; binOp op t a b) v := by
  have key : ∀ r, eqA P 100 t x y = some r → (∀ w, (eqGuard op t xo yo a b).run P w = .ok () w) ∧ ∀ w, (Op.equal t a b).run P w = .ok r w := by
    intro r hr
    refine ⟨fun w => eqGuard_other ?_ ?_, fun w => eqA_run 100 10000 (by omega) t x y r a b hr hx hy w⟩
    · rintro rfl rfl
      have h1 := VR.nili_of hx
      have h2 := VR.nili_of hy
      subst h1; subst h2
      exact eqA_nili hr
    · rintro cs ds rfl rfl
      obtain ⟨l, rfl⟩ := VR.agg_of hx
      obtain ⟨m, rfl⟩ := VR.agg_of hy
      exact eqA_agg hr
  unfold binEq at h
  split at h
  · obtain ⟨r, hr, h⟩ := bnd h
    cases h
    obtain ⟨k1, k2⟩ := key r hr
    exact ⟨_, rfl, fun w => by simp [k1, k2, binOp_eql (hx.other ho)]⟩
  · obtain ⟨r, hr, h⟩ := bnd h
    cases h
    obtain ⟨k1, k2⟩ := key r hr
    exact ⟨_, rfl, fun w => by simp [k1, k2, binOp_neq (hx.other ho)]⟩
  · cases h

theorem eqGuard_num {op : BinOp} {t : TypeId} {x y : Operand} {k : IntKind} {n : Int} {b : Value} : (eqGuard op t x y (.int k n) b).run P w = .ok () w := by
  cases op <;> cases b <;> simp [eqGuard]
theorem eqGuard_str {op : BinOp} {t : TypeId} {x y : Operand} {s : ByteArray} {b : Value} : (eqGuard op t x y (.string s) b).run P w = .ok () w := by
  cases op <;> cases b <;> simp [eqGuard]

theorem binA_run {op : BinOp} {t : TypeId} {x y v : AV} {a b : Value} (h : binA P op t x y = some v) (hx : VR σ x a) (hy : VR σ y b) (xo yo : Operand) :
    PureOk P σ (do eqGuard op t xo yo a b; binOp op t a b) v := by
  cases x with
  | int k n =>
    cases hx
    cases y <;> try (cases h; done)
    cases hy
    rename_i k' m
    have h : cond (isShift op) (shiftA op k n m) (cond (k == k') (intBin op k n m) none) = some v := h
    cases hs : isShift op with
    | true =>
      rw [hs] at h
      obtain ⟨cv, hv, hr⟩ := shiftA_run (P := P) (σ := σ) (k' := k') h
      exact ⟨cv, hv, fun w => by simp [eqGuard_num, hr]⟩
    | false =>
      rw [hs] at h
      obtain ⟨hk, h3⟩ := cond_some (b := k == k') h
      have := beq_iff_eq.1 hk
      subst this
      obtain ⟨cv, hv, hr⟩ := intBin_run (P := P) (σ := σ) h3 hs
      exact ⟨cv, hv, fun w => by simp [eqGuard_num, hr]⟩
  | str s =>
    obtain ⟨sa, rfl, rfl⟩ := hx
    cases y <;> try (cases h; done)
    obtain ⟨sb, rfl, rfl⟩ := hy
    obtain ⟨cv, hv, hr⟩ := strBin_run (P := P) (σ := σ) h
    exact ⟨cv, hv, fun w => by simp [eqGuard_str, hr]⟩
  | _ => exact binEq_run h rfl hx hy xo yo

theorem unA_run {op : UnOp} {x v : AV} {a : Value} (h : unA op x = some v) (hx : VR σ x a) : PureOk P σ (Op.unary op a) v := by
  cases x <;> try (cases h; done)
  · cases hx
    cases op <;> try (cases h; done)
    cases h
    exact ⟨_, rfl, fun w => by simp [Op.unary]⟩
  · cases hx
    cases op <;> try (cases h; done)
    · cases h; exact ⟨.int _ (IntKind.wrap _ (0 - _)), rfl, fun w => by simp [Op.unary, Op.intArith]⟩
    · cases h; exact ⟨_, rfl, fun w => by simp [Op.unary, Op.intBits]⟩

/-! ### Aggregates -/
theorem lput_eq (cs : List AV) (off : Nat) (vs : List AV) : lput cs off vs = cs.take off ++ vs ++ cs.drop (off + vs.length) := by
  unfold lput
  rw [ltake_eq, ldrop_eq, llen_eq]; rfl

/-- One part laid over an array's cells, cell by cell. -/
theorem foldl_lay (vs : List Value) : ∀ (off j : Nat) (cs : Array Value), off + j + vs.length ≤ cs.size →
    ((vs.zipIdx j).foldl (fun cs (x : Value × Nat) => cs.setIfInBounds (off + x.2) x.1) cs).toList = cs.toList.take (off + j) ++ vs ++ cs.toList.drop (off + j + vs.length) := by
  induction vs with
  | nil => intro off j cs _; simp
  | cons v vs ih =>
    intro off j cs h
    simp only [List.length_cons] at h
    rw [List.zipIdx_cons, List.foldl_cons, ih off (j + 1) (cs.setIfInBounds (off + j) v) (by simp; omega)]
    rw [Array.toList_setIfInBounds]
    have h1 : (cs.toList.set (off + j) v).take (off + (j + 1)) = cs.toList.take (off + j) ++ [v] := by
      rw [show off + (j + 1) = (off + j) + 1 by omega, List.take_succ_eq_append_getElem (by simp; omega), List.take_set, List.set_eq_of_length_le (by simp; omega)]
      simp
    have h2 : (cs.toList.set (off + j) v).drop (off + (j + 1) + vs.length) = cs.toList.drop (off + j + (vs.length + 1)) := by
      rw [List.drop_set_of_lt (by omega)]
      congr 1
      omega
    rw [h1, h2]
    simp

theorem fillA_run {pa : Nat → Option (Nat × Nat)} : ∀ {ps : List (Nat × AV)} {pc : List (Nat × Value)} {cells r : List AV} {cc : Array Value}, fillA pa ps cells = some r → PRs σ ps pc → VRs σ cells cc.toList →
    ∃ rc, Instr.fill pa cc pc = some rc ∧ VRs σ r rc.toList
  | [], _, cells, r, cc, h, hp, hc => by cases hp; cases h; exact ⟨cc, rfl, hc⟩
  | (i, v) :: ps, _, cells, r, cc, h, ⟨cv, vs, e, hv, hp⟩, hc => by
    subst e
    have h : ((pa i).bind fun q => fillOne cells v.cells (fillA pa ps) q.1 q.2) = some r := h
    obtain ⟨⟨off, size⟩, hq, h⟩ := bnd h
    obtain ⟨h1, h⟩ := cond_some (b := Nat.beq (llen v.cells) size) h
    obtain ⟨h2, h⟩ := cond_some (b := Nat.ble (Nat.add off size) (llen cells)) h
    have h1 := nbeq.1 h1
    have h2 := nble.1 h2
    rw [llen_eq] at h1 h2
    have hcl := VR.cells hv
    have l1 : cv.cells.size = v.cells.length := by simpa using hcl.length
    have l2 : cc.size = cells.length := by simpa using hc.length
    have h2 : off + size ≤ cells.length := h2
    have hlay := foldl_lay cv.cells.toList off 0 cc (by simp; omega)
    have hnew : VRs σ (lput cells off v.cells) ((cv.cells.zipIdx.foldl (fun cs (c, j) => cs.setIfInBounds (off + j) c) cc)).toList := by
      rw [lput_eq, ← Array.foldl_toList, Array.toList_zipIdx, hlay]
      have : v.cells.length = cv.cells.toList.length := by simp [l1]
      rw [this]
      simpa using ((hc.take off).append hcl).append (hc.drop (off + cv.cells.toList.length))
    obtain ⟨rc, hrc, hr⟩ := fillA_run h hp hnew
    refine ⟨rc, ?_, hr⟩
    have hn : ¬ (cv.cells.size ≠ size ∨ cc.size < off + cv.cells.size) := by omega
    simp only [Instr.fill, hq]
    rw [if_neg (by simp; omega)]
    exact hrc

end Go.AM
