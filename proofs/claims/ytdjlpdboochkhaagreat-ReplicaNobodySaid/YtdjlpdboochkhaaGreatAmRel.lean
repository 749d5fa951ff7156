/-
  What the abstract machine's values and heaps say of the model's: the relation, and how a step carries it.
-/
import Derived.Test.YtdjlpdboochkhaaGreatAmLists
import Derived.Below
namespace Go.AM
open Go.RowKit

/-- Where an abstract object lies: its block; the cell at which the abstract place a0 lies; the abstract place behind its last cell; the block's size; how many cells an element has (of a growable row). -/
structure Pl where
  b : Nat
  c0 : Nat
  a0 : Nat
  hi : Nat
  S : Nat
  es : Nat

def Pl.at (p : Pl) (off : Nat) : Addr := ⟨p.b, p.c0 + (off - p.a0), none⟩

abbrev Sg := Nat → Option Pl

mutual
/-- An abstract value says this of a value. -/
def VR (σ : Sg) : AV → Value → Prop
  | .bool b, v => v = .bool b
  | .int k n, v => v = .int k n
  | .str s, v => ∃ bs : ByteArray, v = .string bs ∧ bs.data.toList.map (·.toNat) = s
  | .ptr id off, v => ∃ p, σ id = some p ∧ p.a0 ≤ off ∧ v = .pointer (some (p.at off))
  | .nilp, v => v = .pointer none
  | .slice id off len cap, v => ∃ p, σ id = some p ∧ p.a0 ≤ off ∧ v = .slice (some (p.at off)) len cap
  | .oslice id off len, v => ∃ p o cap, σ id = some p ∧ p.a0 ≤ off ∧ v = .slice (some ⟨p.b, o, none⟩) len cap ∧
      ((o = p.c0 + (off - p.a0) ∧ o + cap * p.es = p.S) ∨ (len = 0 ∧ cap = 0 ∧ p.hi ≤ off))
  | .nils, v => v = .slice none 0 0
  | .map id, v => ∃ p, σ id = some p ∧ v = .map (some p.b)
  | .nilm, v => v = .map none
  | .func f a c, v => ∃ a' c' : Array Value, v = .func (.func f) a' c' ∧ VRs σ a a'.toList ∧ VRs σ c c'.toList
  | .yield l, v => ∃ p, σ l = some p ∧ v = .func (.yield p.b) #[] #[]
  | .nilf, v => v = .nilFunc
  | .iface t x, v => ∃ y, v = .iface t y ∧ VR σ x y
  | .nili, v => v = .nilIface
  | .agg vs, v => ∃ cs : Array Value, v = .agg cs ∧ VRs σ vs cs.toList
  | .tup vs, v => ∃ cs : Array Value, v = .tuple cs ∧ VRs σ vs cs.toList
def VRs (σ : Sg) : List AV → List Value → Prop
  | [], l => l = []
  | a :: as, l => ∃ v vs, l = v :: vs ∧ VR σ a v ∧ VRs σ as vs
end

/-- σ' knows all that σ knows. -/
def Le (σ σ' : Sg) : Prop := ∀ id p, σ id = some p → σ' id = some p

theorem Le.refl (σ : Sg) : Le σ σ := fun _ _ h => h
theorem Le.trans {a b c : Sg} (h : Le a b) (k : Le b c) : Le a c := fun i p hp => k i p (h i p hp)

mutual
theorem VR.mono {σ σ' : Sg} (hl : Le σ σ') : ∀ {a : AV} {v : Value}, VR σ a v → VR σ' a v
  | .bool _, _, h => h
  | .int _ _, _, h => h
  | .str _, _, h => h
  | .ptr _ _, _, ⟨p, hp, r⟩ => ⟨p, hl _ _ hp, r⟩
  | .nilp, _, h => h
  | .slice _ _ _ _, _, ⟨p, hp, r⟩ => ⟨p, hl _ _ hp, r⟩
  | .oslice _ _ _, _, ⟨p, o, c, hp, r⟩ => ⟨p, o, c, hl _ _ hp, r⟩
  | .nils, _, h => h
  | .map _, _, ⟨p, hp, r⟩ => ⟨p, hl _ _ hp, r⟩
  | .nilm, _, h => h
  | .func _ _ _, _, ⟨a', c', e, h1, h2⟩ => ⟨a', c', e, VRs.mono hl h1, VRs.mono hl h2⟩
  | .yield _, _, ⟨p, hp, r⟩ => ⟨p, hl _ _ hp, r⟩
  | .nilf, _, h => h
  | .iface _ _, _, ⟨y, e, h⟩ => ⟨y, e, VR.mono hl h⟩
  | .nili, _, h => h
  | .agg _, _, ⟨cs, e, h⟩ => ⟨cs, e, VRs.mono hl h⟩
  | .tup _, _, ⟨cs, e, h⟩ => ⟨cs, e, VRs.mono hl h⟩
theorem VRs.mono {σ σ' : Sg} (hl : Le σ σ') : ∀ {a : List AV} {v : List Value}, VRs σ a v → VRs σ' a v
  | [], _, h => h
  | _ :: _, _, ⟨v, vs, e, h1, h2⟩ => ⟨v, vs, e, VR.mono hl h1, VRs.mono hl h2⟩
end

theorem VRs.length {σ : Sg} : ∀ {a : List AV} {v : List Value}, VRs σ a v → v.length = a.length
  | [], _, h => by cases h; rfl
  | _ :: _, _, ⟨_, _, e, _, h⟩ => by subst e; simp [VRs.length h]

theorem VRs.nil {σ : Sg} : VRs σ [] [] := rfl
theorem VRs.cons {σ : Sg} {a : AV} {v : Value} {as : List AV} {vs : List Value} (h : VR σ a v) (hs : VRs σ as vs) : VRs σ (a :: as) (v :: vs) := ⟨v, vs, rfl, h, hs⟩

theorem VRs.get {σ : Sg} : ∀ {a : List AV} {v : List Value} (_ : VRs σ a v) {i : Nat} {x : AV}, a[i]? = some x → ∃ y, v[i]? = some y ∧ VR σ x y
  | [], _, _, _, _, hi => by simp at hi
  | _ :: _, _, ⟨v, vs, e, h1, h2⟩, 0, x, hi => by subst e; simp at hi; subst hi; exact ⟨v, by simp, h1⟩
  | _ :: as, _, ⟨v, vs, e, h1, h2⟩, i + 1, x, hi => by subst e; simp at hi ⊢; exact VRs.get h2 hi

theorem VRs.of_get {σ : Sg} : ∀ {a : List AV} {v : List Value} (_ : v.length = a.length) (_ : ∀ (i : Nat) (x : AV) (y : Value), a[i]? = some x → v[i]? = some y → VR σ x y), VRs σ a v
  | [], [], _, _ => rfl
  | _ :: as, v :: vs, hl, h => ⟨v, vs, rfl, h 0 _ _ rfl rfl, VRs.of_get (by simpa using hl) fun i x y hx hy => h (i + 1) x y (by simpa using hx) (by simpa using hy)⟩

theorem VRs.append {σ : Sg} : ∀ {a b : List AV} {v w : List Value}, VRs σ a v → VRs σ b w → VRs σ (a ++ b) (v ++ w)
  | [], _, _, _, h, k => by cases h; exact k
  | _ :: _, _, _, _, ⟨v, vs, e, h1, h2⟩, k => by subst e; exact ⟨v, vs ++ _, rfl, h1, VRs.append h2 k⟩

theorem VRs.take {σ : Sg} : ∀ {a : List AV} {v : List Value} (n : Nat), VRs σ a v → VRs σ (a.take n) (v.take n)
  | [], _, n, h => by cases h; simp [VRs]
  | _ :: _, _, 0, _ => by simp [VRs]
  | _ :: _, _, n + 1, ⟨v, vs, e, h1, h2⟩ => by subst e; exact ⟨v, vs.take n, by simp, h1, VRs.take n h2⟩

theorem VRs.drop {σ : Sg} : ∀ {a : List AV} {v : List Value} (n : Nat), VRs σ a v → VRs σ (a.drop n) (v.drop n)
  | [], _, n, h => by cases h; simp [VRs]
  | _ :: _, _, 0, h => by simpa using h
  | _ :: _, _, n + 1, ⟨v, vs, e, h1, h2⟩ => by subst e; simpa using VRs.drop n h2

theorem VR.one {σ : Sg} : ∀ {a : AV} {v : Value}, VR σ a v → v.oneCell' = a.one
  | .bool _, _, h => by cases h; rfl
  | .int _ _, _, h => by cases h; rfl
  | .str _, _, h => by obtain ⟨_, rfl, _⟩ := h; rfl
  | .ptr _ _, _, h => by obtain ⟨_, _, _, rfl⟩ := h; rfl
  | .nilp, _, h => by cases h; rfl
  | .slice _ _ _ _, _, h => by obtain ⟨_, _, _, rfl⟩ := h; rfl
  | .oslice _ _ _, _, h => by obtain ⟨_, _, _, _, _, rfl, _⟩ := h; rfl
  | .nils, _, h => by cases h; rfl
  | .map _, _, h => by obtain ⟨_, _, rfl⟩ := h; rfl
  | .nilm, _, h => by cases h; rfl
  | .func _ _ _, _, h => by obtain ⟨_, _, rfl, _⟩ := h; rfl
  | .yield _, _, h => by obtain ⟨_, _, rfl⟩ := h; rfl
  | .nilf, _, h => by cases h; rfl
  | .iface _ _, _, h => by obtain ⟨_, rfl, _⟩ := h; rfl
  | .nili, _, h => by cases h; rfl
  | .agg _, _, h => by obtain ⟨_, rfl, _⟩ := h; rfl
  | .tup _, _, h => by obtain ⟨_, rfl, _⟩ := h; rfl

theorem cells_one {v : Value} (h : v.oneCell' = true) : v.cells = #[v] := by cases v <;> first | rfl | cases h

theorem VR.cells {σ : Sg} {a : AV} {v : Value} (h : VR σ a v) : VRs σ a.cells v.cells.toList := by
  cases ho : a.one with
  | true =>
    have h1 := VR.one h
    rw [ho] at h1
    have ha : a.cells = [a] := by cases a <;> first | rfl | cases ho
    rw [cells_one h1, ha]
    exact VRs.cons h .nil
  | false =>
    cases a <;> try (cases ho; done)
    · obtain ⟨cs, rfl, hs⟩ := h; exact hs
    · obtain ⟨cs, rfl, hs⟩ := h; exact VRs.cons (v := .tuple cs) ⟨cs, rfl, hs⟩ .nil

/-! ### Objects -/

/-- An entry of a map. -/
def ER (σ : Sg) (a : AV × AV × Nat) (e : MapEntry) : Prop := VR σ a.1 e.key ∧ VR σ a.2.1 e.val ∧ e.born = a.2.2

inductive ERs (σ : Sg) : List (AV × AV × Nat) → List MapEntry → Prop
  | nil : ERs σ [] []
  | cons {a as e es} : ER σ a e → ERs σ as es → ERs σ (a :: as) (e :: es)

/-- The temporaries say this of a frame's. -/
def TR (σ : Sg) (tm : Tm) (sz : Nat) (tmps : Array Value) : Prop := sz ≤ 256 ∧ sz ≤ tmps.size ∧ (∀ i, i < 256 → VR σ (tm.get i) (tmps.getD i undef)) ∧ ∀ i, 256 ≤ i → tmps.getD i undef = undef

/-- An abstract object says this of the block at its place. -/
def OR (σ : Sg) (w : World) (p : Pl) : AObj → Prop
  | .row t lo hi z g => lo = p.a0 ∧ hi = p.hi ∧ lo ≤ hi ∧ (0 < g → p.es = g) ∧ p.c0 + (hi - lo) ≤ p.S ∧
      ∃ arr elem fr, w.heap[p.b]? = some (.cells arr elem fr) ∧ arr.size = p.S ∧ (fr.1 = fr.2 ∨ arr.size ≤ fr.1) ∧
        ∀ i v, rowAt t lo hi z i = some v → ∃ cv, arr[p.c0 + (i - lo)]? = some cv ∧ VR σ v cv
  | .map es clock => ∃ es' : Array MapEntry, w.heap[p.b]? = some (.map es' clock) ∧ ERs σ es es'.toList
  | .miter m since seen stepped => p.c0 = 0 ∧ ∃ m' : Option Nat, w.heap[p.b]? = some (.mapIter m' since seen.toArray stepped) ∧
      (match m with | none => m' = none | some id => ∃ q, σ id = some q ∧ m' = some q.b)
  | .loop st pend fn tm sz ps as bd d => ∃ tmps q, w.heap[p.b]? = some (.loop { state := st, pending := pend, fn := fn, tmps := tmps, params := ps.toArray, assign := as, body := bd, defers := q.b }) ∧
      σ d = some q ∧ TR σ tm sz tmps
  | .defr taken => w.heap[p.b]? = some (.deferred (if taken then none else some []))
  | .dead => True

/-- Not ours: dead, or only read. -/
def AObj.isDead : AObj → Bool
  | .dead => true
  | .row _ _ _ _ g => Nat.beq g roG
  | _ => false

/-- An object that is there, and not dead. -/
def live (H : Heap) (id : Nat) : Prop := ∃ o, H.get id = some o ∧ o.isDead = false

/-- The abstract heap says this of a world (B: the first block of our own; w0: the world at the beginning). -/
structure Conc (B : Nat) (w0 : World) (σ : Sg) (H : Heap) (w : World) : Prop where
  obj : ∀ id p o, σ id = some p → H.get id = some o → OR σ w p o
  ex : ∀ id p, σ id = some p → ∃ o, H.get id = some o
  inj : ∀ i j p q, σ i = some p → σ j = some q → live H i → live H j → p.b = q.b → i = j
  blk : ∀ id p, σ id = some p → (live H id → B ≤ p.b) ∧ p.b < w.heap.size
  next : ∀ id o, H.get id = some o → id < H.next
  below : Below B w0 w
  size : B ≤ w.heap.size
  ro : ∀ id p t lo hi z, σ id = some p → H.get id = some (.row t lo hi z roG) → p.b < B

theorem dead_cases {o : AObj} (h : o.isDead = true) : o = .dead ∨ ∃ t lo hi z, o = .row t lo hi z roG := by
  cases o <;> simp [AObj.isDead] at h
  · subst h; exact .inr ⟨_, _, _, _, rfl⟩
  · exact .inl rfl

/-- No row that is only read. -/
def AObj.mine (o : AObj) : Prop := ∀ t lo hi z, o ≠ .row t lo hi z roG
theorem AObj.mine_row {t : Tr AV} {lo hi : Nat} {z : List AV} {g : Nat} (h : Nat.beq g roG = false) : (AObj.row t lo hi z g).mine := by
  intro t' lo' hi' z' e
  injection e with _ _ _ _ e
  subst e
  simp at h

/-- What is said of a heap's objects. -/
structure Rd (σ : Sg) (H : Heap) (w : World) : Prop where
  obj : ∀ id p o, σ id = some p → H.get id = some o → OR σ w p o

theorem Conc.rd {B : Nat} {w0 : World} {σ : Sg} {H : Heap} {w : World} (h : Conc B w0 σ H w) : Rd σ H w := ⟨h.obj⟩

/-- What a step may do. -/
structure Stp (σ : Sg) (H : Heap) (w : World) (σ' : Sg) (H' : Heap) (w' : World) : Prop where
  le : Le σ σ'
  new : ∀ id p, σ' id = some p → σ id = none → H.next ≤ id
  next : H.next ≤ H'.next
  size : w.heap.size ≤ w'.heap.size
  frame : ∀ b, b < w.heap.size → (∀ id p, σ id = some p → live H id → p.b ≠ b) → w'.heap[b]? = w.heap[b]?
  aframe : ∀ id, id < H.next → σ id = none → H'.get id = H.get id
  fresh : ∀ id p, σ' id = some p → σ id = none → w.heap.size ≤ p.b ∨ ∃ j q, σ j = some q ∧ live H j ∧ q.b = p.b
  dead : ∀ id p, σ id = some p → live H' id → live H id

theorem sn {α : Type} {x : Option α} {p : α} {c : Prop} (h : x = some p) (k : x = none) : c := by rw [h] at k; cases k

theorem Stp.refl (σ : Sg) (H : Heap) (w : World) : Stp σ H w σ H w :=
  ⟨.refl σ, fun _ _ h k => sn h k, Nat.le_refl _, Nat.le_refl _, fun _ _ _ => rfl, fun _ _ _ => rfl, fun _ _ h k => sn h k, fun _ _ _ h => h⟩

theorem Stp.trans {σ σ1 σ2 : Sg} {H H1 H2 : Heap} {w w1 w2 : World} (h : Stp σ H w σ1 H1 w1) (k : Stp σ1 H1 w1 σ2 H2 w2) : Stp σ H w σ2 H2 w2 where
  le := h.le.trans k.le
  new id p hp hn := by
    cases h1 : σ1 id with
    | some q => exact h.new id q h1 hn
    | none => exact Nat.le_trans h.next (k.new id p hp h1)
  next := Nat.le_trans h.next k.next
  size := Nat.le_trans h.size k.size
  frame b hb hf := by
    rw [k.frame b (Nat.lt_of_lt_of_le hb h.size) ?_, h.frame b hb hf]
    intro id p hp hl e
    cases hs : σ id with
    | some q =>
      have := h.le id q hs
      rw [hp] at this; cases this
      exact hf id p hs (h.dead id p hs hl) e
    | none =>
      rcases h.fresh id p hp hs with hb' | ⟨j, q, hj, hlj, e'⟩
      · omega
      · exact hf j q hj hlj (e'.trans e)
  aframe id hid hn := by
    have h1 : σ1 id = none := by
      cases h1 : σ1 id with
      | none => rfl
      | some p => have := h.new id p h1 hn; omega
    rw [k.aframe id (Nat.lt_of_lt_of_le hid h.next) h1, h.aframe id hid hn]
  fresh id p hp hn := by
    cases h1 : σ1 id with
    | some q =>
      have := k.le id q h1
      rw [hp] at this; cases this
      exact h.fresh id p h1 hn
    | none =>
      rcases k.fresh id p hp h1 with hb | ⟨j, q, hj, hlj, e⟩
      · exact .inl (Nat.le_trans h.size hb)
      · cases hs : σ j with
        | some q' =>
          have := h.le j q' hs
          rw [hj] at this; cases this
          exact .inr ⟨j, q, hs, h.dead j q hs hlj, e⟩
        | none =>
          rcases h.fresh j q hj hs with hb | ⟨j', q', h1', h2', h3'⟩
          · exact .inl (e ▸ hb)
          · exact .inr ⟨j', q', h1', h2', h3'.trans e⟩
  dead id p hs hl := h.dead id p hs (k.dead id p (h.le id p hs) hl)

/-! ### The relation under steps of the world -/

theorem ERs.mono {σ σ' : Sg} (hl : Le σ σ') {a : List (AV × AV × Nat)} {es : List MapEntry} (h : ERs σ a es) : ERs σ' a es := by
  induction h with
  | nil => exact .nil
  | cons h _ ih => exact .cons ⟨h.1.mono hl, h.2.1.mono hl, h.2.2⟩ ih

theorem TR.mono {σ σ' : Sg} (hl : Le σ σ') {tm : Tm} {sz : Nat} {tmps : Array Value} (h : TR σ tm sz tmps) : TR σ' tm sz tmps :=
  ⟨h.1, h.2.1, fun i hi => (h.2.2.1 i hi).mono hl, h.2.2.2⟩

/-- An object's word holds on where its block is the same. -/
theorem OR.mono {σ σ' : Sg} (hl : Le σ σ') {w w' : World} {p : Pl} {o : AObj} (hb : w'.heap[p.b]? = w.heap[p.b]?) (h : OR σ w p o) : OR σ' w' p o := by
  cases o with
  | row t lo hi z g =>
    obtain ⟨h1, h2, h3, h4, h5, arr, elem, fr, h6, h7, h8, h9⟩ := h
    refine ⟨h1, h2, h3, h4, h5, arr, elem, fr, hb.trans h6, h7, h8, fun i v hv => ?_⟩
    obtain ⟨cv, hc, hv'⟩ := h9 i v hv
    exact ⟨cv, hc, hv'.mono hl⟩
  | map es clock =>
    obtain ⟨es', h1, h2⟩ := h
    exact ⟨es', hb.trans h1, h2.mono hl⟩
  | miter m since seen stepped =>
    obtain ⟨h0, m', h1, h2⟩ := h
    refine ⟨h0, m', hb.trans h1, ?_⟩
    cases m with
    | none => exact h2
    | some id => obtain ⟨q, hq, e⟩ := h2; exact ⟨q, hl _ _ hq, e⟩
  | loop st pend fn tm sz ps as bd d =>
    obtain ⟨tmps, q, h1, h2, h3⟩ := h
    exact ⟨tmps, q, hb.trans h1, hl _ _ h2, h3.mono hl⟩
  | defr taken => exact hb.trans h
  | dead => trivial

/-- A draw, or whatever leaves the heap as it is. -/
theorem Conc.same {B : Nat} {w0 : World} {σ : Sg} {H : Heap} {w w' : World} (h : Conc B w0 σ H w) (he : w'.heap = w.heap) (hb : Below B w0 w') : Conc B w0 σ H w' where
  obj id p o hp ho := OR.mono (.refl σ) (by rw [he]) (h.obj id p o hp ho)
  ex := h.ex
  inj := h.inj
  blk id p hp := by rw [he]; exact h.blk id p hp
  next := h.next
  below := hb
  size := by rw [he]; exact h.size
  ro := h.ro

/-- A row that is only read lies apart from what is ours. -/
theorem Conc.apart {B : Nat} {w0 : World} {σ : Sg} {H : Heap} {w : World} (h : Conc B w0 σ H w) {id j : Nat} {p q : Pl} {o : AObj} (hp : σ id = some p) (hlive : live H id) (hq : σ j = some q) (ho : H.get j = some o) (hd : o.isDead = true) (hn : o ≠ .dead) : q.b ≠ p.b := by
  rcases dead_cases hd with rfl | ⟨t, lo, hi, z, rfl⟩
  · exact absurd rfl hn
  · have h1 := h.ro j q t lo hi z hq ho
    have h2 := (h.blk id p hp).1 hlive
    omega

theorem Stp.same (σ : Sg) (H : Heap) {w w' : World} (he : w'.heap = w.heap) : Stp σ H w σ H w' :=
  ⟨.refl σ, fun _ _ h k => sn h k, Nat.le_refl _, by rw [he]; exact Nat.le_refl _, fun b _ _ => by rw [he], fun _ _ _ => rfl, fun _ _ h k => sn h k, fun _ _ _ h => h⟩

/-- One object's block is turned, and what is said of it. -/
theorem Conc.put {B : Nat} {w0 : World} {σ : Sg} {H : Heap} {w w' : World} (h : Conc B w0 σ H w) {id : Nat} {p : Pl} {o : AObj} (hp : σ id = some p) (hlive : live H id)
    (hsz : w'.heap.size = w.heap.size) (hoth : ∀ b, b ≠ p.b → w'.heap[b]? = w.heap[b]?) (hb : Below B w w') (ho : OR σ w' p o) (hm : o.mine := by intro _ _ _ _ e; first | (cases e; done) | (injection e with _ _ _ _ e; revert e; decide)) :
    Conc B w0 σ (H.put id o) w' ∧ Stp σ H w σ (H.put id o) w' := by
  have hlv : ∀ j q, σ j = some q → live (H.put id o) j → live H j := by
    intro j q hq hl
    by_cases e : j = id
    · subst e; exact hlive
    · obtain ⟨o', h1, h2⟩ := hl
      rw [Heap.get_put, if_neg e] at h1
      exact ⟨o', h1, h2⟩
  refine ⟨⟨?_, ?_, ?_, ?_, ?_, h.below.trans hb, by rw [hsz]; exact h.size, ?_⟩, ⟨.refl σ, fun _ _ h k => sn h k, Nat.le_refl _, by rw [hsz]; exact Nat.le_refl _, ?_, ?_, fun _ _ h k => sn h k, hlv⟩⟩
  · intro j q o' hq ho'
    rw [Heap.get_put] at ho'
    by_cases e : j = id
    · subst e
      rw [if_pos rfl] at ho'
      rw [hp] at hq; cases hq; cases ho'
      exact ho
    · rw [if_neg e] at ho'
      cases hdd : o'.isDead with
      | true =>
        by_cases hz : o' = .dead
        · subst hz; trivial
        · exact OR.mono (.refl σ) (hoth _ (h.apart hp hlive hq ho' hdd hz)) (h.obj j q o' hq ho')
      | false =>
        exact OR.mono (.refl σ) (hoth _ fun eb => e (h.inj j id q p hq hp ⟨o', ho', hdd⟩ hlive eb)) (h.obj j q o' hq ho')
  · intro j q hq
    by_cases e : j = id
    · subst e; exact ⟨o, by rw [Heap.get_put, if_pos rfl]⟩
    · obtain ⟨o', ho'⟩ := h.ex j q hq
      exact ⟨o', by rw [Heap.get_put, if_neg e, ho']⟩
  · intro i j pi pj hi hj hli hlj e
    exact h.inj i j pi pj hi hj (hlv i pi hi hli) (hlv j pj hj hlj) e
  · intro j q hq
    rw [hsz]; exact ⟨fun hl => (h.blk j q hq).1 (hlv j q hq hl), (h.blk j q hq).2⟩
  · intro j o' ho'
    rw [Heap.get_put] at ho'
    by_cases e : j = id
    · subst e; obtain ⟨o'', h1, _⟩ := hlive; exact h.next _ _ h1
    · rw [if_neg e] at ho'; exact h.next _ _ ho'
  · intro j q t lo hi z hq ho'
    rw [Heap.get_put] at ho'
    by_cases e : j = id
    · rw [if_pos e] at ho'; cases ho'; exact absurd rfl (hm _ _ _ _)
    · rw [if_neg e] at ho'; exact h.ro j q t lo hi z hq ho'
  · intro b hb' hf
    exact hoth b fun e => hf id p hp hlive e.symm
  · intro j hj hn
    rw [Heap.get_put, if_neg]
    intro e; subst e; rw [hp] at hn; cases hn

def Sg.add (σ : Sg) (id : Nat) (p : Pl) : Sg := fun j => if j = id then some p else σ j

theorem Le.add {σ : Sg} {id : Nat} {p : Pl} (h : σ id = none) : Le σ (σ.add id p) := by
  intro j q hq
  unfold Sg.add
  by_cases e : j = id
  · subst e; rw [h] at hq; cases hq
  · rw [if_neg e]; exact hq

theorem Sg.add_self (σ : Sg) (id : Nat) (p : Pl) : (σ.add id p) id = some p := by simp [Sg.add]

theorem Conc.fresh {B : Nat} {w0 : World} {σ : Sg} {H : Heap} {w : World} (h : Conc B w0 σ H w) : σ H.next = none := by
  cases hs : σ H.next with
  | none => rfl
  | some p =>
    obtain ⟨o, ho⟩ := h.ex _ _ hs
    have := h.next _ _ ho
    omega

/-- A new block, and a new object that says something of it. -/
theorem Conc.add {B : Nat} {w0 : World} {σ : Sg} {H : Heap} {w w' : World} (h : Conc B w0 σ H w) {p : Pl} {o : AObj} (hpb : p.b = w.heap.size)
    (hsz : w'.heap.size = w.heap.size + 1) (hoth : ∀ b, b < w.heap.size → w'.heap[b]? = w.heap[b]?) (hb : Below B w w') (ho : OR (σ.add H.next p) w' p o) (hm : o.mine := by intro _ _ _ _ e; first | (cases e; done) | (injection e with _ _ _ _ e; revert e; decide)) :
    Conc B w0 (σ.add H.next p) (H.add o) w' ∧ Stp σ H w (σ.add H.next p) (H.add o) w' := by
  have hfr := h.fresh
  have hle : Le σ (σ.add H.next p) := Le.add hfr
  have hget : ∀ j q, (σ.add H.next p) j = some q → (j = H.next ∧ q = p) ∨ (j ≠ H.next ∧ σ j = some q) := by
    intro j q hq
    unfold Sg.add at hq
    by_cases e : j = H.next
    · rw [if_pos e] at hq; cases hq; exact .inl ⟨e, rfl⟩
    · rw [if_neg e] at hq; exact .inr ⟨e, hq⟩
  have hlv : ∀ j, j ≠ H.next → live (H.add o) j → live H j := by
    intro j e ⟨o', h1, h2⟩
    rw [Heap.get_add, if_neg e] at h1
    exact ⟨o', h1, h2⟩
  refine ⟨⟨?_, ?_, ?_, ?_, ?_, h.below.trans hb, by rw [hsz]; have := h.size; omega, ?_⟩, ⟨hle, ?_, by rw [Heap.next_add]; omega, by rw [hsz]; omega, fun b hb' _ => hoth b hb', ?_, ?_, ?_⟩⟩
  · intro j q o' hq ho'
    rw [Heap.get_add] at ho'
    rcases hget j q hq with ⟨e, rfl⟩ | ⟨e, hq'⟩
    · subst e; rw [if_pos rfl] at ho'; cases ho'; exact ho
    · rw [if_neg e] at ho'
      exact OR.mono hle (hoth _ (h.blk j q hq').2) (h.obj j q o' hq' ho')
  · intro j q hq
    rcases hget j q hq with ⟨e, rfl⟩ | ⟨e, hq'⟩
    · subst e; exact ⟨o, by rw [Heap.get_add, if_pos rfl]⟩
    · obtain ⟨o', ho'⟩ := h.ex j q hq'
      exact ⟨o', by rw [Heap.get_add, if_neg e, ho']⟩
  · intro i j pi pj hi hj hli hlj e
    rcases hget i pi hi with ⟨ei, rfl⟩ | ⟨ei, hi'⟩
    · rcases hget j pj hj with ⟨ej, rfl⟩ | ⟨ej, hj'⟩
      · rw [ei, ej]
      · have := (h.blk j pj hj').2; omega
    · rcases hget j pj hj with ⟨ej, rfl⟩ | ⟨ej, hj'⟩
      · have := (h.blk i pi hi').2; omega
      · exact h.inj i j pi pj hi' hj' (hlv i ei hli) (hlv j ej hlj) e
  · intro j q hq
    rcases hget j q hq with ⟨e, rfl⟩ | ⟨e, hq'⟩
    · rw [hpb, hsz]; have := h.size; exact ⟨fun _ => by omega, by omega⟩
    · have := h.blk j q hq'; exact ⟨fun hl => this.1 (hlv j e hl), by omega⟩
  · intro j o' ho'
    rw [Heap.get_add] at ho'
    rw [Heap.next_add]
    by_cases e : j = H.next
    · omega
    · rw [if_neg e] at ho'; have := h.next _ _ ho'; omega
  · intro j q t lo hi z hq ho'
    rw [Heap.get_add] at ho'
    rcases hget j q hq with ⟨e, rfl⟩ | ⟨e, hq'⟩
    · rw [if_pos e] at ho'; cases ho'; exact absurd rfl (hm _ _ _ _)
    · rw [if_neg e] at ho'; exact h.ro j q t lo hi z hq' ho'
  · intro j q hq hn
    rcases hget j q hq with ⟨e, rfl⟩ | ⟨e, hq'⟩
    · omega
    · rw [hq'] at hn; cases hn
  · intro j hj _
    rw [Heap.get_add, if_neg (by omega)]
  · intro j q hq hn
    rcases hget j q hq with ⟨e, rfl⟩ | ⟨e, hq'⟩
    · exact .inl (by omega)
    · rw [hq'] at hn; cases hn
  · intro j q hq hl
    refine hlv j ?_ hl
    intro e; subst e; rw [hfr] at hq; cases hq

end Go.AM
