/-
  What the abstract machine's operations say of the model's: ranges over maps.
-/
import Derived.Test.YtdjlpdboochkhaaGreatAmApp2
set_option linter.unusedVariables false
namespace Go.AM
open Go.RowKit

variable {P : Program} {B : Nat} {w0 w : World} {σ : Sg} {H : Heap}

theorem iterOf_some {id : Nat} {α : Type} {k : Option Nat → Nat → List Nat → Nat → Option α} {r : α} (h : iterOf H id k = some r) : ∃ m since seen last, H.get id = some (.miter m since seen last) ∧ k m since seen last = some r := by
  obtain ⟨o, ho, h⟩ := bnd h
  cases o <;> try (cases h; done)
  exact ⟨_, _, _, _, ho, h⟩

theorem range_run {t kt et : TypeId} {x v : AV} {a : Value} {H' : Heap} (hc : Conc B w0 σ H w) (hu : und P t = some (.map kt et)) (h : oRange H x = some (v, H')) (hx : VR σ x a) :
    ∃ σ' w' cv, (Instr.range t a).run P w = .ok cv w' ∧ VR σ' v cv ∧ Conc B w0 σ' H' w' ∧ Stp σ H w σ' H' w' := by
  cases x with
  | nilm =>
    cases h
    cases hx
    obtain ⟨k1, k2⟩ := hc.add (w' := w.alloc (.mapIter none 0 #[] 0)) (p := ⟨w.heap.size, 0, 0, 0, 0, 0⟩) (o := .miter none 0 [] 0) rfl (by simp) (fun b hb => heap_alloc_old w _ hb) ((below_alloc w _).mono hc.size)
      ⟨rfl, none, by simpa using heap_alloc_new w (.mapIter none 0 #[] 0), rfl⟩
    exact ⟨_, _, _, by simp [Instr.range, run_und hu, Pl.at], ⟨_, Sg.add_self _ _ _, Nat.zero_le _, rfl⟩, k1, k2⟩
  | map id =>
    obtain ⟨es, clock, hg, g⟩ := mapOf_some (k := fun _ clock => some (AV.ptr H.next 0, H.add (.miter (some id) clock [] clock))) h
    cases g
    obtain ⟨p, hp, rfl⟩ := hx
    obtain ⟨ec, h1, h2⟩ := hc.obj id p _ hp hg
    have hnc : ∀ c e f, Obj.map ec clock ≠ .cells c e f := by intro _ _ _ e; cases e
    obtain ⟨k1, k2⟩ := hc.add (w' := w.alloc (.mapIter (some p.b) clock #[] clock)) (p := ⟨w.heap.size, 0, 0, 0, 0, 0⟩) (o := .miter (some id) clock [] clock) rfl (by simp) (fun b hb => heap_alloc_old w _ hb) ((below_alloc w _).mono hc.size)
      ⟨rfl, some p.b, by simpa using heap_alloc_new w (.mapIter (some p.b) clock #[] clock), p, Le.add hc.fresh _ _ hp, rfl⟩
    exact ⟨_, _, _, by simp [Instr.range, run_und hu, run_getObj h1 hnc, Pl.at], ⟨_, Sg.add_self _ _ _, Nat.zero_le _, rfl⟩, k1, k2⟩
  | _ => cases h

theorem contains_natIn (n : Nat) (l : List Nat) : l.toArray.contains n = natIn n l := by
  rw [natIn_eq]; simp

theorem next_run {r : Nat} {v : AV} {a : Value} {ty : TypeId} {H' : Heap} (hc : Conc B w0 σ H w) (h : oNext H r = some (v, H')) (hx : VR σ (.ptr r 0) a) :
    ∃ w' cv, (Instr.next a false ty).run P w = .ok cv w' ∧ VR σ v cv ∧ Conc B w0 σ H' w' ∧ Stp σ H w σ H' w' := by
  obtain ⟨m, since, seen, last, hg, g⟩ := iterOf_some h
  obtain ⟨p, hp, hle, rfl⟩ := hx
  obtain ⟨hc0, m', h1, h2⟩ := hc.obj r p _ hp hg
  have hat : p.at 0 = ⟨p.b, 0, none⟩ := by
    unfold Pl.at
    have : p.c0 + (0 - p.a0) = 0 := by omega
    rw [this]
  have hnc : ∀ c e f, Obj.mapIter m' since seen.toArray last ≠ .cells c e f := by intro _ _ _ e; cases e
  have hover : VR σ (.tup [.bool false]) (.tuple #[.bool false]) := ⟨_, rfl, VRs.cons rfl .nil⟩
  cases m with
  | none =>
    have h2 : m' = none := h2
    subst h2
    cases g
    exact ⟨w, _, by simp [Instr.next, hat, run_getObj h1 hnc], hover, hc, Stp.refl _ _ _⟩
  | some m =>
    obtain ⟨q, hq, rfl⟩ := h2
    obtain ⟨es, clock, hgm, g⟩ := mapOf_some (k := fun es clock => nextIn H r m since seen last es clock) g
    obtain ⟨ec, h3, h4⟩ := hc.obj m q _ hq hgm
    have hnc2 : ∀ c e f, Obj.map ec clock ≠ .cells c e f := by intro _ _ _ e; cases e
    obtain ⟨hns, g1⟩ := cond_none g
    have hns' : (!seen.toArray.isEmpty && !ec.isEmpty && ec.all fun e => decide (e.born ≥ last)) = false := by
      rw [← hns]
      have e1 : seen.toArray.isEmpty = seen.isEmpty := by simp
      have e2 : ec.isEmpty = es.isEmpty := by
        rw [← Array.isEmpty_toList]
        have := h4.length
        cases hl : ec.toList <;> cases es <;> simp_all
      have e3 : (ec.all fun e => decide (e.born ≥ last)) = es.all fun e => Nat.ble last e.2.2 := by
        have := h4.all (fun n => decide (n ≥ last))
        rw [Array.all_toList] at this
        rw [this]
        congr 1
        funext x
        rw [Bool.eq_iff_iff, decide_eq_true_iff]
        exact (nble (a := last) (b := x.2.2)).symm
      rw [e1, e2, e3]
    have hf := h4.filter (fun n => !natIn n seen)
    have hleft : (ec.filter fun e => !seen.toArray.contains e.born) = ((ec.toList.filter fun e => !natIn e.born seen)).toArray := by
      rw [← Array.toList_inj, Array.toList_filter]
      simp only [contains_natIn]
    generalize hL : (es.filter fun e => !natIn e.2.2 seen) = L at g1 hf
    generalize hLc : (ec.toList.filter fun e => !natIn e.born seen) = Lc at hf hleft
    cases hf with
    | nil =>
      cases g1
      refine ⟨w, _, ?_, hover, hc, Stp.refl _ _ _⟩
      simp only [Instr.next, hat, Sem.run_bind, run_getObj h1 hnc, run_getObj h3 hnc2, Result.andThen_ok, hns', hleft, Bool.false_eq_true, if_false]
      simp [Question.forced]
    | @cons x xs e es' he hes =>
      cases hes with
      | cons _ _ => cases g1
      | nil =>
        obtain ⟨hsn, g2⟩ := cond_some g1
        cases g2
        have hlt : e.born < since := by rw [he.2.2]; exact nble.1 hsn
        have hge : ¬ since ≤ e.born := by omega
        have ho : OR σ (World.putObj' w p.b (.mapIter (some q.b) since (seen ++ [x.2.2]).toArray clock)) p (.miter (some m) since (seen ++ [x.2.2]) clock) := ⟨hc0, some q.b, putObj_at h1, q, hq, rfl⟩
        obtain ⟨k1, k2⟩ := hc.putObj hp ⟨_, hg, rfl⟩ ho
        refine ⟨_, .tuple #[.bool true, e.key, e.val], ?_, ⟨_, rfl, VRs.cons rfl (VRs.cons he.1 (VRs.cons he.2.1 .nil))⟩, k1, k2⟩
        have hpush : seen.toArray.push e.born = (seen ++ [x.2.2]).toArray := by rw [he.2.2]; simp
        simp only [Instr.next, hat, Sem.run_bind, run_getObj h1 hnc, run_getObj h3 hnc2, Result.andThen_ok, hns', hleft, Bool.false_eq_true, if_false]
        have hset := run_setObj (P := P) (o' := .mapIter (some q.b) since (seen ++ [x.2.2]).toArray clock) h1 hnc
        simp [Question.forced, hlt, hge]
        rw [he.2.2, hset]
        rfl

theorem find_ER {es : List (AV × AV × Nat)} {ec : List MapEntry} (h : ERs σ es ec) (s : Nat) {x : AV × AV × Nat} (hf : es.find? (fun e => Nat.beq e.2.2 s) = some x) : ∃ e, ec.find? (fun e => e.born == s) = some e ∧ ER σ x e := by
  induction h with
  | nil => cases hf
  | @cons a as e es he _ ih =>
    rw [List.find?_cons] at hf ⊢
    rw [he.2.2]
    have e1 : (a.2.2 == s) = Nat.beq a.2.2 s := by
      rw [Bool.eq_iff_iff, beq_iff_eq]; exact nbeq.symm
    rw [e1]
    cases hb : Nat.beq a.2.2 s with
    | true => rw [hb] at hf; cases hf; exact ⟨e, rfl, he⟩
    | false => rw [hb] at hf; exact ih hf

theorem entry_run {r : Nat} {v : AV} {a : Value} {H' : Heap} (hc : Conc B w0 σ H w) (h : oEntry H r = some (v, H')) (hx : VR σ (.ptr r 0) a) :
    ∃ cv, (Instr.entry a).run P w = .ok cv w ∧ VR σ v cv ∧ H' = H := by
  obtain ⟨m, since, seen, last, hg, g⟩ := iterOf_some h
  obtain ⟨m, rfl, g1⟩ := bnd g
  obtain ⟨stamp, hst, g2⟩ := bnd g1
  obtain ⟨es, clock, hgm, g3⟩ := mapOf_some g2
  obtain ⟨hcl, g4⟩ := cond_some g3
  obtain ⟨x, hf, g5⟩ := bnd g4
  cases g5
  obtain ⟨p, hp, hle, rfl⟩ := hx
  obtain ⟨hc0, m', h1, q, hq, rfl⟩ := hc.obj r p _ hp hg
  obtain ⟨ec, h3, h4⟩ := hc.obj m q _ hq hgm
  have hat : p.at 0 = ⟨p.b, 0, none⟩ := by
    unfold Pl.at
    have : p.c0 + (0 - p.a0) = 0 := by omega
    rw [this]
  have hnc : ∀ c e f, Obj.mapIter (some q.b) since seen.toArray last ≠ .cells c e f := by intro _ _ _ e; cases e
  have hnc2 : ∀ c e f, Obj.map ec clock ≠ .cells c e f := by intro _ _ _ e; cases e
  obtain ⟨e, he, her⟩ := find_ER h4 stamp hf
  have hcl := nbeq.1 hcl
  subst hcl
  have he' : ec.find? (fun e => e.born == stamp) = some e := by rw [← he, Array.find?_toList]
  have hst' : seen.toArray.back? = some stamp := by rw [← hst]; simp
  refine ⟨.tuple #[e.key, e.val], ?_, ⟨_, rfl, VRs.cons her.1 (VRs.cons her.2.1 .nil)⟩, rfl⟩
  simp [Instr.entry, hat, run_getObj h1 hnc, run_getObj h3 hnc2, hst', he']

end Go.AM
