/-
  Going through a map, in whatever order.
-/
import Derived.Test.YtndhbkhhehleaaaMxMa
import Derived.Laws.IdiomRangeMap
set_option linter.unusedVariables false
set_option linter.unusedSimpArgs false
namespace Go.Mx

def itNew (h : Heap) (m : Option Nat) (K : Nat → Heap → Prop) : Prop :=
  match m with
  | none => False
  | some a => ∃ es c, h a = some (.map es c) ∧ ∀ b, h b = none → K b (upd h b (.raw (.mapIter (some a) c #[] c)))
def itNext (h : Heap) (b : Nat) (K : Bool → Heap → Prop) : Prop :=
  ∃ a since seen last es c, h b = some (.raw (.mapIter (some a) since seen last)) ∧ h a = some (.map es c) ∧ (∀ x ∈ es.toList, x.born < since) ∧ since ≤ last ∧
    ((leftOf es seen).size = 0 → K false h) ∧ ∀ e ∈ (leftOf es seen).toList, K true (upd h b (.raw (.mapIter (some a) since (seen.push e.born) c)))
def itEnt (kk kv : Kd) (h : Heap) (b : Nat) (K : Den kk → Den kv → Prop) : Prop :=
  ∃ a since seen es c e k v, h b = some (.raw (.mapIter (some a) since (Array.push seen (MapEntry.born e)) c)) ∧ h a = some (.map es c) ∧ e ∈ es.toList ∧ (es.toList.map (·.born)).Nodup ∧ e.key = kk.val k ∧ e.val = kv.val v ∧ K k v

theorem raw_world {h : Heap} {w : World} (s : Sub h w) {b : Nat} {o : Obj} (e : h b = some (.raw o)) : w.heap[b]? = some o := by
  obtain ⟨x, hx, hi⟩ := s b _ e
  have hi : x = o := hi
  rw [← hi]; exact hx
theorem map_world {h : Heap} {w : World} (s : Sub h w) {b : Nat} {es : Array MapEntry} {c : Nat} (e : h b = some (.map es c)) : w.heap[b]? = some (.map es c) := by
  obtain ⟨x, hx, hi⟩ := s b _ e
  have hi : x = .map es c := hi
  rw [← hi]; exact hx
theorem raw_inv {h : Heap} {w : World} (s : Sub h w) {b : Nat} {o o' : Obj} (hb : h b = some (.raw o)) (t : tagOf (some o) = none) (t' : tagOf (some o') = none) (d : Nat) : Inv h w (upd h b (.raw o')) { w with heap := w.heap.setIfInBounds b o', drawn := d } where
  sub x y e := by
    have hw := raw_world s hb
    have hlt : b < w.heap.size := (Array.getElem?_eq_some_iff.1 hw).1
    by_cases q : x = b
    · subst q
      rw [upd_same] at e; cases e
      exact ⟨o', by simp [hlt], rfl⟩
    · rw [upd_ne h _ q] at e
      obtain ⟨z, hz, hi⟩ := s x y e
      refine ⟨z, ?_, hi⟩
      show (w.heap.setIfInBounds b o')[x]? = _
      rw [Array.getElem?_setIfInBounds, if_neg (fun c => q c.symm)]; exact hz
  size := by simp
  keep x hx e := by
    have q : x ≠ b := fun c => by subst c; rw [hb] at e; cases e
    refine ⟨?_, by rw [upd_ne h _ q]; exact e⟩
    show (w.heap.setIfInBounds b o')[x]? = _
    rw [Array.getElem?_setIfInBounds, if_neg (fun c => q c.symm)]
  tag x hx := by
    have hw := raw_world s hb
    have hlt : b < w.heap.size := (Array.getElem?_eq_some_iff.1 hw).1
    show tagOf (w.heap.setIfInBounds b o')[x]? = _
    rw [Array.getElem?_setIfInBounds]
    by_cases q : b = x
    · subst q; rw [if_pos rfl, if_pos hlt, hw, t, t']
    · rw [if_neg q]
  os := rfl
  tape := rfl
  out := rfl

theorem itNew_sound {P : Program} {T kt et : TypeId} (hT : P.underlying T = some (.map kt et)) {h : Heap} {m : Option Nat} {K : Nat → Heap → Prop} (hm : itNew h m K) {w : World} (s : Sub h w) :
    ∃ h' w', (Instr.range T (.map m)).run P w = .ok (.pointer (some ⟨w.heap.size, 0, none⟩)) w' ∧ Inv h w h' w' ∧ K w.heap.size h' := by
  cases m with
  | none => exact hm.elim
  | some a =>
    obtain ⟨es, c, h1, h2⟩ := hm
    exact ⟨_, _, run_range_map w T kt et a es c hT (map_world s h1), (Inv.refl s).new (o := .mapIter (some a) c #[] c) (x := .raw (.mapIter (some a) c #[] c)) rfl, h2 _ (none_of_size s)⟩

theorem run_getObj_some {P : Program} {w : World} {b : Nat} {o : Obj} (e : w.heap[b]? = some o) (t : tagOf (some o) = none) : (getObj b).run P w = .ok o w := by
  simp only [getObj, Sem.run, e]
  cases o <;> first | rfl | cases t
theorem run_setObj_some {P : Program} {w : World} {b : Nat} {o : Obj} (e : w.heap[b]? = some o) (t : tagOf (some o) = none) (o' : Obj) : (setObj b o').run P w = .ok () { w with heap := w.heap.setIfInBounds b o' } := by
  simp only [setObj, Sem.run, e]
  cases o <;> first | rfl | cases t

theorem itNext_sound {P : Program} {ty : TypeId} {h : Heap} {b : Nat} {K : Bool → Heap → Prop} (hm : itNext h b K) {w : World} (s : Sub h w) :
    ∃ (ok : Bool) (r : Array Value) (h' : Heap) (w' : World), (Instr.next (.pointer (some ⟨b, 0, none⟩)) false ty).run P w = .ok (.tuple (#[.bool ok] ++ r)) w' ∧ Inv h w h' w' ∧ K ok h' := by
  obtain ⟨a, since, seen, last, es, c, h1, h2, hold, hsc, hE, hN⟩ := hm
  have w1 := raw_world s h1
  have w2 := map_world s h2
  have base : (Instr.next (.pointer (some ⟨b, 0, none⟩)) false ty).run P w = Result.andThen ((choose (.mapNext (((if ((leftOf es seen).filter fun x : MapEntry => decide (x.born < since)).isEmpty then #[none] else #[]) ++ ((leftOf es seen).filter (fun x : MapEntry => decide (x.born < since)) ++ (leftOf es seen).filter (fun x : MapEntry => decide (x.born ≥ since))).map some : Array (Option MapEntry))).size)).run P w) fun j w' =>
      (match ((if ((leftOf es seen).filter fun x : MapEntry => decide (x.born < since)).isEmpty then #[none] else #[]) ++ ((leftOf es seen).filter (fun x : MapEntry => decide (x.born < since)) ++ (leftOf es seen).filter (fun x : MapEntry => decide (x.born ≥ since))).map some : Array (Option MapEntry))[j]? with
        | some (some e) => (do setObj b (.mapIter (some a) since (seen.push e.born) c); pure (.tuple #[.bool true, e.key, e.val]) : Sem Value)
        | some none => pure (.tuple #[.bool false])
        | none => stuck "Next: no such candidate").run P w' := by
    simp only [Instr.next, Sem.run_bind, run_getObj_some w1 rfl, run_getObj_some w2 rfl, Result.andThen_ok, next_test_false seen es since last hold hsc, Bool.false_eq_true, if_false]
    rfl
  have hmem : ∀ x ∈ (leftOf es seen).toList, x.born < since := fun x hx => hold x (by unfold leftOf at hx; simp at hx ⊢; exact hx.1)
  generalize hL : leftOf es seen = L at *
  have e1 : L.filter (fun x : MapEntry => decide (x.born < since)) = L := Array.filter_eq_self.2 (fun x hx => by simpa using hmem x (by simpa using hx))
  have e2 : L.filter (fun x : MapEntry => decide (x.born ≥ since)) = #[] := by
    rw [Array.filter_eq_empty_iff]
    intro x hx
    have := hmem x (by simpa using hx)
    simp
    omega
  rw [e1, e2, Array.append_empty] at base
  by_cases h0 : L.size = 0
  · have : L = #[] := Array.eq_empty_of_size_eq_zero h0
    subst this
    refine ⟨false, #[], h, w, ?_, Inv.refl s, hE rfl⟩
    rw [base]
    simp [choose, Sem.run, Question.forced]
  · have hne : L.isEmpty = false := by simp [Array.isEmpty, h0]
    simp only [hne, Bool.false_eq_true, if_false, Array.empty_append, Array.size_map] at base
    have hch : ∃ (j d : Nat), j < L.size ∧ (choose (Question.mapNext L.size)).run P w = .ok j { w with drawn := d } := by
      by_cases hf : L.size ≤ 1
      · exact ⟨0, w.drawn, by omega, by simp [choose, Sem.run, Question.forced, hf]⟩
      · exact ⟨_, w.drawn + 1, Nat.mod_lt _ (by omega), by
          simp only [choose, Sem.run, Question.forced, decide_eq_true_eq, hf, if_false, Question.cut]
          rfl⟩
    obtain ⟨j, d, hj, hrun⟩ := hch
    refine ⟨true, #[L[j].key, L[j].val], _, { w with heap := w.heap.setIfInBounds b (.mapIter (some a) since (seen.push L[j].born) c), drawn := d }, ?_, raw_inv s h1 rfl rfl d, hN L[j] (by simp)⟩
    rw [base, hrun]
    have w1' : ({ w with drawn := d } : World).heap[b]? = some (.mapIter (some a) since seen last) := w1
    simp only [Result.andThen_ok, Array.getElem?_map, Array.getElem?_eq_getElem hj, Option.map_some, Sem.run_bind, run_setObj_some w1' rfl, Sem.run_pure]
    rfl

theorem itEnt_sound {P : Program} {kk kv : Kd} {h : Heap} {b : Nat} {K : Den kk → Den kv → Prop} (hm : itEnt kk kv h b K) {w : World} (s : Sub h w) :
    ∃ k v, (Instr.entry (.pointer (some ⟨b, 0, none⟩))).run P w = .ok (.tuple #[kk.val k, kv.val v]) w ∧ K k v := by
  obtain ⟨a, since, seen, es, c, e, k, v, h1, h2, he, hn, e1, e2, hK⟩ := hm
  refine ⟨k, v, ?_, hK⟩
  have hf : es.find? (·.born == e.born) = some e := by rw [← Array.find?_toList]; exact find_born e es.toList hn he
  simp only [Instr.entry, Sem.run_bind, run_getObj_some (raw_world s h1) rfl, run_getObj_some (map_world s h2) rfl, Result.andThen_ok, Array.back?_push, bne_self_eq_false, Bool.false_eq_true, if_false, hf, e1, e2, Sem.run_pure]

def rangeI (P : Program) (T : TypeId) (x : TV) (h : Heap) (K : Nat → Heap → Prop) : Prop :=
  match P.underlying T with
  | some (.map _ _) => match x with
    | .v .map m => itNew h m K
    | _ => False
  | _ => False
def nextI (x : TV) (h : Heap) (K : Bool → Heap → Prop) : Prop :=
  match x with
  | .it _ b => itNext h b K
  | _ => False
def entI (P : Program) (x : TV) (h : Heap) (K : TV → Prop) : Prop :=
  match x with
  | .it T b => match P.underlying T with
    | some (.map kt et) => match kdOf P D kt, kdOf P D et with
      | some kk, some kv => itEnt kk kv h b fun k v => K (.tup (.pair kk (.pair kv .nil)) (k, (v, ())))
      | _, _ => False
    | _ => False
  | _ => False
end Go.Mx
