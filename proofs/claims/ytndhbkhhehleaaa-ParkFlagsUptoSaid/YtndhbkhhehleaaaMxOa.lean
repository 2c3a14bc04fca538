/-
  Arrays within objects.
-/
import Derived.Test.YtndhbkhhehleaaaMxPt
set_option linter.unusedVariables false
set_option linter.unusedSimpArgs false
set_option linter.unusedSectionVars false
namespace Go.Mx

/-! ### arrays in objects -/
def aput {n : Nat} {α : Type} (f : Fin n → α) (i : Nat) (v : α) : Fin n → α := fun j => if j.val = i then v else f j
theorem ofFn_aput {n : Nat} {α : Type} (f : Fin n → α) (i : Nat) (v : α) : List.ofFn (aput f i v) = (List.ofFn f).set i v := by
  refine List.ext_getElem (by simp) fun j h1 h2 => ?_
  rw [List.getElem_ofFn, List.getElem_set, List.getElem_ofFn]
  unfold aput
  by_cases e : j = i
  · rw [if_pos e, if_pos e.symm]
  · rw [if_neg e, if_neg fun q => e q.symm]
theorem Obj.ldArr {h : Heap} {b : Nat} {k ka : Kd} {x : Den k} (o : Obj h b k x) {n off : Nat} {f : Fin n → Den ka} (hp : PartAt k (.arr n ka) off x f) {i : Nat} (hi : i < n) {K : Den ka → Prop} (hK : K (f ⟨i, hi⟩)) {a : Addr} (ha : a = (ptr b).add (off + i * ka.size)) : Go.Mx.ld ka h a K := by
  obtain ⟨pre, post, e1, e2⟩ := hp
  subst ha
  obtain ⟨p, r, h1, h2⟩ := flatMap_at ka.cells ka.size ka.cells_len (List.ofFn f) i (f ⟨i, hi⟩) (by rw [List.getElem?_ofFn, dif_pos hi])
  refine o.ld (kf := ka) ⟨pre ++ p, r ++ post, ?_, by rw [List.length_append, e2, h2]⟩ hK
  rw [e1]
  show pre ++ (List.ofFn f).flatMap ka.cells ++ post = _
  rw [h1]; simp only [List.append_assoc]
theorem Obj.stArr {h : Heap} {b : Nat} {k ka : Kd} {x x' : Den k} (o : Obj h b k x) {n off : Nat} {f : Fin n → Den ka} {i : Nat} (hi : i < n) {v : Den ka} (hone : ka.flat = true)
    (hp : ∃ pre post, k.cells x = pre ++ Kd.cells (.arr n ka) f ++ post ∧ k.cells x' = pre ++ Kd.cells (.arr n ka) (aput f i v) ++ post ∧ pre.length = off) {K : Heap → Prop}
    (hK : ∀ h', Obj h' b k x' → Ext (· = b) h h' → K h') {a : Addr} (ha : a = (ptr b).add (off + i * ka.size)) : Go.Mx.st ka h a v K := by
  obtain ⟨pre, post, e1, e2, e3⟩ := hp
  subst ha
  have l1 : (Kd.cells (.arr n ka) f).length = n * ka.size := Kd.cells_len (.arr n ka) f
  have hle : i * ka.size + ka.size ≤ n * ka.size := by
    have : (i + 1) * ka.size ≤ n * ka.size := Nat.mul_le_mul_right _ hi
    rwa [Nat.succ_mul] at this
  refine o.st (kf := ka) ?_ ?_ hone hK
  · rw [e1, e2, ← e3, splice_mid _ _ _ _ _ (by rw [l1, Kd.cells_len]; exact hle)]
    congr 2
    show (List.ofFn (aput f i v)).flatMap ka.cells = splice ((List.ofFn f).flatMap ka.cells) (i * ka.size) (ka.cells v)
    rw [ofFn_aput]
    have := splice_at (k := ka) (ys := List.ofFn f) (i := i) (y := v) (by simpa using hi) []
    rw [List.append_nil, List.append_nil] at this
    exact this.symm
  · have := congrArg List.length e1
    rw [Kd.cells_len, List.length_append, List.length_append, l1] at this
    omega
end Go.Mx
