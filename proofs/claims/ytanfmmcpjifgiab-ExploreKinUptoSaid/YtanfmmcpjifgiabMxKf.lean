/-
  The normal form: the reference's; the two are the same.
-/
import Derived.Test.YtanfmmcpjifgiabMxKe
set_option linter.unusedVariables false
set_option linter.unusedSimpArgs false
set_option linter.unusedSectionVars false
namespace Go.Mx

/-- Who is at a step, as the acts stand. -/
def rawR (S : List (Rc × Nat)) (n : Nat) : List Int := (S.filter fun c => decide (c.2 = n)).map fun c => c.1.1
def refRow (S : List (Rc × Nat)) (nA n : Nat) : List Int := (List.range nA).flatMap fun w : Nat => (rawR S n).filter fun x => decide (x = (w : Int))
theorem count_flat (L : List Int) (a : Int) : ∀ n : Nat, ((List.range n).flatMap fun w : Nat => L.filter fun x => decide (x = (w : Int))).count a = if 0 ≤ a ∧ a < (n : Int) then L.count a else 0
  | 0 => by
    rw [if_neg (by omega)]; rfl
  | n + 1 => by
    rw [List.range_succ, List.flatMap_append, List.count_append, count_flat L a n]
    have e : ([n].flatMap fun w : Nat => L.filter fun x => decide (x = (w : Int))) = L.filter fun x => decide (x = (n : Int)) := by simp
    rw [e]
    by_cases z : a = (n : Int)
    · subst z
      rw [if_neg (by omega), if_pos (by omega), Nat.zero_add, List.count_filter (by simp)]
    · have h0 : (L.filter fun x => decide (x = (n : Int))).count a = 0 := by
        rw [List.count_eq_zero]
        intro h
        exact z (of_decide_eq_true (List.mem_filter.1 h).2)
      rw [h0, Nat.add_zero]
      by_cases y : 0 ≤ a ∧ a < (n : Int)
      · rw [if_pos y, if_pos (by omega)]
      · rw [if_neg y, if_neg (by omega)]
theorem refRow_perm {S : List (Rc × Nat)} {nA : Nat} (h : ∀ c ∈ S, 0 ≤ c.1.1 ∧ c.1.1 < (nA : Int)) (n : Nat) : (refRow S nA n).Perm (rawR S n) := by
  rw [List.perm_iff_count]
  intro a
  unfold refRow
  rw [count_flat]
  by_cases z : 0 ≤ a ∧ a < (nA : Int)
  · rw [if_pos z]
  · rw [if_neg z]
    symm
    rw [List.count_eq_zero]
    intro hm
    obtain ⟨c, hc, rfl⟩ := List.mem_map.1 hm
    exact z (h c (List.mem_filter.1 hc).1)
theorem refRow_sort (S : List (Rc × Nat)) (nA n : Nat) : (refRow S nA n).Pairwise (· ≤ ·) := by
  unfold refRow
  rw [List.pairwise_flatMap]
  refine ⟨fun w _ => ?_, List.pairwise_lt_range.imp fun {a b} h x hx y hy => ?_⟩
  · rw [List.pairwise_iff_getElem]
    intro i j hi hj _
    have h1 := of_decide_eq_true (List.mem_filter.1 (List.getElem_mem hi)).2
    have h2 := of_decide_eq_true (List.mem_filter.1 (List.getElem_mem hj)).2
    omega
  · have h1 := of_decide_eq_true (List.mem_filter.1 hx).2
    have h2 := of_decide_eq_true (List.mem_filter.1 hy).2
    omega
theorem sorted_one {a b : List Int} (h : a.Perm b) (ha : a.Pairwise (· ≤ ·)) (hb : b.Pairwise (· ≤ ·)) : a = b :=
  List.Perm.eq_of_pairwise (le := (· ≤ ·)) (fun x y _ _ h1 h2 => by omega) ha hb h
theorem formR_lt (S : List (Rc × Nat)) : ∀ c ∈ S, c.2 < (formR S).length := by
  induction S using rev_ind with
  | nil => intro c hc; cases hc
  | append_singleton S d ih =>
    intro c hc
    rw [formR_snoc, addR_len]
    rcases List.mem_append.1 hc with hc | hc
    · have := ih c hc; omega
    · have : c = d := by simpa using hc
      rw [this]; omega
/-- The program's rows are the reference's. -/
theorem rows_eq {S : List (Rc × Nat)} {nA : Nat} (h : ∀ c ∈ S, 0 ≤ c.1.1 ∧ c.1.1 < (nA : Int)) {zss : List (List Int)} (hl : zss.length = (formR S).length) (hz : ∀ (i : Nat) (z : List Int), zss[i]? = some z → z.Perm (((formR S)[i]?).getD []) ∧ z.Pairwise (· ≤ ·)) : zss = (List.range (formR S).length).map (refRow S nA) := by
  apply List.ext_getElem
  · simp [hl]
  · intro i h1 h2
    obtain ⟨p, q⟩ := hz i zss[i] (by simp)
    rw [formR_row] at p
    rw [List.getElem_map, List.getElem_range]
    exact sorted_one (p.trans (refRow_perm h i).symm) q (refRow_sort S nA i)
theorem rawR_snoc (S : List (Rc × Nat)) (c : Rc × Nat) (n : Nat) (w : Int) : (rawR (S ++ [c]) n).filter (fun x => decide (x = w)) = (rawR S n).filter (fun x => decide (x = w)) ++ if c.2 = n ∧ c.1.1 = w then [w] else [] := by
  unfold rawR
  rw [List.filter_append, List.map_append, List.filter_append]
  congr 1
  by_cases z : c.2 = n
  · rw [List.filter_cons_of_pos (by exact decide_eq_true z), List.filter_nil, List.map_singleton]
    by_cases y : c.1.1 = w
    · rw [List.filter_cons_of_pos (by exact decide_eq_true y), if_pos ⟨z, y⟩, y]; rfl
    · rw [List.filter_cons_of_neg (by simpa using y), if_neg (fun q => y q.2)]; rfl
  · rw [List.filter_cons_of_neg (by simpa using z), if_neg (fun q => z q.1)]; rfl

def Zs (S : List (Rc × Nat)) (nA m n : Nat) (part : List Int) : List (List Int) := (List.range m).map fun j => if j < n then refRow S nA j else if j = n then part else []
theorem Zs_len (S : List (Rc × Nat)) (nA m n : Nat) (part : List Int) : (Zs S nA m n part).length = m := by simp [Zs]
theorem Zs_at {S : List (Rc × Nat)} {nA m n : Nat} {part : List Int} (h : n < m) : (Zs S nA m n part)[n]? = some part := by
  unfold Zs
  rw [List.getElem?_map, List.getElem?_range h]
  simp
theorem Zs_get (S : List (Rc × Nat)) (nA m n : Nat) (part : List Int) (i : Nat) : (Zs S nA m n part)[i]? = if i < m then some (if i < n then refRow S nA i else if i = n then part else []) else none := by
  unfold Zs
  rw [List.getElem?_map]
  by_cases c : i < m
  · rw [if_pos c, List.getElem?_range c]; rfl
  · rw [if_neg c, List.getElem?_eq_none (by simpa using c)]; rfl
theorem Zs_set {S : List (Rc × Nat)} {nA m n : Nat} {part part' : List Int} (h : n < m) : (Zs S nA m n part).set n part' = Zs S nA m n part' := by
  apply List.ext_getElem?
  intro i
  rw [List.getElem?_set, Zs_len, Zs_get, Zs_get]
  by_cases c : n = i
  · subst c
    rw [if_pos rfl, if_pos h, if_pos h, if_neg (Nat.lt_irrefl n), if_pos rfl]
  · rw [if_neg c]
    by_cases d : i < m
    · rw [if_pos d, if_pos d]
      by_cases e : i < n
      · rw [if_pos e, if_pos e]
      · rw [if_neg e, if_neg e, if_neg (fun q => c q.symm), if_neg (fun q => c q.symm)]
    · rw [if_neg d, if_neg d]
theorem Zs_next {S : List (Rc × Nat)} {nA m n : Nat} : Zs S nA m n (refRow S nA n) = Zs S nA m (n + 1) [] := by
  unfold Zs
  refine List.map_congr_left fun j _ => ?_
  by_cases c : j < n
  · rw [if_pos c, if_pos (by omega)]
  · rw [if_neg c]
    by_cases d : j = n
    · subst d; rw [if_pos rfl, if_pos (by omega)]
    · rw [if_neg d, if_neg (by omega)]
      by_cases e : j = n + 1
      · rw [if_pos e]
      · rw [if_neg e]

theorem rbound_spec {sc : Sc} {a b : Rc} {h : Heap} {cD : Sc → Ac → Ac → Heap → (Bool → Heap → Prop) → Prop} (iD : ∀ {x y : Ac} {h : Heap} {Q : Bool → Heap → Prop}, (∀ b : Bool, (b = true ↔ DepI sc.1 (sc.2.1.len : Int) x.2.1 x.2.2.1 x.2.2.2.1 y.2.1 y.2.2.1 y.2.2.2.1) → Q b h) → cD sc x y h Q)
    {Q : Bool → Heap → Prop} (hQ : Q (bdA sc.1 (sc.2.1.len : Int) a b) h) : ref22_bound.M cD sc a b h Q := by
  have key : ∀ c : Bool, (c = true ↔ (a.1 = b.1 ∨ DepI sc.1 (sc.2.1.len : Int) a.2.1.2.1 a.2.1.2.2.1 a.2.1.2.2.2.1 b.2.1.2.1 b.2.1.2.2.1 b.2.1.2.2.2.1)) → Q c h := fun c hc => by
    have : c = bdA sc.1 (sc.2.1.len : Int) a b := by
      unfold bdA
      rw [Bool.eq_iff_iff, hc, decide_eq_true_eq]
    rw [this]; exact hQ
  refine dcs (fun e => key true ⟨fun _ => .inl e, fun _ => rfl⟩) (fun e => iD fun c hc => key c (hc.trans ⟨.inr, fun z => z.resolve_left e⟩))

section
variable {h0 h : Heap} {sc : Sc} {l : List Rc} {rl : Sl} (nl : New h0 h kref22Act rl l) (hl : l.length ≤ 12) (hA : sc.2.2.1.len ≤ 4)
  {cB : Sc → Rc → Rc → Heap → (Bool → Heap → Prop) → Prop}
  (iB : ∀ {a b : Rc} {h : Heap} {Q : Bool → Heap → Prop}, Q (bdA sc.1 (sc.2.1.len : Int) a b) h → cB sc a b h Q)
include nl hl hA iB
end
end Go.Mx
