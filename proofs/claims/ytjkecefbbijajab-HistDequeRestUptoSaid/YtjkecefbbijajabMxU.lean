/-
  What the functions of HistCut come to: specs in plain Lean.
-/
import Derived.Test.YtjkecefbbijajabMxOb
import Derived.Test.YtjkecefbbijajabMd
set_option linter.unusedVariables false
set_option linter.unusedSimpArgs false
namespace Go.Mx

abbrev Cl := Den kapiCall
def cut1 (pick : Int) (c : Cl) : List Cl :=
  if pick ≤ c.2.2.2.1 then [] else if pick ≤ c.2.2.2.2.1 then [(c.1, (c.2.1, (c.2.2.1, (c.2.2.2.1, ((-1), (0, (0, ())))))))] else [c]
def cutL (pick : Int) (xs : List Cl) : List Cl := xs.flatMap (cut1 pick)


theorem cutL_len (pick : Int) (xs : List Cl) : (cutL pick xs).length ≤ xs.length := by
  unfold cutL
  induction xs with
  | nil => simp
  | cons x xs ih =>
    rw [List.flatMap_cons, List.length_append, List.length_cons]
    have : (cut1 pick x).length ≤ 1 := by
      unfold cut1
      by_cases a : pick ≤ x.2.2.2.1
      · rw [if_pos a]; exact Nat.zero_le _
      · rw [if_neg a]
        by_cases b : pick ≤ x.2.2.2.2.1
        · rw [if_pos b]; exact Nat.le_refl _
        · rw [if_neg b]; exact Nat.le_refl _
    exact Nat.le_trans (Nat.add_le_add this ih) (Nat.le_of_eq (Nat.add_comm _ _))

theorem cut_spec {calls : Sl} {pick : Int} {h : Heap} {xs : List Cl} (ha : Arr h kapiCall calls xs) (hn : calls.len ≤ 2097152) {Q : Sl → Heap → Prop}
    (hQ : ∀ r h', New h h' kapiCall r (cutL pick xs) → Q r h') : hist_Cut.M calls pick h Q := by
  refine Loop.up calls.len (fun s => s.2.1) (fun i s h' => New h h' kapiCall s.1 (cutL pick (xs.take i))) rfl (New.nil h _) ?_
  rintro i ⟨acc, j, u⟩ h' go hi hc hN hgo
  dsimp only at hc hN; subst hc
  have hw : i < calls.len → w64 ((i : Int) + 1) = ((i + 1 : Nat) : Int) := fun _ => by rw [w64_of] <;> omega
  refine ⟨fun c => ?_, fun c => ?_⟩
  · have c : (i : Int) < (calls.len : Int) := of_decide_eq_true c
    have c' : i < calls.len := by omega
    refine ⟨⟨Int.natCast_nonneg i, c⟩, (ha.le hN.le).at (Int.natCast_nonneg i) c rfl ?_⟩
    intro x hx
    have hs : cutL pick (xs.take (i + 1)) = cutL pick (xs.take i) ++ cut1 pick x := by
      have hlt : i < xs.length := by rw [ha.1]; exact c'
      have e : xs[i] = x := by simpa [hlt] using hx
      rw [take_succ' xs hlt, e]; simp [cutL]
    have hacc : acc.len ≤ calls.len := by
      rw [← hN.len]
      have := cutL_len pick (xs.take i)
      rw [List.length_take] at this
      omega
    refine ⟨fun d => ?_, fun d => ⟨fun e => ?_, fun e => ?_⟩⟩
    · refine hgo c' _ _ (hw c') ?_
      dsimp only
      have d : pick ≤ x.2.2.2.1 := of_decide_eq_true d
      rw [hs, cut1, if_pos d, List.append_nil]; exact hN
    · have d : ¬ pick ≤ x.2.2.2.1 := of_decide_eq_false d
      have e : pick ≤ x.2.2.2.2.1 := of_decide_eq_true e
      rw [cut1, if_neg d, if_pos e] at hs
      refine hN.app rfl rfl (by omega) fun t h'' hN' => hgo c' _ _ (hw c') ?_
      rw [hs]; exact hN'
    · have d : ¬ pick ≤ x.2.2.2.1 := of_decide_eq_false d
      have e : ¬ pick ≤ x.2.2.2.2.1 := of_decide_eq_false e
      rw [cut1, if_neg d, if_neg e] at hs
      refine hN.app rfl rfl (by omega) fun t h'' hN' => hgo c' _ _ (hw c') ?_
      rw [hs]; exact hN'
  · have c : ¬ (i : Int) < (calls.len : Int) := of_decide_eq_false c
    refine hQ _ _ ?_
    rw [List.take_of_length_le (by rw [ha.1]; omega)] at hN
    exact hN

def mark : Cl := ((-77), (0, (0, (0, (0, (0, (0, ())))))))
def moved1 (c : Cl) : Cl := (c.1, (c.2.1, (c.2.2.1, ((w64 (c.2.2.2.1 - 1)), (c.2.2.2.2.1, (c.2.2.2.2.2.1, ((w64 (c.2.2.2.2.2.2.1 + 1)), ())))))))

/-- A slice of xs, with one hidden element behind it. -/
structure Bay (h0 h : Heap) (s : Sl) (xs : List Cl) : Prop where
  own : Own h kapiCall s (xs ++ [mark])
  len : xs.length = s.len
  cap : s.len + 1 ≤ s.cap
  le : le h0 h
  new : ∀ b, blkOf s b → h0 b = none

theorem same_spec {a b : Sl} {h : Heap} {xs : List Cl} (ha : Arr h kapiCall a xs) (hb : Arr h kapiCall b xs) (hn : a.len ≤ 2097152) {Q : Bool → Heap → Prop} (hQ : Q true h) : law4_same.M a b h Q := by
  have hl : a.len = b.len := by rw [← ha.1, ← hb.1]
  refine ⟨fun c => absurd (of_decide_eq_true c) (by omega), fun _ => ?_⟩
  refine Loop.up a.len (fun s => s.1) (fun i s h' => h' = h) rfl rfl ?_
  rintro i ⟨j, u⟩ h' go hi hc hN hgo
  dsimp only at hc; subst hc; subst hN
  refine ⟨fun c => ?_, fun c => hQ⟩
  have c : (i : Int) < (a.len : Int) := of_decide_eq_true c
  have c' : i < a.len := by omega
  refine ⟨⟨Int.natCast_nonneg i, c⟩, ?_⟩
  obtain ⟨aa, an, am⟩ := a
  cases aa with
  | none => have := ha.2.2; dsimp only at this c'; omega
  | some aa =>
  refine ⟨⟨by omega, by omega⟩, ?_⟩
  obtain ⟨ba, bn, bm⟩ := b
  cases ba with
  | none => have := hb.2.2; dsimp only at this hl c'; omega
  | some ba =>
  have hlt : i < xs.length := by rw [ha.1]; exact c'
  refine ⟨xs[i], cellsAt_el ha.2.2 (by simp [hlt]), xs[i], cellsAt_el hb.2.2 (by simp [hlt]), fun d => ?_, fun d => ?_⟩
  · rw [eqK_refl _ _ rfl] at d; cases d
  · exact hgo c' _ _ (by show w64 ((i : Int) + 1) = _; rw [w64_of] <;> omega) rfl

theorem Bay.arr {h0 h : Heap} {s : Sl} {xs : List Cl} (o : Bay h0 h s xs) : Arr h kapiCall s xs := by
  have := o.own.arr
  rwa [← o.len, List.take_left' rfl] at this

theorem Own.bay {h : Heap} {s : Sl} {xs : List Cl} (o : Own h kapiCall s (xs ++ [mark])) (e : xs.length = s.len) : Arr h kapiCall s xs := by
  have := o.arr
  rwa [← e, List.take_left' rfl] at this

end Go.Mx
