/-
  DequeApart: how the two deques begin; turns.
-/
import Derived.Test.YtppehoailhjdfaaMxSp
set_option linter.unusedVariables false
set_option linter.unusedSimpArgs false
set_option linter.unusedSectionVars false
namespace Go.Mx

theorem gt_big {cs : List Int} {y : Int} (h : (cs.length : Int) ≤ y) : gt cs y = 0 := by
  unfold gt
  rw [List.getElem?_eq_none (by omega)]; rfl
theorem laid_lenG (low : Int) (cs : List Int) (h : 1 ≤ low) : ((laid low cs).length : Int) = (cs.length : Int) + (4 + low) := by
  unfold laid
  rw [List.length_set, List.length_set, List.length_append, List.length_replicate]
  omega
theorem gt_laid {low : Int} {cs : List Int} {y : Int} (h : 1 ≤ low) (hy : 0 ≤ y) : gt (laid low cs) y = if y = (cs.length : Int) + 3 then low else if y = (cs.length : Int) + 2 then (cs.length : Int) + 3 else gt cs y := by
  have hl : ((cs ++ List.replicate (4 + low).toNat (0 : Int)).length : Int) = (cs.length : Int) + (4 + low) := by rw [List.length_append, List.length_replicate]; omega
  unfold laid
  have a := gt_set (cs := (cs ++ List.replicate (4 + low).toNat 0).set ((cs.length : Int) + 2).toNat ((cs.length : Int) + 3)) (x := (cs.length : Int) + 3) (v := low) (y := y) (by omega) (by rw [List.length_set, hl]; omega) hy
  have b := gt_set (cs := cs ++ List.replicate (4 + low).toNat 0) (x := (cs.length : Int) + 2) (v := (cs.length : Int) + 3) (y := y) (by omega) (by rw [hl]; omega) hy
  rw [gt_app] at b
  rw [b] at a
  have e1 : ((cs.length : Int) + 2).toNat = cs.length + 2 := by omega
  have e2 : ((cs.length : Int) + 3).toNat = cs.length + 3 := by omega
  rw [e1, e2] at a
  exact a
theorem gt_work {s : AS} {b a y : Int} (b0 : 0 ≤ b) (ba : b + 2 < a) (al : a + 1 < (s.cs.length : Int)) (hy : 0 ≤ y) : gt (workM s b a).cs y = if y = b then 1 else if y = b + 1 then 1 else if y = a + 1 then 7 else gt s.cs y := by
  show gt (((s.cs.set (a + 1).toNat 7).set (b + 1).toNat 1).set b.toNat 1) y = _
  rw [gt_set b0 (by rw [List.length_set, List.length_set]; omega) hy, gt_set (by omega) (by rw [List.length_set]; omega) hy, gt_set (by omega) al hy]
theorem work_len (s : AS) (b a : Int) : (workM s b a).cs.length = s.cs.length := by
  show (((s.cs.set (a + 1).toNat 7).set (b + 1).toNat 1).set b.toNat 1).length = _
  rw [List.length_set, List.length_set, List.length_set]
/-- A deque alone, when it has worked. -/
def alone0 (low most : Int) : AS := ⟨cellsOf low most, laid low [], [], 0, false⟩
def aloneW (low most : Int) : AS := workM (alone0 low most) 0 3
theorem Qt.work {s : AS} (q : Qt s) (b a : Int) : Qt (workM s b a) := ⟨q.wt, q.lg, by rw [work_len]; exact q.cs, q.sz⟩
theorem alone0_qt {low most : Int} (hc : CapE low most) : Qt (alone0 low most) := by
  have hb := cellsOf_bound hc
  exact ⟨rfl, rfl, by show ((laid low []).length : Int) ≤ _; rw [laid_len low hc.1]; exact hb.1, hb.2⟩
theorem alone0_gt {low most y : Int} (hc : CapE low most) (hy : 0 ≤ y) : gt (alone0 low most).cs y = if y = 3 then low else if y = 2 then 3 else 0 := by
  show gt (laid low []) y = _
  have h := gt_laid (cs := []) hc.1 hy
  have z : gt ([] : List Int) y = 0 := rfl
  rw [z] at h
  exact h
theorem aloneW_len {low most : Int} (hc : CapE low most) : ((aloneW low most).cs.length : Int) = 4 + low := by
  unfold aloneW
  rw [work_len]; exact laid_len low hc.1
theorem aloneW_gt {low most y : Int} (hc : CapE low most) (hy : 0 ≤ y) : gt (aloneW low most).cs y = if y = 0 then 1 else if y = 1 then 1 else if y = 4 then 7 else if y = 3 then low else if y = 2 then 3 else 0 := by
  have c1 := hc.1
  have h := gt_work (s := alone0 low most) (b := 0) (a := 3) (y := y) (by decide) (by decide) (by show 3 + 1 < ((laid low []).length : Int); rw [laid_len low c1]; omega) hy
  rw [alone0_gt hc hy] at h
  exact h
theorem aloneW_dg {low most : Int} (hc : CapE low most) : DG most (cellsOf low most) 1 (aloneW low most).cs DOp.zero := by
  have q := alone0_qt hc
  obtain ⟨c1, c2, c3⟩ := id hc
  have m1 : 1 ≤ most := by omega
  obtain ⟨w1, w2, w3, w4⟩ := works_run (s := alone0 low most) (b := 0) (a := 3) (c := low) (most := most) q m1 c3 (by decide) (by decide) (by show 3 + 1 < ((laid low []).length : Int); rw [laid_len low c1]; omega)
    (by rw [alone0_gt hc (by decide)]; rfl) (by rw [alone0_gt hc (by decide)]; rfl) (by rw [alone0_gt hc (by decide)]; rfl) (by rw [alone0_gt hc (by decide)]; rfl) c1
  have D0 : DS most (cellsOf low most) 0 (alone0 low most) [] := DS.start hc _ rfl rfl
  have P := D0.push (by decide) m1 c3 7
  rw [if_neg (show ¬ ((([] : List Int).length : Int) = most) by show ¬ (0 : Int) = most; omega)] at P
  have e1 : runD (9 + 2 * ([] : List Int).length) (alone0 low most) (DOp.push 0 most 7) = runD 6 (alone0 low most) (DOp.push 0 most 7) := runD_stop 6 3 (by rw [w1]; decide)
  rw [e1] at P
  have S := P.ds.steal (by decide) m1 c3
  rw [if_neg (by simp)] at S
  obtain ⟨v, l', el, S⟩ := S
  obtain ⟨rfl, rfl⟩ : 7 = v ∧ [] = l' := by
    have el : [7] = v :: l' := el
    cases el; exact ⟨rfl, rfl⟩
  have e2 : runD (9 + 2 * ([] ++ [7] : List Int).length) (runD 6 (alone0 low most) (DOp.push 0 most 7)).1 (DOp.steal 0 most) = runD 6 (runD 6 (alone0 low most) (DOp.push 0 most 7)).1 (DOp.steal 0 most) := runD_stop 6 5 (by rw [w2]; decide)
  rw [e2] at S
  have L := S.ds.look (by decide) m1 c3
  have e3 : runD (9 + 2 * ([] : List Int).length) (runD 6 (runD 6 (alone0 low most) (DOp.push 0 most 7)).1 (DOp.steal 0 most)).1 (DOp.look 0 most) = runD 2 (runD 6 (runD 6 (alone0 low most) (DOp.push 0 most 7)).1 (DOp.steal 0 most)).1 (DOp.look 0 most) := runD_stop 2 7 (by rw [w3]; decide)
  rw [e3, w4] at L
  exact L.ds.dg
/-- Both in one memory. -/
def joint0 (l m l' m' : Int) : AS := ⟨cellsOf l m + cellsOf l' m', laid l' (laid l []), [], 0, false⟩
def jointW (l m l' m' : Int) : AS := workM (workM (joint0 l m l' m') 0 3) (4 + l) (4 + l + 3)
section
variable {l m l' m' : Int} (hc : CapE l m) (hc' : CapE l' m')
include hc hc'
theorem joint_sum : cellsOf l m + cellsOf l' m' ≤ 1048576 := by
  obtain ⟨a1, a2, a3⟩ := hc
  obtain ⟨b1, b2, b3⟩ := hc'
  have a := cellsGo_le m 4096 (4 + l) l a1 a2
  have b := cellsGo_le m' 4096 (4 + l') l' b1 b2
  unfold cellsOf
  omega
theorem joint0_len : ((joint0 l m l' m').cs.length : Int) = (4 + l) + (4 + l') := by
  show ((laid l' (laid l [])).length : Int) = _
  rw [laid_lenG l' _ hc'.1, laid_len l hc.1]
theorem joint0_qt : Qt (joint0 l m l' m') := by
  have hb := cellsOf_bound hc
  have hb' := cellsOf_bound hc'
  exact ⟨rfl, rfl, by rw [joint0_len hc hc']; show (4 + l) + (4 + l') ≤ cellsOf l m + cellsOf l' m'; omega, joint_sum hc hc'⟩
theorem joint0_gt {y : Int} (hy : 0 ≤ y) : gt (joint0 l m l' m').cs y = if y = 4 + l + 3 then l' else if y = 4 + l + 2 then 4 + l + 3 else if y = 3 then l else if y = 2 then 3 else 0 := by
  show gt (laid l' (laid l [])) y = _
  have h := gt_laid (low := l') (cs := laid l []) hc'.1 hy
  rw [laid_len l hc.1] at h
  have h2 := alone0_gt (low := l) (most := m) hc hy
  rw [h, show gt (laid l []) y = gt (alone0 l m).cs y from rfl, h2]
theorem jointM_gt {y : Int} (hy : 0 ≤ y) : gt (workM (joint0 l m l' m') 0 3).cs y = if y = 0 then 1 else if y = 1 then 1 else if y = 4 then 7 else if y = 4 + l + 3 then l' else if y = 4 + l + 2 then 4 + l + 3 else if y = 3 then l else if y = 2 then 3 else 0 := by
  have c1 := hc.1
  have c1' := hc'.1
  have h := gt_work (s := joint0 l m l' m') (b := 0) (a := 3) (y := y) (by decide) (by decide) (by rw [joint0_len hc hc']; omega) hy
  rw [joint0_gt hc hc' hy] at h
  exact h
theorem jointW_gt {y : Int} (hy : 0 ≤ y) : gt (jointW l m l' m').cs y = if y = 4 + l then 1 else if y = 4 + l + 1 then 1 else if y = 4 + l + 3 + 1 then 7 else if y = 0 then 1 else if y = 1 then 1 else if y = 4 then 7 else if y = 4 + l + 3 then l' else if y = 4 + l + 2 then 4 + l + 3 else if y = 3 then l else if y = 2 then 3 else 0 := by
  have c1 := hc.1
  have c1' := hc'.1
  have h := gt_work (s := workM (joint0 l m l' m') 0 3) (b := 4 + l) (a := 4 + l + 3) (y := y) (by omega) (by omega) (by rw [work_len, joint0_len hc hc']; omega) hy
  rw [jointM_gt hc hc' hy] at h
  exact h
theorem jointW_len : ((jointW l m l' m').cs.length : Int) = (4 + l) + (4 + l') := by
  unfold jointW
  rw [work_len, work_len]; exact joint0_len hc hc'
theorem startDev {J : AS} {off : Int} {f : Int → Int} (E : Emb (aloneW l m).cs J.cs off f) (hf : ∀ x, f x = off + x) : DevI m (cellsOf l m) 1 off (aloneW l m) J f [3] DOp.zero DOp.zero := by
  have c1 := hc.1
  have g2 : gt (aloneW l m).cs 2 = 3 := by rw [aloneW_gt hc (by decide)]; rfl
  have g3 : gt (aloneW l m).cs 3 = l := by rw [aloneW_gt hc (by decide)]; rfl
  have hl := aloneW_len (low := l) (most := m) hc
  refine ⟨E, aloneW_dg hc, rfl, .idle rfl, .idle rfl, fun q => absurd rfl q, fun q => absurd rfl q, ⟨?_, ?_, ?_, fun q => absurd q (by decide)⟩, fun q => absurd q (by decide), ⟨.inl rfl, rfl⟩, fun q => absurd rfl q, fun q => absurd rfl q⟩
  · show gt _ 2 ∈ [3]; rw [g2]; exact List.mem_singleton.2 rfl
  · intro s hs
    obtain rfl := List.mem_singleton.1 hs
    have c2 := hc.2
    exact ⟨by decide, by rw [g3]; omega, by rw [g3]; omega, .inl g2.symm⟩
  · intro s hs
    obtain rfl := List.mem_singleton.1 hs
    rw [g3]
    exact ⟨by decide, by omega, fun j a b => by rw [hf, hf]; omega⟩
theorem startApt : AptI m (cellsOf l m) 0 m' (cellsOf l' m') (4 + l) 1 (jointW l m l' m') (aloneW l m) (aloneW l' m') (fun x => 0 + x) [3] (fun x => 4 + l + x) [3] DOp.zero DOp.zero DOp.zero DOp.zero := by
  have c1 := hc.1
  have c1' := hc'.1
  have hl := aloneW_len (low := l) (most := m) hc
  have hl' := aloneW_len (low := l') (most := m') hc'
  have hj := jointW_len hc hc'
  have hs := joint_sum hc hc'
  have hb := cellsOf_bound hc
  have hb' := cellsOf_bound hc'
  have E : Emb (aloneW l m).cs (jointW l m l' m').cs 0 (fun x => 0 + x) := by
    refine ⟨rfl, rfl, rfl, by omega, by omega, fun x a b => ⟨by omega, by omega⟩, fun x y _ _ _ _ e => (by omega), fun x a b n => ?_, ?_⟩
    · rw [jointW_gt hc hc' (by omega), aloneW_gt hc a, Int.zero_add, if_neg (by omega), if_neg (by omega), if_neg (by omega), if_neg (c := x = 4 + l + 3) (by omega), if_neg (c := x = 4 + l + 2) (by omega)]
    · rw [jointW_gt hc hc' (by omega), aloneW_gt hc (by omega), if_neg (by omega), if_neg (by omega), if_neg (by omega), if_neg (by omega), if_neg (by omega), if_neg (by omega), if_neg (by omega), if_neg (by omega)]; rfl
  have E' : Emb (aloneW l' m').cs (jointW l m l' m').cs (4 + l) (fun x => 4 + l + x) := by
    refine ⟨by omega, rfl, rfl, by omega, by omega, fun x a b => ⟨by omega, by omega⟩, fun x y _ _ _ _ e => (by omega), fun x a b n => ?_, ?_⟩
    · rw [jointW_gt hc hc' (by omega), aloneW_gt hc' a]
      by_cases e0 : x = 0
      · rw [if_pos (by omega), if_pos e0]
      rw [if_neg (by omega), if_neg e0]
      by_cases e1 : x = 1
      · rw [if_pos (by omega), if_pos e1]
      rw [if_neg (by omega), if_neg e1]
      by_cases e4 : x = 4
      · rw [if_pos (by omega), if_pos e4]
      rw [if_neg (by omega), if_neg e4, if_neg (by omega), if_neg (by omega), if_neg (by omega)]
      by_cases e3 : x = 3
      · rw [if_pos (by omega), if_pos e3]
      rw [if_neg (by omega), if_neg e3, if_neg (by omega), if_neg (by omega), if_neg (by omega), if_neg n]
    · rw [jointW_gt hc hc' (by omega), aloneW_gt hc' (by omega), if_neg (by omega), if_neg (by omega), if_neg (by omega), if_neg (by omega), if_neg (by omega), if_neg (by omega), if_neg (by omega), if_pos (by omega)]; rfl
  exact ⟨startDev hc hc' E fun x => rfl, startDev hc' hc E' fun x => rfl, fun x y a b c d e => (by omega), by rw [hj, hl, hl'], rfl, hs⟩
end
end Go.Mx
