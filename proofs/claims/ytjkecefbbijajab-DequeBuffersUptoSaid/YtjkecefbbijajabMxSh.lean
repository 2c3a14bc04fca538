/-
  DequeBuffers: the walk.
-/
import Derived.Test.YtjkecefbbijajabMxSg
set_option linter.unusedVariables false
set_option linter.unusedSimpArgs false
set_option linter.unusedSectionVars false
namespace Go.Mx
theorem dbuf_spec {low most thieves : Int} {td pkS : Sl} {h : Heap} {todos : List DTd} {picks : List Int} (ht : Arr h KTd td todos) (hp : Arr h ki pkS picks)
    {c1 : Int → Int → Sl → Int → Sl → Heap → (Bool → Heap → Prop) → Prop} {c3 : Int → Int → Sl → Int → Sl → Heap → ((Den kapiDequeRun × (Int × Unit)) → Heap → Prop) → Prop} {c4 : Den kapiDequeRun → Sl → Int → Sl → Heap → (Bool → Heap → Prop) → Prop}
    (i1 : ∀ {a b s t u h Q} {ts : List DTd} {ps : List Int}, Arr h KTd s ts → Arr h ki u ps → Q false h → (judgeE a b ts t ps = 0 → Q true h) → c1 a b s t u h Q)
    (i3 : ∀ {a b s t u h Q} {ts : List DTd} {ps : List Int}, Arr h KTd s ts → Arr h ki u ps → judgeE a b ts t ps = 0 → (∀ ca re lg h', PlayR h h' (playOf a b ts t ps) ca re lg → Q ((ca, (re, (lg, ()))), (0, ())) h') → c3 a b s t u h Q)
    (i4 : ∀ {r s t u h Q} {ts : List DTd} {ps : List Int} {a b : Int}, Arr h KCl r.1 (playOf a b ts t ps).calls → Arr h KTd s ts → Arr h ki u ps → judgeE a b ts t ps = 0 → Q true h → c4 r s t u h Q)
    {Q : Bool → Heap → Prop} (hQ : ∀ h', le h h' → Q true h') : law3_DequeBuffers.M c1 c3 c4 low most td thieves pkS h Q := by
  refine i1 ht hp ⟨fun _ => hQ h (le.refl h), fun z => (by cases z)⟩ fun hj => ⟨fun z => (by cases z), fun _ => ?_⟩
  obtain ⟨j1, j2, j3, j4, j5, j6⟩ := judge_ok hj
  obtain ⟨q1, q2, q3⟩ := j3
  refine i3 ht hp hj fun ca re lg h2 pr => ?_
  have hl2 := pr.calls.le
  have hll := pr.log.len
  refine ⟨fun z => absurd rfl (of_decide_eq_true z), fun _ => ?_⟩
  refine i4 pr.calls.arr (ht.le hl2) (hp.le hl2) hj ⟨fun z => (by cases z), fun _ => ?_⟩
  have bi := stN_bi hj (Nat.le_refl _)
  have hlb := stN_lg hj (Nat.le_refl _)
  rw [stN_all] at bi hlb
  have plg := pr.log.arr
  generalize playOf low most todos thieves picks = p at *
  obtain ⟨a1, a2⟩ := bi
  generalize p.m.lg = L at *
  refine Loop.up L.length (fun s => s.2.2.1) (fun i s k => k = h2 ∧ s.1 = (bsN low most L i).1 ∧ s.2.1 = (bsN low most L i).2) rfl ⟨rfl, rfl, rfl⟩ ?_
  rintro i ⟨(ba : Int), (bc : Int), i', u⟩ k go hi hc ⟨rfl, e1, e2⟩ hgo
  dsimp only at hc e1 e2; subst hc
  refine dcase (fun g => ?_) (fun g => hQ _ hl2)
  have g : (i : Int) < (lg.len : Int) := g
  have hil : i < L.length := by omega
  have hx : L[i]? = some L[i] := by simp
  obtain ⟨al, hal'⟩ := plg.addr (by omega)
  refine ⟨⟨Int.natCast_nonneg i, g⟩, ?_⟩
  rw [hal']
  simp only [deref]
  rw [Int.toNat_natCast]
  refine plg.ldAt (k := KAcc) hal' hx rfl ?_
  have hok := a1 i _ hx
  have hst := bsN_succ (low := low) (most := most) hx
  generalize L[i] = e at *
  unfold bok at hok
  rw [← e1, ← e2] at hok
  obtain ⟨⟨b1, b2, b3, b4⟩, ow, hk⟩ := hok
  have same : aKind e ≠ 4 → law3_DequeBuffers.j1 go (ba, (bc, ((i : Int), u))) (ba, (bc, ())) k := fun q => by
    refine hgo hil _ _ (w64_nat (n := L.length) hil (by omega)) ⟨rfl, ?_, ?_⟩
    · rw [hst]; unfold bstep; rw [if_neg q]; exact e1
    · rw [hst]; unfold bstep; rw [if_neg q]; exact e2
  have j4 : aKind e ≠ 4 → law3_DequeBuffers.j4 Q go (ba, (bc, ((i : Int), u))) (false, ()) k := fun q => ⟨fun z => (by cases z), fun _ => same q⟩
  have w1 : w64 (ba + 1) = ba + 1 := by rw [w64_of] <;> omega
  have w2 : w64 (ba + 1 + bc) = ba + 1 + bc := by rw [w64_of] <;> omega
  have w3 : w64 (2 * bc) = 2 * bc := by rw [w64_of] <;> omega
  have w4 : w64 (ba + bc) = ba + bc := by rw [w64_of] <;> omega
  have hm : 1 ≤ (if most < 2 * bc then most else 2 * bc) ∧ (if most < 2 * bc then most else 2 * bc) ≤ 8192 := by split <;> omega
  have w5 : w64 (1 + (if most < 2 * bc then most else 2 * bc)) = 1 + (if most < 2 * bc then most else 2 * bc) := by rw [w64_of] <;> omega
  have main : law3_DequeBuffers.j5 most Q go (ba, (bc, ((i : Int), u))) e () k := by
    unfold law3_DequeBuffers.j5
    dsimp only
    rw [w1, w2, w3, w4, w5]
    rcases hk with k0 | ⟨k2, ka⟩ | ⟨k4, y1, y2, y3⟩ | ⟨k1, y1, y2, y3⟩
    · refine dcase (fun z => absurd (show aKind e = 3 from z) (by omega)) (fun _ => dcase (fun z => absurd (show aKind e = 2 from z) (by omega)) (fun _ => dcase (fun z => absurd (show aKind e = 4 from z) (by omega)) (fun _ => dcase (fun z => absurd (show aKind e = 1 from z) (by omega)) (fun _ => same (by omega)))))
    · exact dcase (fun z => absurd (show aKind e = 3 from z) (by omega)) (fun _ => dcase (fun _ => dcase (fun z => absurd ka z) (fun _ => same (by omega))) (fun z => absurd k2 z))
    · refine dcase (fun z => absurd (show aKind e = 3 from z) (by omega)) (fun _ => dcase (fun z => absurd (show aKind e = 2 from z) (by omega)) (fun _ => dcase (fun _ => ?_) (fun z => absurd k4 z)))
      refine dcase (fun z => absurd z (Int.not_le.2 y1)) (fun _ => dcase (fun z => absurd y2 z) (fun _ => ?_))
      rw [decide_eq_false (fun z => z y3)]
      refine ⟨fun z => (by cases z), fun _ => ?_⟩
      show go (aAddr e, ((if most < w64 (2 * bc) then most else w64 (2 * bc)), (w64 ((i : Int) + 1), ()))) k
      rw [w3]
      refine hgo hil _ _ (w64_nat (n := L.length) hil (by omega)) ⟨rfl, ?_, ?_⟩
      · rw [hst]; unfold bstep; rw [if_pos k4]
      · rw [hst]; unfold bstep; rw [if_pos k4, ← e2]
    · have n4 : aKind e ≠ 4 := by omega
      refine dcase (fun z => absurd (show aKind e = 3 from z) (by omega)) (fun _ => dcase (fun z => absurd (show aKind e = 2 from z) (by omega)) (fun _ => dcase (fun z => absurd z n4) (fun _ => dcase (fun _ => ?_) (fun z => absurd k1 z))))
      refine dcase (fun z => absurd (show aAddr e < 1 from z) (by omega)) (fun _ => dcase (fun z => ?_) (fun z => ?_))
      · have z : aAddr e = 2 := z
        refine dcase (fun y => absurd (y2 z) y) (fun _ => dcase (fun y => absurd (show 2 < aAddr e from y) (by omega)) (fun _ => dcase (fun y => absurd (show aAddr e = ba from y) (by omega)) (fun _ => j4 n4)))
      · have z : ¬ aAddr e = 2 := z
        refine dcase (fun z => ?_) (fun z => dcase (fun z2 => absurd (show aAddr e = ba from z2) (by have z : ¬ 2 < aAddr e := z; omega)) (fun _ => j4 n4))
        obtain ⟨f1, f2, f3⟩ := y3 z
        refine dcase (fun z => absurd z (Int.not_lt.2 f1)) (fun _ => dcase (fun z => absurd z (Int.not_lt.2 f2)) (fun _ => dcase (fun z => ?_) (fun _ => j4 n4)))
        rw [decide_eq_false (fun q => q (f3 z))]
        exact j4 n4
  have j6 : law3_DequeBuffers.j6 most Q go (ba, (bc, ((i : Int), u))) e (false, ()) k := ⟨fun z => (by cases z), fun _ => main⟩
  refine dcase (fun z => dcase (fun y => ?_) (fun _ => j6)) (fun _ => j6)
  have : aKind e = 2 := (ow z).resolve_left y
  show law3_DequeBuffers.j6 most Q go (ba, (bc, ((i : Int), u))) e (decide (aKind e ≠ 2), ()) k
  rw [decide_eq_false (fun q => q this)]
  exact j6
end Go.Mx
