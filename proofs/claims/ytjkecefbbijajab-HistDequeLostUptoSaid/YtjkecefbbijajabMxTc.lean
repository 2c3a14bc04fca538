/-
  HistDequeLost: the walk.
-/
import Derived.Test.YtjkecefbbijajabMxTb
set_option linter.unusedVariables false
set_option linter.unusedSimpArgs false
set_option linter.unusedSectionVars false
namespace Go.Mx
theorem dlost_spec {g : Den klaw4Game} {h : Heap} {xs : List DTd} {ys : List Int} (ht : Arr h KTd g.2.2.1 xs) (hp : Arr h ki g.2.2.2.2.1 ys)
    {c1 : Den klaw4Game → Int → Int → Heap → (Den klaw4Game → Heap → Prop) → Prop} {c2 : Den klaw4Game → Sl → Heap → ((Den kapiDequeRun × (Bool × Unit)) → Heap → Prop) → Prop} {c3 : Den klaw4Game → Sl → Heap → (Bool → Heap → Prop) → Prop} {c4 : Den kapiCall → Int → Int → Heap → (Bool → Heap → Prop) → Prop}
    (i1 : ∀ {g : Den klaw4Game} {h : Heap} {xs : List DTd} {ys : List Int} {M P : Nat} {Q : Den klaw4Game → Heap → Prop}, Arr h KTd g.2.2.1 xs → Arr h ki g.2.2.2.2.1 ys → M ≤ 4096 → P ≤ 1048576 → (∀ td pk h', New h h' KTd td (fitT M xs) → New h h' ki pk (fitP (1 + g.2.2.2.1 % 4) P ys) → Q ((1 + g.1 % 8), ((1 + g.1 % 8 + g.2.1 % 8), (td, ((g.2.2.2.1 % 4), (pk, ()))))) h') → c1 g (M : Int) (P : Int) h Q)
    (i2 : ∀ {g : Den klaw4Game} {pk : Sl} {h : Heap} {ts : List DTd} {ps : List Int} {Q : (Den kapiDequeRun × (Bool × Unit)) → Heap → Prop}, Arr h KTd g.2.2.1 ts → Arr h ki pk ps → judgeE g.1 g.2.1 ts g.2.2.2.1 ps = 0 → (∀ ca re lg h', PlayR h h' (playOf g.1 g.2.1 ts g.2.2.2.1 ps) ca re lg → Q ((ca, (re, (lg, ()))), (true, ())) h') → c2 g pk h Q)
    (i3 : ∀ {g : Den klaw4Game} {cl : Sl} {h : Heap} {cs : List DCl} {ps : List Int} {Q : Bool → Heap → Prop}, Arr h KCl cl cs → cs.length ≤ 1048576 → Arr h ki g.2.2.2.2.1 ps → ps.length ≤ 1048576 → 0 ≤ g.2.2.2.1 → g.2.2.2.1 ≤ 3 → (∀ w at' : Nat, (w = 0 → (g.2.2.1.len : Int) ≠ 0) → ps[at']? = some (w : Int) → (∀ m, m < at' → ps[m]? ≠ some (w : Int)) → ∃ (j : Nat) (c : DCl), cs[j]? = some c ∧ dWho c = (w : Int) ∧ dBeg c = (at' : Int)) → Q true h → c3 g cl h Q)
    (i4 : ∀ {c fr to h Q}, law4_took.M c fr to h Q → c4 c fr to h Q)
    {Q : Bool → Heap → Prop} (hQ : ∀ h', le h h' → Q true h') : law4_HistDequeLost.M c1 c2 c3 c4 g h Q := by
  have r3 := mod_range (x := g.2.2.2.1) (n := 4) (by decide)
  refine i1 (M := 200) (P := 2000) ht hp (by decide) (by decide) fun td pk h1 n1 n2 => ?_
  have hj := fit_judge g.1 g.2.1 g.2.2.2.1 (M := 200) (P := 2000) (by decide) (by decide) xs (1 + g.2.2.2.1 % 4) ys
  have red := fitP_red (n := 2000) (ys := ys) r3.1
  have htl := n1.len
  generalize g.2.2.2.1 % 4 = th at *
  generalize 1 + g.1 % 8 + g.2.1 % 8 = most at *
  generalize 1 + g.1 % 8 = low at *
  generalize fitT 200 xs = ts at *
  generalize fitP (1 + th) 2000 ys = ps at *
  obtain ⟨j1, j2, j3, j4, j5, j6⟩ := judge_ok hj
  refine i2 (g := (low, (most, (td, (th, (pk, ())))))) n1.arr n2.arr hj fun ca re lg h2 pr => ⟨fun z => (by cases z), fun _ => ?_⟩
  have pf := play_pf hj
  have lo := stN_lo hj (Nat.le_refl _)
  rw [stN_all] at lo
  have hcl := pr.calls.len
  have pca := pr.calls.arr
  have hl2 := pr.calls.le
  have hal := pf.hi.len_le
  have e0 : playOf low most ts th ps = playOf low most ts th ps := rfl
  have pr' : PlayR h1 h2 (playOf low most ts th ps) ca re lg := pr
  have hcl : (playOf low most ts th ps).calls.length = ca.len := hcl
  have pca : Arr h2 KCl ca (playOf low most ts th ps).calls := pca
  generalize playOf low most ts th ps = p at *
  refine i3 (g := (low, (most, (td, (th, (pk, ())))))) pca (by omega) (n2.arr.le hl2) j2 j4 j5 (fun w at' hw ha hf => pf.begun j4 red (fun z q => hw z (by have : td.len = 0 := by rw [← htl, q]; rfl
                                                                                                                                                           show (td.len : Int) = 0; omega)) ha hf) ⟨fun z => (by cases z), fun _ => ?_⟩
  refine Loop.up p.calls.length (fun s => s.1) (fun i s k => k = h2) rfl rfl ?_
  rintro i ⟨i', u⟩ k go hi hcc rfl hgo
  dsimp only at hcc; subst hcc
  refine dcase (fun gg => ?_) (fun _ => hQ _ (n1.le.trans hl2))
  have gg : (i : Int) < (ca.len : Int) := gg
  have hil : i < p.calls.length := by omega
  have hx : p.calls[i]? = some p.calls[i] := by simp
  obtain ⟨ac, hac⟩ := pca.addr (by omega)
  refine ⟨⟨Int.natCast_nonneg i, gg⟩, ?_⟩
  rw [hac]
  simp only [deref]
  rw [Int.toNat_natCast]
  refine pca.ldAt (k := KCl) hac hx rfl ?_
  have hlo := lo.lo i _ hx
  generalize p.calls[i] = c at *
  have nxt : law4_HistDequeLost.j1 go ((i : Int), u) () k := hgo hil _ _ (w64_nat (n := p.calls.length) hil (by omega)) rfl
  refine dcase (fun _ => nxt) (fun e => ?_)
  have e : dCode c = 6 := Decidable.not_not.1 e
  obtain ⟨jj, cc, z1, z2, z3, z4, z5⟩ := hlo e
  have hjj := (List.getElem?_eq_some_iff.1 z1).1
  have htk : tookP cc (dBeg c) (dEnd c) := ⟨z3, z4, fun y => by
    rcases z5 with ⟨_, y2⟩ | ⟨y1, _⟩
    · exact y2
    · omega, by
    rcases z5 with ⟨y1, _⟩ | ⟨y1, _⟩
    · exact .inl y1
    · rcases pf.hi.c2 jj cc z1 with ⟨_, y, _⟩ | ⟨e', y, _⟩
      · exact .inr y
      · omega⟩
  refine Loop.up p.calls.length (fun s => s.2.1) (fun j s k' => k' = k ∧ (s.1 = true ∨ j ≤ jj)) rfl ⟨rfl, .inr (Nat.zero_le _)⟩ ?_
  rintro j ⟨(fd : Bool), j', u2⟩ k' go2 hj' hcc ⟨rfl, hfd⟩ hgo2
  dsimp only at hcc hfd; subst hcc
  refine dcase (fun g2 => ?_) (fun g2 => ?_)
  · have g2 : (j : Int) < (ca.len : Int) := g2
    have hjl : j < p.calls.length := by omega
    have hxj : p.calls[j]? = some p.calls[j] := by simp
    have nx2 : ∀ b : Bool, (b = true ∨ j + 1 ≤ jj) → law4_HistDequeLost.j2 go2 (fd, ((j : Int), u2)) (b, ()) k' := fun b hb => hgo2 hjl _ _ (w64_nat (n := p.calls.length) hjl (by omega)) ⟨rfl, hb⟩
    refine ⟨fun _ => nx2 true (.inl rfl), fun q => ?_⟩
    have q : fd = false := q
    have hle : j ≤ jj := hfd.resolve_left (fun z => by rw [q] at z; cases z)
    refine dcase (fun y => ?_) (fun y => ?_)
    · refine ⟨⟨Int.natCast_nonneg j, g2⟩, ?_⟩
      rw [hac]
      simp only [deref]
      rw [Int.toNat_natCast]
      refine pca.ldAt (k := KCl) hac hxj rfl (i4 (took_spec (nx2 _ ?_)))
      by_cases ej : j = jj
      · subst ej
        rw [hxj] at z1
        rw [Option.some.inj z1]
        exact .inl (decide_eq_true htk)
      · exact .inr (by omega)
    · refine nx2 false (.inr ?_)
      have y : ¬ ((j : Int) ≠ (i : Int)) := y
      omega
  · have g2 : ¬ (j : Int) < (ca.len : Int) := g2
    have hf : fd = true := hfd.resolve_right (fun z => by omega)
    show ((!fd) = true → Q false k') ∧ ((!fd) = false → law4_HistDequeLost.j1 go ((i : Int), u) () k')
    rw [hf]
    exact ⟨fun z => (by cases z), fun _ => nxt⟩
end Go.Mx
