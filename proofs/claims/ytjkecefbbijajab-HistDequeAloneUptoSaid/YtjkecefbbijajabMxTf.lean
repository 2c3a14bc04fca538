/-
  HistDequeAlone: the walk.
-/
import Derived.Test.YtjkecefbbijajabMxTe
set_option linter.unusedVariables false
set_option linter.unusedSimpArgs false
set_option linter.unusedSectionVars false
namespace Go.Mx

theorem stN_an {low most : Int} {todos : List DTd} {picks : List Int} (hj : judgeE low most todos 0 picks = 0) {k : Nat} (hk : k ≤ picks.length) : AN most todos (stN low most todos 0 picks k) := by
  obtain ⟨j1, j2, j3, j4, j5, j6⟩ := judge_ok hj
  refine stN_ind hj (P := fun k p => AN most todos p) ?_ (fun k w a h _ _ => h) (fun k w q v m' x a h aq r es => ?_) hk
  · have ea : (ps0 low most todos 0).act 0 = (DOp.zero, (-1 : Int)) := by
      show (List.replicate (1 + 0 : Int).toNat (DOp.zero, (-1 : Int)))[0]?.getD (DOp.zero, -1) = _
      rw [List.getElem?_replicate]
      split <;> rfl
    have pi := ps0_pi (todos := todos) (thieves := 0) j3 j4
    have p0 : ((ps0 low most todos 0).act 0).1.pc = 0 := by rw [ea]; rfl
    have h1 := pi.dg.t0
    have h2 := pi.dg.bn
    rw [Bl_up (lowp (.inl p0))] at h2
    have hv : vs (ps0 low most todos 0) = [] := by
      unfold vs
      rw [handp (.inl p0)]
      have : ctn (ps0 low most todos 0).m.cs = [] := List.length_eq_zero_iff.1 (by rw [ctn_len]; omega)
      rw [this]; rfl
    have hd : dn (ps0 low most todos 0) = 0 := by unfold dn; rw [ea, if_neg (show ¬ (0 : Int) ≤ -1 by decide)]; rfl
    refine ⟨?_, ?_, ?_, ?_, ?_, by rw [hv, hd]; rfl, fun i c hi => by rw [hd] at hi; exact absurd hi (Nat.not_lt_zero _)⟩
    · rw [ea]; exact fun z => absurd (show (0 : Int) = 1 from z) (by decide)
    · rw [ea]; exact fun z => absurd (show (0 : Int) = 2 from z) (by decide)
    · rw [ea]; exact fun z => absurd (show (0 : Int) = 2 from z) (by decide)
    · rw [ea]; exact fun c z => absurd (show (0 : Int) ≤ -1 from z) (by decide)
    · rw [ea]; exact fun z => absurd (show (0 : Int) ≤ -1 from z) (by decide)
  · have w0 : w = 0 := by have := a.wl; omega
    subst w0
    have hq := h.pre a.pi aq.pre
    exact hq.go aq.ai aq.hi (by rw [aq.al]; rfl) aq.run aq.pi (by have := a.lt; omega) j6 r
theorem alone_end {low most : Int} {todos : List DTd} {n : Nat} (hn : n = 15 * todos.length) (hj : judgeE low most todos 0 (List.replicate n 0) = 0) : ((playOf low most todos 0 (List.replicate n 0)).act 0).2 < 0 ∧ (playOf low most todos 0 (List.replicate n 0)).calls.length = todos.length := by
  have pf := play_pf hj
  have hlen : (List.replicate n (0 : Int)).length = n := List.length_replicate
  rw [hlen] at pf
  generalize playOf low most todos 0 (List.replicate n 0) = p at *
  have hW : whos 0 (List.replicate n 0) = List.replicate n 0 := by unfold whos; rw [List.map_replicate]; rfl
  rw [hW] at pf
  have hpk : pk (List.replicate n 0) 0 n = n := by
    unfold pk
    rw [List.take_of_length_le (by rw [List.length_replicate]; exact Nat.le_refl n), List.filter_eq_self.2, List.length_replicate]
    intro a ha
    exact decide_eq_true (List.mem_replicate.1 ha).2
  have own : ∀ c ∈ p.calls, ownC c = true := fun c hc => by
    obtain ⟨i, hi'⟩ := List.mem_iff_getElem?.1 hc
    obtain ⟨w, b, q1, _, _, _, q5, _⟩ := pf.hi.c1 i c hi'
    have := pf.al
    exact decide_eq_true (by omega)
  have hno : nOf 0 p.calls = p.calls.length := by
    show (p.calls.filter ownC).length = _
    rw [List.filter_eq_self.2 own]
  obtain ⟨d, d1, d2⟩ := pf.hi.tds
  rw [List.filter_eq_self.2 own] at d2
  have dl := congrArg List.length d2
  rw [List.length_map, List.length_map] at dl
  have tl := congrArg List.length d1
  rw [List.length_append] at tl
  obtain ⟨idl, i1, i2, i3⟩ := pf.ai.o1
  rw [hpk] at i2
  by_cases z : 0 < idl
  · obtain ⟨z1, z2⟩ := i3 z
    exact ⟨z2, by rw [z1] at tl; simp at tl; omega⟩
  · by_cases r : 0 ≤ (p.act 0).2
    · have := pf.own15' r
      omega
    · have := pf.own15
      exact ⟨by omega, by omega⟩

theorem dalone_spec {g : Den klaw4Game} {h : Heap} {xs : List DTd} {ys : List Int} (ht : Arr h KTd g.2.2.1 xs) (hp : Arr h ki g.2.2.2.2.1 ys)
    {c1 : Den klaw4Game → Int → Int → Heap → (Den klaw4Game → Heap → Prop) → Prop} {c2 : Int → Int → Sl → Int → Sl → Heap → ((Den kapiDequeRun × (Int × Unit)) → Heap → Prop) → Prop} {c3 : Sl → Int → Heap → ((Sl × (Sl × (Int × Unit))) → Heap → Prop) → Prop} {c4 : Sl → Sl → Heap → (Bool → Heap → Prop) → Prop}
    (i1 : ∀ {g : Den klaw4Game} {h : Heap} {xs : List DTd} {ys : List Int} {M P : Nat} {Q : Den klaw4Game → Heap → Prop}, Arr h KTd g.2.2.1 xs → Arr h ki g.2.2.2.2.1 ys → M ≤ 4096 → P ≤ 1048576 → (∀ td pk h', New h h' KTd td (fitT M xs) → New h h' ki pk (fitP (1 + g.2.2.2.1 % 4) P ys) → Q ((1 + g.1 % 8), ((1 + g.1 % 8 + g.2.1 % 8), (td, ((g.2.2.2.1 % 4), (pk, ()))))) h') → c1 g (M : Int) (P : Int) h Q)
    (i2 : ∀ {a b s t u h Q} {ts : List DTd} {ps : List Int}, Arr h KTd s ts → Arr h ki u ps → judgeE a b ts t ps = 0 → (∀ ca re lg h', PlayR h h' (playOf a b ts t ps) ca re lg → Q ((ca, (re, (lg, ()))), (0, ())) h') → c2 a b s t u h Q)
    (i3 : ∀ {s a h Q} {ts : List DTd}, Arr h KTd s ts → (∀ s' r h', New h h' KCl s' (csE ts a) → New h h' ki r (rsE ts a) → Q (s', (r, (serE ts a, ()))) h') → c3 s a h Q) (i4 : ∀ {a b h Q}, law4_sameInts.M a b h Q → c4 a b h Q)
    {Q : Bool → Heap → Prop} (hQ : ∀ h', le h h' → Q true h') : law4_HistDequeAlone.M c1 c2 c3 c4 g h Q := by
  refine i1 (M := 40) (P := 0) ht hp (by decide) (by decide) fun td pk h1 n1 n2 => ?_
  have r1 := mod_range (x := g.1) (n := 8) (by decide)
  have r2 := mod_range (x := g.2.1) (n := 8) (by decide)
  have hj0 := fit_judge g.1 g.2.1 0 (M := 40) (P := 0) (by decide) (by decide) xs 1 ys
  have htl := n1.len
  have hfl := fitT_len 40 xs
  generalize g.2.2.2.1 % 4 = th at *
  generalize 1 + g.1 % 8 + g.2.1 % 8 = most at *
  generalize 1 + g.1 % 8 = low at *
  generalize fitT 40 xs = ts at *
  obtain ⟨_, _, j3, _, _, j6⟩ := judge_ok hj0
  have hm : 1 ≤ most ∧ most ≤ 4096 := ⟨Int.le_trans j3.1 j3.2.1, j3.2.2⟩
  have w15 : w64 (15 * (td.len : Int)) = ((15 * ts.length : Nat) : Int) := by rw [w64_of] <;> omega
  show makeM ki 8 h1 (w64 (15 * (td.len : Int))) (w64 (15 * (td.len : Int))) _
  rw [w15]
  refine make_new (k := ki) (Int.natCast_nonneg _) (Int.le_refl _) (by omega) (by omega) fun zs h2 nz _ _ _ => ?_
  rw [Int.toNat_natCast] at nz
  have nz : New h1 h2 ki zs (List.replicate (15 * ts.length) (0 : Int)) := nz
  have hj : judgeE low most ts 0 (List.replicate (15 * ts.length) 0) = 0 := judge_of (by omega) (by rw [List.length_replicate]; omega) j3 (Int.le_refl _) (by decide) j6
  refine i2 (n1.arr.le nz.le) nz.arr hj fun ca re lg h3 pr => ?_
  have pf := play_pf hj
  obtain ⟨e1, e2⟩ := alone_end rfl hj
  have an := stN_an hj (Nat.le_refl _)
  rw [stN_all] at an
  have hcl := pr.calls.len
  have pca := pr.calls.arr
  have pre := pr.rest.arr
  have hl3 := pr.calls.le
  have hser : serE ts most = 0 := serE_ok (by omega) hm (fun t ht => (j6 t ht).elim .inl fun z => .inr (.inl z))
  have hcs : csE ts most = (runL most ts).1 := if_pos hser
  have hrs : rsE ts most = (runL most ts).2 := if_pos hser
  have hrl := runL_len most hm.1 ts ts.length (Nat.le_refl _)
  rw [List.take_length] at hrl
  generalize playOf low most ts 0 (List.replicate (15 * ts.length) 0) = p at *
  have hd : dn p = ts.length := by unfold dn; rw [if_neg (by omega), e2]
  have hvs := an.vsE
  have hclx := an.cl
  rw [hd, List.take_length] at hvs hclx
  have hct : ctn p.m.cs = (runL most ts).2 := by
    have p0 := (pf.pi.run 0 pf.pi.pos).1 e1
    unfold vs at hvs
    rw [handp (.inl p0), List.append_nil] at hvs
    exact hvs
  refine i3 ((n1.arr.le nz.le).le hl3) fun s' r h4 m1 m2 => ?_
  have hsl := m1.len
  rw [hcs] at hsl m1
  rw [hrs] at m2
  have le4 := ((n1.le.trans nz.le).trans hl3).trans m1.le
  refine dcase (fun z => absurd rfl z) (fun _ => dcase (fun z => absurd hser z) (fun _ => dcase (fun z => absurd (show (s'.len : Int) = (td.len : Int) by omega) z) (fun _ => ?_)))
  show law4_HistDequeAlone.j5 _ _ _ _ (decide ((ca.len : Int) ≠ (s'.len : Int)), ()) h4
  rw [decide_eq_false (show ¬ (ca.len : Int) ≠ (s'.len : Int) from fun q => q (by omega))]
  refine ⟨fun z => (by cases z), fun _ => ?_⟩
  refine Loop.up ts.length (fun s => s.1) (fun i s k => k = h4) rfl rfl ?_
  rintro i ⟨i', u⟩ k go hi hcc rfl hgo
  dsimp only at hcc; subst hcc
  refine dcase (fun gg => ?_) (fun _ => i4 (sameInts_spec (pre.le m1.le) (by rw [hct]; exact m2.arr) ?_ (hQ _ le4)))
  · have gg : (i : Int) < (s'.len : Int) := gg
    have hil : i < ts.length := by omega
    have hx : p.calls[i]? = some (p.calls[i]'(by omega)) := by simp
    obtain ⟨r', y1, y2, y3, y4, y5, y6⟩ := hclx i _ hil hx
    have hend : ¬ dEnd (p.calls[i]'(by omega)) < 0 := fun z => by
      obtain ⟨w, b, q1, _, _, _, q5, _⟩ := pf.hi.c1 i _ hx
      have := pf.al
      have w0 : w = 0 := by omega
      rcases pf.hi.c2 i _ hx with ⟨_, _, _, y⟩ | ⟨e, y, _⟩
      · rw [q1, w0] at y
        have y : (p.act 0).2 = (i : Int) := y
        omega
      · omega
    obtain ⟨ac, hac⟩ := pca.addr (by omega)
    obtain ⟨as, has⟩ := m1.arr.addr (by omega)
    refine ⟨⟨Int.natCast_nonneg i, show (i : Int) < (ca.len : Int) by omega⟩, ?_⟩
    show deref ca.a _
    rw [hac]
    simp only [deref]
    rw [Int.toNat_natCast]
    refine (pca.le m1.le).ldAt (k := KCl) hac hx rfl ⟨⟨Int.natCast_nonneg i, gg⟩, ?_⟩
    show deref s'.a _
    rw [has]
    simp only [deref]
    refine m1.arr.ldAt (k := KCl) has y1 rfl ?_
    generalize p.calls[i]'(by omega) = c at *
    refine dcase (fun z => absurd y2 z) (fun _ => dcase (fun z => absurd y3 z) (fun _ => dcase (fun z => absurd y4 z) (fun _ => dcase (fun z => absurd y5 z) (fun _ => dcase (fun z => absurd y6 z) (fun _ => ?_)))))
    show law4_HistDequeAlone.j2 Q go ((i : Int), u) (decide (dEnd c < 0), ()) k
    rw [decide_eq_false hend]
    exact ⟨fun z => (by cases z), fun _ => hgo hil _ _ (w64_nat (n := ts.length) hil (by omega)) rfl⟩
  · have := pre.1
    have h2 := hrl.2
    rw [hct] at this
    omega
end Go.Mx
