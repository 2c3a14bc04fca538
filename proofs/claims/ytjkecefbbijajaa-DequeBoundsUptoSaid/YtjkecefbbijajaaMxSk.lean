/-
  DequeBounds: the walk.
-/
import Derived.Test.YtjkecefbbijajaaMxSj
set_option linter.unusedVariables false
set_option linter.unusedSimpArgs false
set_option linter.unusedSectionVars false
namespace Go.Mx
theorem wsum_part {f : DCl → Int} : ∀ {l : List DCl} (i : Nat), (∀ x ∈ l, 0 ≤ f x) → wsum f (l.take i) ≤ wsum f l
  | [], i, _ => by simp
  | a :: l, 0, h => wsum_nn h
  | a :: l, i + 1, h => by
    have := wsum_part (l := l) i fun x hx => h x (List.mem_cons_of_mem _ hx)
    show wsum f (a :: l.take i) ≤ wsum f (a :: l)
    unfold wsum at *
    rw [List.map_cons, List.map_cons, List.sum_cons, List.sum_cons]; omega
theorem Arr.cellsPart {h : Heap} {k kp : Kd} {s : Sl} {xs : List (Den k)} (c : Arr h k s xs) {a : Addr} (ha : s.a = some a) {i : Nat} {x : Den k} (hx : xs[i]? = some x) {y : Den kp} {off : Nat} (hp : PartAt k kp off x y) {sz : Nat} (hsz : sz = k.size) : cellsAt h ((a.add (i * sz)).add off) (kp.cells y) := by
  obtain ⟨z, h1, h2⟩ := c.ldPart (K := fun z => z = y) ha hx hp hsz rfl
  rw [← h2]; exact h1
theorem Arr.cellsEl {h : Heap} {k : Kd} {s : Sl} {xs : List (Den k)} (c : Arr h k s xs) {a : Addr} (ha : s.a = some a) {i : Nat} {x : Den k} (hx : xs[i]? = some x) {sz : Nat} (hsz : sz = k.size) : cellsAt h (a.add (i * sz)) (k.cells x) := by
  obtain ⟨z, h1, h2⟩ := c.ldAt (K := fun z => z = x) ha hx hsz rfl
  rw [← h2]; exact h1
theorem dbounds_spec {low most thieves : Int} {td pkS : Sl} {h : Heap} {todos : List DTd} {picks : List Int} (ht : Arr h KTd td todos) (hp : Arr h ki pkS picks)
    {c1 : Int → Int → Sl → Int → Sl → Heap → (Bool → Heap → Prop) → Prop} {c3 : Int → Int → Sl → Int → Sl → Heap → ((Den kapiDequeRun × (Int × Unit)) → Heap → Prop) → Prop} {c4 : Den kapiDequeRun → Sl → Int → Sl → Heap → (Bool → Heap → Prop) → Prop}
    {c5 : Den kapiDequeRun → Int → Sl → Heap → (Sl → Heap → Prop) → Prop} {c6 : Int → Int → Heap → (Int → Heap → Prop) → Prop} {c7 : Sl → Int → Int → Int → Int → Heap → (Int → Heap → Prop) → Prop}
    (i1 : ∀ {a b s t u h Q} {ts : List DTd} {ps : List Int}, Arr h KTd s ts → Arr h ki u ps → Q false h → (judgeE a b ts t ps = 0 → Q true h) → c1 a b s t u h Q)
    (i3 : ∀ {a b s t u h Q} {ts : List DTd} {ps : List Int}, Arr h KTd s ts → Arr h ki u ps → judgeE a b ts t ps = 0 → (∀ ca re lg h', PlayR h h' (playOf a b ts t ps) ca re lg → Q ((ca, (re, (lg, ()))), (0, ())) h') → c3 a b s t u h Q)
    (i4 : ∀ {r s t u h Q} {ts : List DTd} {ps : List Int} {a b : Int}, Arr h KCl r.1 (playOf a b ts t ps).calls → Arr h KTd s ts → Arr h ki u ps → judgeE a b ts t ps = 0 → Q true h → c4 r s t u h Q)
    (i5 : ∀ {r t u h Q} {cs : List DCl} {ps : List Int}, Arr h KCl r.1 cs → Arr h ki u ps → 0 ≤ t → t ≤ 3 → ps.length ≤ 1048576 → cs.length ≤ 1048576 → (∀ (i : Nat) c, cs[i]? = some c → 0 ≤ dBeg c ∧ dBeg c < (ps.length : Int) ∧ dEnd c < (ps.length : Int) ∧ (dEnd c < 0 ∨ dBeg c ≤ dEnd c)) → (∀ s h', New h h' ki s (plcL (whos t ps) cs ps.length) → Q s h') → c5 r t u h Q)
    (i6 : ∀ {x n h Q}, law3_mod.M x n h Q → c6 x n h Q)
    (i7 : ∀ {s : Sl} {ps : List Int} {h : Heap} {t : Int} {w l u : Nat} {lo hi : Int} {Q : Int → Heap → Prop}, Arr h ki s ps → ps.length ≤ 1048576 → 0 ≤ t → t ≤ 3 → (if lo < 0 then 0 else lo) = (l : Int) → l ≤ u → u ≤ ps.length → ((hi < 0 ∧ u = ps.length) ∨ (0 ≤ hi ∧ hi + 1 = (u : Int))) → Q ((pk (whos t ps) w u : Int) - (pk (whos t ps) w l : Int)) h → c7 s t (w : Int) lo hi h Q)
    {Q : Bool → Heap → Prop} (hQ : ∀ h', le h h' → Q true h') : law3_DequeBounds.M c1 c3 c4 c5 c6 c7 low most td thieves pkS h Q := by
  refine i1 ht hp ⟨fun _ => hQ h (le.refl h), fun z => (by cases z)⟩ fun hj => ⟨fun z => (by cases z), fun _ => ?_⟩
  obtain ⟨j1, j2, j3, j4, j5, j6⟩ := judge_ok hj
  refine i3 ht hp hj fun ca re lg h2 pr => ?_
  have hl2 := pr.calls.le
  have hcl := pr.calls.len
  have hll := pr.log.len
  have hpl := hp.1
  have pf := play_pf hj
  have hal := pf.hi.len_le
  refine ⟨fun z => absurd rfl (of_decide_eq_true z), fun _ => ?_⟩
  refine i4 pr.calls.arr (ht.le hl2) (hp.le hl2) hj ⟨fun z => (by cases z), fun _ => ?_⟩
  have zi := stN_zi hj (Nat.le_refl _)
  rw [stN_all] at zi
  have pca := pr.calls.arr
  have plg := pr.log.arr
  generalize playOf low most todos thieves picks = p at *
  have wt : w64 (1 + thieves) = 1 + thieves := by rw [w64_of] <;> omega
  have hWl : (whos thieves picks).length = picks.length := List.length_map ..
  have hbe : ∀ (i : Nat) c, p.calls[i]? = some c → 0 ≤ dBeg c ∧ dBeg c < (picks.length : Int) ∧ dEnd c < (picks.length : Int) ∧ (dEnd c < 0 ∨ dBeg c ≤ dEnd c) := fun i c hc => by
    obtain ⟨w, b, q1, q2, q3, q4, q5, q6⟩ := pf.hi.c1 i c hc
    rcases pf.hi.c2 i c hc with ⟨z1, _⟩ | ⟨e, y1, y2, y3, _⟩
    · exact ⟨by omega, by omega, by omega, .inl (by omega)⟩
    · exact ⟨by omega, by omega, by omega, .inr (by omega)⟩
  refine i5 (r := (ca, (re, (lg, ())))) pca (hp.le hl2) j4 j5 j2 (by omega) hbe fun sl h3 n3 => ?_
  have hsl := n3.len
  unfold plcL at hsl
  rw [rangeL_len] at hsl
  have hzl := zi.len
  have hmono := fun {a b : Nat} (h : a ≤ b) => plc_mono (whos thieves picks) p.calls h
  refine Loop.up picks.length (fun s => s.2.1) (fun i s k => k = h3 ∧ s.1 = (plc (whos thieves picks) p.calls i : Int)) rfl ⟨rfl, rfl⟩ ?_
  rintro i ⟨(ac : Int), i', u⟩ k go hi hc ⟨rfl, hac⟩ hgo
  dsimp only at hc hac; subst hc
  refine dcase (fun g => ?_) (fun g => ?_)
  · have g : (i : Int) < (pkS.len : Int) := g
    have hil : i < picks.length := by omega
    have hx : picks[i]? = some picks[i] := by simp
    have hW := whos_get (thieves := thieves) hx
    have hr := mod_range (x := picks[i]) (n := 1 + thieves) (by omega)
    have hps : plc (whos thieves picks) p.calls (i + 1) = plc (whos thieves picks) p.calls i + if idleB (whos thieves picks) p.calls i = true then 0 else 1 := rfl
    have hm1 := hmono (a := i + 1) (b := picks.length) hil
    have hple := plc_le (whos thieves picks) p.calls i
    have hpx : (plcL (whos thieves picks) p.calls picks.length)[i]? = some (if idleB (whos thieves picks) p.calls i = true then -1 else (plc (whos thieves picks) p.calls i : Int)) := rangeL_get hil
    obtain ⟨as, has⟩ := n3.arr.addr (by omega)
    have bd : (0 : Int) ≤ (i : Int) ∧ (i : Int) < (sl.len : Int) := ⟨Int.natCast_nonneg _, by omega⟩
    have nxt : ∀ ac' : Int, ac' = (plc (whos thieves picks) p.calls (i + 1) : Int) → law3_DequeBounds.j1 go (ac, ((i : Int), u)) (ac', ()) k := fun ac' e => hgo hil _ _ (w64_nat (n := picks.length) hil (by omega)) ⟨rfl, e⟩
    refine ⟨bd, ?_⟩
    rw [has]
    simp only [deref]
    rw [Int.toNat_natCast]
    refine n3.arr.ldAt has hpx rfl ?_
    cases hid : idleB (whos thieves picks) p.calls i with
    | true =>
      rw [hid, if_pos rfl] at hps
      rw [if_pos rfl]
      refine dcase (fun _ => nxt _ (by rw [hps, hac]; rfl)) (fun z => absurd (show (-1 : Int) < 0 by decide) z)
    | false =>
      rw [hid, if_neg (by decide)] at hps hpx
      rw [if_neg (by decide)]
      obtain ⟨e, ze1, ze2⟩ := zi.who i _ hil hW hid
      have hel := (List.getElem?_eq_some_iff.1 ze1).1
      obtain ⟨al, hal'⟩ := plg.addr (by omega)
      obtain ⟨ap, hap⟩ := hp.addr (by omega)
      refine dcase (fun z => absurd z (Int.not_lt.2 (Int.natCast_nonneg _))) (fun _ => ⟨bd, n3.arr.ldAt has hpx rfl ?_⟩)
      refine dcase (fun z => ?_) (fun _ => ⟨bd, ?_⟩)
      · have z : (lg.len : Int) ≤ ((plc (whos thieves picks) p.calls i : Nat) : Int) := z
        omega
      rw [hap]
      refine ⟨⟨Int.natCast_nonneg _, g⟩, n3.arr.ldAt has hpx rfl ⟨⟨Int.natCast_nonneg _, show ((plc (whos thieves picks) p.calls i : Nat) : Int) < (lg.len : Int) by omega⟩, ?_⟩⟩
      show deref lg.a _
      rw [hal']
      simp only [deref]
      rw [Int.toNat_natCast]
      have pe : PartAt KAcc ki 0 e e.1 := PartAt.zero (post := Kd.cells (.pair ki (.pair ki (.pair ki (.pair ki (.pair .bool .nil))))) e.2) rfl
      refine (plg.le n3.le).ldPart (k := KAcc) (kp := ki) (y := e.1) hal' ze1 pe rfl ?_
      refine (hp.le (hl2.trans n3.le)).ldAt hap hx rfl ?_
      rw [wt]
      refine i6 (lmod_spec (by omega) (by omega) ⟨(plg.le n3.le).cellsPart hal' ze1 pe rfl, n3.arr.cellsEl has hpx rfl, ?_⟩)
      have ew : e.1 = picks[i] % (1 + thieves) := by
        have ze2 : e.1 = ((picks[i] % (1 + thieves)).toNat : Int) := ze2
        rw [ze2, Int.toNat_of_nonneg hr.1]
      rw [decide_eq_false (show ¬ e.1 ≠ picks[i] % (1 + thieves) from fun q => q ew)]
      refine ⟨fun z => (by cases z), fun _ => nxt _ ?_⟩
      show w64 (ac + 1) = _
      rw [hps, hac, w64_of] <;> omega
  have g : ¬ (i : Int) < (pkS.len : Int) := g
  obtain rfl : i = picks.length := by omega
  refine dcase (fun z => ?_) (fun _ => ?_)
  · have z : ac ≠ (lg.len : Int) := z
    exact absurd (show ac = (lg.len : Int) by omega) z
  clear hgo g
  -- the calls
  have nnW : ∀ x ∈ p.calls, 0 ≤ fW (whos thieves picks) picks.length x := fun x hx => by
    obtain ⟨j, hj⟩ := List.mem_iff_getElem?.1 hx
    have := (pf.span hj).2.1
    unfold fW; split <;> omega
  have nnN : ∀ x ∈ p.calls, 0 ≤ fN x := fun x _ => by unfold fN; split <;> decide
  have spent := pf.spent
  have hN : wsum fN p.calls ≤ 1048576 := by
    rw [fN_sum]
    unfold nOf
    have := List.length_filter_le (fun c => decide (dWho c = ((0 : Nat) : Int))) p.calls
    omega
  refine Loop.up p.calls.length (fun s => s.2.2.1) (fun i s k' => k' = k ∧ s.1 = wsum fN (p.calls.take i) ∧ s.2.1 = wsum (fW (whos thieves picks) picks.length) (p.calls.take i)) rfl ⟨rfl, rfl, rfl⟩ ?_
  rintro i ⟨(nn : Int), (sp : Int), i', u2⟩ k' go2 hi hc ⟨rfl, f1, f2⟩ hgo
  dsimp only at hc f1 f2; subst hc
  refine dcase (fun g => ?_) (fun g => ?_)
  · have g : (i : Int) < (ca.len : Int) := g
    have hil : i < p.calls.length := by omega
    have hx : p.calls[i]? = some p.calls[i] := by simp
    obtain ⟨ac', hac'⟩ := pca.addr (by omega)
    refine ⟨⟨Int.natCast_nonneg i, g⟩, ?_⟩
    rw [hac']
    simp only [deref]
    rw [Int.toNat_natCast]
    refine (pca.le n3.le).ldAt (k := KCl) hac' hx rfl ?_
    obtain ⟨b1, b2, b3, b4⟩ := hbe i _ hx
    obtain ⟨s1, s2, _⟩ := pf.span hx
    obtain ⟨w, b, q1, q2, q3, q4, q5, q6⟩ := pf.hi.c1 i _ hx
    have sN := wsum_part (f := fN) (i + 1) nnN
    have sW := wsum_part (f := fW (whos thieves picks) picks.length) (i + 1) nnW
    have sN0 := wsum_nn (f := fN) (l := p.calls.take i) fun x hx => nnN x (List.mem_of_mem_take hx)
    have sW0 := wsum_nn (f := fW (whos thieves picks) picks.length) (l := p.calls.take i) fun x hx => nnW x (List.mem_of_mem_take hx)
    have eN : wsum fN (p.calls.take (i + 1)) = wsum fN (p.calls.take i) + fN p.calls[i] := by rw [List.take_add_one, hx]; exact wsum_snoc _ _ _
    have eW : wsum (fW (whos thieves picks) picks.length) (p.calls.take (i + 1)) = wsum (fW (whos thieves picks) picks.length) (p.calls.take i) + fW (whos thieves picks) picks.length p.calls[i] := by rw [List.take_add_one, hx]; exact wsum_snoc _ _ _
    generalize p.calls[i] = c at *
    show c7 pkS thieves (dWho c) (dBeg c) (dEnd c) k' _
    have esp : spn (whos thieves picks) picks.length c = (pk (whos thieves picks) w (if dEnd c < 0 then picks.length else (dEnd c + 1).toNat) : Int) - (pk (whos thieves picks) w b : Int) := by
      unfold spn
      rw [q1, q2, Int.toNat_natCast, Int.toNat_natCast]
    rw [q1]
    refine i7 (hp.le (hl2.trans n3.le)) j2 j4 j5 (l := b) (u := if dEnd c < 0 then picks.length else (dEnd c + 1).toNat) (by rw [if_neg (by omega)]; exact q2) (by split <;> omega) (by split <;> omega) ?_ ?_
    · by_cases z : dEnd c < 0
      · rw [if_pos z]; exact .inl ⟨z, rfl⟩
      · rw [if_neg z]; exact .inr ⟨by omega, by omega⟩
    rw [← esp]
    generalize hrr : spn (whos thieves picks) picks.length c = r at *
    have fin : ∀ nn' sp' : Int, nn' = wsum fN (p.calls.take (i + 1)) → sp' = wsum (fW (whos thieves picks) picks.length) (p.calls.take (i + 1)) → law3_DequeBounds.j4 Q go2 (nn, (sp, ((i : Int), u2))) (nn', (sp', ())) (false, ()) k' := fun nn' sp' g1 g2 => ⟨fun z => (by cases z), fun _ => hgo hil _ _ (w64_nat (n := p.calls.length) hil (by omega)) ⟨rfl, g1, g2⟩⟩
    have w2m : w64 (9 + w64 (2 * most)) = 9 + 2 * most := by
      have := j3.2.2
      have := j3.2.1
      have := j3.1
      rw [w64_of (x := 2 * most) (by omega) (by omega), w64_of] <;> omega
    have j5' : ∀ nn' sp' : Int, nn' = wsum fN (p.calls.take (i + 1)) → sp' = wsum (fW (whos thieves picks) picks.length) (p.calls.take (i + 1)) → law3_DequeBounds.j5 most Q go2 (nn, (sp, ((i : Int), u2))) c r (nn', (sp', ())) k' := fun nn' sp' g1 g2 => by
      have fin := fin nn' sp' g1 g2
      unfold law3_DequeBounds.j5
      rw [w2m]
      have k0 : dKind c = 0 → r ≤ 9 + 2 * most := fun z => by unfold bndOf at s1; rw [if_pos z] at s1; exact s1
      have k1 : dKind c = 1 → r ≤ 8 := fun z => by unfold bndOf at s1; rw [if_neg (by omega), if_pos z] at s1; exact s1
      have k2 : dKind c = 2 → r ≤ 6 := fun z => by unfold bndOf at s1; rw [if_neg (by omega), if_neg (by omega)] at s1; exact s1
      have last : ((decide (dKind c = 0) = true → law3_DequeBounds.j4 Q go2 (nn, (sp, ((i : Int), u2))) (nn', (sp', ())) (decide (9 + 2 * most < r), ()) k') ∧ (decide (dKind c = 0) = false → law3_DequeBounds.j4 Q go2 (nn, (sp, ((i : Int), u2))) (nn', (sp', ())) (false, ()) k')) :=
        dcase (fun z => by rw [decide_eq_false (Int.not_lt.2 (k0 z))]; exact fin) (fun _ => fin)
      have mid : ((decide (dKind c = 2) = true → ((decide ((6 : Int) < r) = true → law3_DequeBounds.j4 Q go2 (nn, (sp, ((i : Int), u2))) (nn', (sp', ())) (true, ()) k') ∧ (decide ((6 : Int) < r) = false → ((decide (dKind c = 0) = true → law3_DequeBounds.j4 Q go2 (nn, (sp, ((i : Int), u2))) (nn', (sp', ())) (decide (9 + 2 * most < r), ()) k') ∧ (decide (dKind c = 0) = false → law3_DequeBounds.j4 Q go2 (nn, (sp, ((i : Int), u2))) (nn', (sp', ())) (false, ()) k'))))) ∧
          (decide (dKind c = 2) = false → ((decide (dKind c = 0) = true → law3_DequeBounds.j4 Q go2 (nn, (sp, ((i : Int), u2))) (nn', (sp', ())) (decide (9 + 2 * most < r), ()) k') ∧ (decide (dKind c = 0) = false → law3_DequeBounds.j4 Q go2 (nn, (sp, ((i : Int), u2))) (nn', (sp', ())) (false, ()) k')))) :=
        dcase (fun z => dcase (fun y => absurd y (Int.not_lt.2 (k2 z))) (fun _ => last)) (fun _ => last)
      exact dcase (fun z => dcase (fun y => absurd y (Int.not_lt.2 (k1 z))) (fun _ => mid)) (fun _ => mid)
    refine dcase (fun z => ?_) (fun z => ?_)
    · have z : dWho c = 0 := z
      have e1 : fN c = 1 := if_pos z
      have e2 : fW (whos thieves picks) picks.length c = r := (if_pos z).trans hrr
      rw [e1] at eN
      rw [e2] at eW
      refine j5' _ _ ?_ ?_
      · show w64 (nn + 1) = _
        rw [eN, f1, w64_of] <;> omega
      · show w64 (sp + r) = _
        rw [eW, f2, w64_of] <;> omega
    · have z : ¬ dWho c = 0 := z
      have e1 : fN c = 0 := if_neg z
      have e2 : fW (whos thieves picks) picks.length c = 0 := if_neg z
      rw [e1, Int.add_zero] at eN
      rw [e2, Int.add_zero] at eW
      exact j5' _ _ (f1.trans eN.symm) (f2.trans eW.symm)
  · have g : ¬ (i : Int) < (ca.len : Int) := g
    obtain rfl : i = p.calls.length := by omega
    rw [List.take_length] at f1 f2
    have hN0 := wsum_nn (f := fN) (l := p.calls) nnN
    show Q (decide (sp ≤ w64 (15 * nn))) k'
    have : w64 (15 * nn) = 15 * nn := by rw [w64_of] <;> omega
    rw [this, decide_eq_true (by omega)]
    exact hQ _ (hl2.trans n3.le)
end Go.Mx
