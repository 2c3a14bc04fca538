/-
  HistDequePrefix: a play that stops earlier is the whole one, cut.
-/
import Derived.Test.YtjkecefbbijajabMxTb
import Derived.Test.YtjkecefbbijajabMxU
set_option linter.unusedVariables false
set_option linter.unusedSimpArgs false
set_option linter.unusedSectionVars false
namespace Go.Mx

theorem cutL_keep {r : Int} : ∀ {cs : List DCl}, (∀ c ∈ cs, dBeg c < r ∧ dEnd c < r) → cutL r cs = cs
  | [], _ => rfl
  | c :: cs, h => by
    obtain ⟨h1, h2⟩ := h c (List.mem_cons_self ..)
    have ih := cutL_keep (r := r) (cs := cs) fun x hx => h x (List.mem_cons_of_mem _ hx)
    show cut1 r c ++ cutL r cs = c :: cs
    rw [ih]
    have : cut1 r c = [c] := by
      unfold cut1
      rw [if_neg (Int.not_le.2 h1), if_neg (Int.not_le.2 h2)]
    rw [this]; rfl
theorem cutL_snoc {r : Int} {cs : List DCl} {y : DCl} (h : r ≤ dBeg y) : cutL r (cs ++ [y]) = cutL r cs := by
  unfold cutL
  rw [List.flatMap_append]
  have : cut1 r y = [] := by unfold cut1; rw [if_pos h]
  simp [this]
theorem flatMap_set {α β : Type} {f : α → List β} : ∀ {l : List α} {i : Nat} {x y : α}, l[i]? = some x → f y = f x → (l.set i y).flatMap f = l.flatMap f
  | [], i, x, y, h, _ => by cases h
  | a :: l, 0, x, y, h, e => by
    have : a = x := Option.some.inj h
    subst this
    rw [List.set_cons_zero, List.flatMap_cons, List.flatMap_cons, e]
  | a :: l, i + 1, x, y, h, e => by
    have h : l[i]? = some x := h
    rw [List.set_cons_succ, List.flatMap_cons, List.flatMap_cons, flatMap_set h e]
theorem cutL_end {r : Int} {cs : List DCl} {i : Nat} {c0 : DCl} (h0 : cs[i]? = some c0) (he : dEnd c0 = -1) (hc : dCode c0 = 0) (hv : dVal c0 = 0) (r0 : 0 ≤ r) {n : Nat} (hn : r ≤ (n : Int)) (code v : Int) : cutL r (endAt cs i (n : Int) code v) = cutL r cs := by
  unfold endAt
  rw [h0]
  refine flatMap_set h0 ?_
  obtain ⟨a, b, c, d, e, f, g, u⟩ := c0
  dsimp only [dEnd, dCode, dVal] at he hc hv
  subst he hc hv
  unfold cut1 endCall
  dsimp only
  by_cases z : r ≤ d
  · rw [if_pos z, if_pos z]
  · rw [if_neg z, if_neg z, if_pos hn, if_neg (show ¬ r ≤ (-1 : Int) by omega)]
theorem pre_cut {most : Int} {p : PS} {k w : Nat} {q : PS} (e : p.pre most (k : Int) w = some q) {r : Int} (hr : r ≤ (k : Int)) : cutL r q.calls = cutL r p.calls := by
  cases pre_cases e with
  | on _ eq => subst eq; rfl
  | push _ _ t ts _ _ eq => subst eq; exact cutL_snoc hr
  | pop _ _ t ts _ _ eq => subst eq; exact cutL_snoc hr
  | steal _ _ eq => subst eq; exact cutL_snoc hr
theorem stN_cut {low most thieves : Int} {todos : List DTd} {picks : List Int} (hj : judgeE low most todos thieves picks = 0) (r : Nat) : ∀ {k : Nat}, k ≤ picks.length → r ≤ k → cutL (r : Int) (stN low most todos thieves picks k).calls = (stN low most todos thieves picks r).calls := by
  obtain ⟨j1, j2, j3, j4, j5, j6⟩ := judge_ok hj
  have base : r ≤ picks.length → cutL (r : Int) (stN low most todos thieves picks r).calls = (stN low most todos thieves picks r).calls := fun hr => by
    obtain ⟨_, hi, _⟩ := stN_all' (todos := todos) (picks := picks) j3 j4 j2 (k := r) hr
    refine cutL_keep fun c hc => ?_
    obtain ⟨i, hi'⟩ := List.mem_iff_getElem?.1 hc
    obtain ⟨w, b, q1, q2, q3, _⟩ := hi.c1 i c hi'
    rcases hi.c2 i c hi' with ⟨z, _⟩ | ⟨e, z1, _, z2, _⟩ <;> omega
  have main := fun {k : Nat} (hk : k ≤ picks.length) => stN_ind hj (P := fun k p => r ≤ k → cutL (r : Int) p.calls = (stN low most todos thieves picks r).calls) (fun h0 => ?_) (fun k w a h e es hrk => ?_) (fun k w q v m' x a h aq g es hrk => ?_) (k := k) hk
  · exact fun {k} hk hr => main hk hr
  · have e : r = 0 := by omega
    subst e
    exact base (Nat.zero_le _)
  · by_cases z : r = k + 1
    · subst z
      rw [← es]
      exact base a.lt
    · exact h (by omega)
  · by_cases z : r = k + 1
    · subst z
      rw [← es]
      exact base a.lt
    · have hrk' : r ≤ k := by omega
      rw [← h hrk', ← pre_cut aq.pre (by omega)]
      by_cases xp : x.pc = 0
      · obtain ⟨c0, r1, r2, r3, _⟩ := aq.ai.s0 w (aq.wl a) aq.run
        have hc2 := aq.hi.c2 _ c0 r1
        rw [show (q.go (k : Int) w).calls = endAt q.calls (q.act w).2.toNat (k : Int) x.code x.value by rw [g.off xp]]
        rcases hc2 with ⟨_, y1, y2, _⟩ | ⟨e, y, _⟩
        · exact cutL_end r1 r3 y1 y2 (Int.natCast_nonneg _) (by omega) _ _
        · omega
      · rw [show (q.go (k : Int) w).calls = q.calls by rw [g.on xp]]
theorem play_take {low most thieves : Int} {todos : List DTd} {picks : List Int} {r : Nat} (hr : r ≤ picks.length) : playOf low most todos thieves (picks.take r) = stN low most todos thieves picks r := by
  unfold playOf stN
  rw [whos_take]

theorem dprefix_spec {g : Den klaw4Game} {at' : Int} {h : Heap} {xs : List DTd} {ys : List Int} (ht : Arr h KTd g.2.2.1 xs) (hp : Arr h ki g.2.2.2.2.1 ys)
    {c1 : Den klaw4Game → Int → Int → Heap → (Den klaw4Game → Heap → Prop) → Prop} {c5 : Int → Int → Heap → (Int → Heap → Prop) → Prop} {c2 : Den klaw4Game → Sl → Heap → ((Den kapiDequeRun × (Bool × Unit)) → Heap → Prop) → Prop} {c3 : Den klaw4Game → Sl → Heap → (Bool → Heap → Prop) → Prop} {c6 : Sl → Int → Heap → (Sl → Heap → Prop) → Prop} {c7 : Sl → Sl → Heap → (Bool → Heap → Prop) → Prop}
    (i1 : ∀ {g : Den klaw4Game} {h : Heap} {xs : List DTd} {ys : List Int} {M P : Nat} {Q : Den klaw4Game → Heap → Prop}, Arr h KTd g.2.2.1 xs → Arr h ki g.2.2.2.2.1 ys → M ≤ 4096 → P ≤ 1048576 → (∀ td pk h', New h h' KTd td (fitT M xs) → New h h' ki pk (fitP (1 + g.2.2.2.1 % 4) P ys) → Q ((1 + g.1 % 8), ((1 + g.1 % 8 + g.2.1 % 8), (td, ((g.2.2.2.1 % 4), (pk, ()))))) h') → c1 g (M : Int) (P : Int) h Q)
    (i5 : ∀ {x n h Q}, law4_mod.M x n h Q → c5 x n h Q)
    (i2 : ∀ {g : Den klaw4Game} {pk : Sl} {h : Heap} {ts : List DTd} {ps : List Int} {Q : (Den kapiDequeRun × (Bool × Unit)) → Heap → Prop}, Arr h KTd g.2.2.1 ts → Arr h ki pk ps → judgeE g.1 g.2.1 ts g.2.2.2.1 ps = 0 → (∀ ca re lg h', PlayR h h' (playOf g.1 g.2.1 ts g.2.2.2.1 ps) ca re lg → Q ((ca, (re, (lg, ()))), (true, ())) h') → c2 g pk h Q)
    (i3 : ∀ {g : Den klaw4Game} {cl : Sl} {h : Heap} {cs : List DCl} {ps : List Int} {Q : Bool → Heap → Prop}, Arr h KCl cl cs → cs.length ≤ 1048576 → Arr h ki g.2.2.2.2.1 ps → ps.length ≤ 1048576 → 0 ≤ g.2.2.2.1 → g.2.2.2.1 ≤ 3 → (∀ w at' : Nat, (w = 0 → (g.2.2.1.len : Int) ≠ 0) → ps[at']? = some (w : Int) → (∀ m, m < at' → ps[m]? ≠ some (w : Int)) → ∃ (j : Nat) (c : DCl), cs[j]? = some c ∧ dWho c = (w : Int) ∧ dBeg c = (at' : Int)) → Q true h → c3 g cl h Q)
    (i6 : ∀ {a b h Q}, hist_Cut.M a b h Q → c6 a b h Q) (i7 : ∀ {a b h Q}, law4_same.M a b h Q → c7 a b h Q)
    {Q : Bool → Heap → Prop} (hQ : ∀ h', le h h' → Q true h') : law4_HistDequePrefix.M c1 c5 c2 c3 c6 c7 g at' h Q := by
  have r3 := mod_range (x := g.2.2.2.1) (n := 4) (by decide)
  refine i1 (M := 200) (P := 2000) ht hp (by decide) (by decide) fun td pk h1 n1 n2 => ?_
  have hj := fit_judge g.1 g.2.1 g.2.2.2.1 (M := 200) (P := 2000) (by decide) (by decide) xs (1 + g.2.2.2.1 % 4) ys
  have red := fitP_red (n := 2000) (ys := ys) r3.1
  have htl := n1.len
  have hpl := n2.len
  have hpb := fitP_len (1 + g.2.2.2.1 % 4) 2000 ys
  have hcap := n2.arr.2.1
  generalize g.2.2.2.1 % 4 = th at *
  generalize 1 + g.1 % 8 + g.2.1 % 8 = most at *
  generalize 1 + g.1 % 8 = low at *
  generalize fitT 200 xs = ts at *
  generalize fitP (1 + th) 2000 ys = ps at *
  obtain ⟨j1, j2, j3, j4, j5, j6⟩ := judge_ok hj
  have wl : w64 ((pk.len : Int) + 1) = (pk.len : Int) + 1 := by rw [w64_of] <;> omega
  show c5 at' (w64 ((pk.len : Int) + 1)) h1 _
  rw [wl]
  have rr := mod_range (x := at') (n := (pk.len : Int) + 1) (by omega)
  refine i5 (lmod4_spec (by omega) (by omega) ?_)
  obtain ⟨r, hr⟩ : ∃ r : Nat, at' % ((pk.len : Int) + 1) = (r : Int) := ⟨(at' % ((pk.len : Int) + 1)).toNat, by omega⟩
  rw [hr]
  have hrl : r ≤ ps.length := by omega
  refine i2 (g := (low, (most, (td, (th, (pk, ())))))) n1.arr n2.arr hj fun ca re lg h2 pr => ⟨⟨Int.natCast_nonneg _, show (r : Int) ≤ (pk.cap : Int) by omega⟩, ?_⟩
  have hl2 := pr.calls.le
  have hjr : judgeE low most ts th (ps.take r) = 0 := judge_of j1 (by rw [List.length_take]; omega) j3 j4 j5 j6
  have pka : Arr h2 ki (pk.cut 0 r 1) (ps.take r) := (n2.arr.le hl2).pre (by omega)
  show c2 (low, (most, (td, (th, (pk, ()))))) (pk.cut 0 (((r : Nat) : Int)).toNat 1) h2 _
  rw [Int.toNat_natCast]
  refine i2 (g := (low, (most, (td, (th, (pk, ())))))) (n1.arr.le hl2) pka hjr fun ca2 re2 lg2 h3 pr2 => ?_
  have hl3 := pr2.calls.le
  have pf := play_pf hj
  have hal := pf.hi.len_le
  have hcut := stN_cut hj r (Nat.le_refl _) hrl
  rw [stN_all] at hcut
  have pca : Arr h3 KCl ca (playOf low most ts th ps).calls := pr.calls.arr.le hl3
  have pca2 : Arr h3 KCl ca2 (playOf low most ts th (ps.take r)).calls := pr2.calls.arr
  rw [play_take hrl, ← hcut] at pca2
  have hcl := pca.1
  generalize playOf low most ts th ps = p at *
  refine ⟨fun z => (by cases z), fun _ => ⟨fun z => (by cases z), fun _ => ?_⟩⟩
  refine i3 (g := (low, (most, (td, (th, (pk, ())))))) pca (by omega) ((n2.arr.le hl2).le hl3) j2 j4 j5 (fun w at' hw ha hf => pf.begun j4 red (fun z q => hw z (show (td.len : Int) = 0 by rw [← htl, q]; rfl)) ha hf) ⟨fun z => (by cases z), fun _ => ?_⟩
  refine i6 (cut_spec pca (by omega) fun s h4 n4 => i7 (same_spec (pca2.le n4.le) n4.arr ?_ ?_))
  · have := pca2.1
    have := cutL_len (r : Int) p.calls
    omega
  · exact hQ _ (((n1.le.trans hl2).trans hl3).trans n4.le)
end Go.Mx
