/-
  What the laws of layer 21 ask for.
-/
import Derived.Test.YthkjfdbmkggemaaMxBh
set_option linter.unusedVariables false
set_option linter.unusedSimpArgs false
set_option linter.unusedSectionVars false
namespace Go.Mx

theorem lmod_spec : ModC law21_mod.M := by
  intro x n h Q h0 h1 hQ
  have hr := mod_rangeB (x := x) h0
  refine ⟨by omega, fun e => ?_, fun e => ?_⟩
  · have e : Int.tmod x n < 0 := of_decide_eq_true e
    rcases tmod_emodB x n h0 with ⟨_, q⟩ | ⟨q, _⟩
    · show Q (w64 (Int.tmod x n + n)) h
      rw [q, w64_of (by omega) (by omega)]; exact hQ
    · omega
  · have e : ¬ Int.tmod x n < 0 := of_decide_eq_false e
    rcases tmod_emodB x n h0 with ⟨q, _⟩ | ⟨_, q⟩
    · omega
    · show Q (Int.tmod x n) h
      rw [q]; exact hQ
def BoundC (c : Int → Int → Int → Heap → ((Int × Wait) → Heap → Prop) → Prop) : Prop := ∀ {size used room : Int} {h : Heap} {Q : (Int × Wait) → Heap → Prop}, Q (used % 17 + size % 9, (used % 17, (1 + room % 64, ()))) h → c size used room h Q

/-! ### few -/
def fewP (f : List AMv → List AMv) (ls : List (List AMv)) : List (List AMv) := if ls.length = 0 then [[]] else (ls.take 8).map fun l => f (l.take 1000)
theorem fewP_len {f : List AMv → List AMv} {ls : List (List AMv)} : 1 ≤ (fewP f ls).length ∧ (fewP f ls).length ≤ 8 := by
  unfold fewP
  split
  · decide
  · rw [List.length_map, List.length_take]; omega
theorem few0_spec {cg : Sl → Heap → (Sl → Heap → Prop) → Prop} {lists : Sl} {h : Heap} {ls : List (List AMv)} (hl : Arr2 h KMv lists ls) {Q : Sl → Heap → Prop} (hQ : ∀ t h', Arr2 h' KMv t (fewP id ls) → Go.Mx.le h h' → Q t h') : law21_few.M cg lists false h Q := by
  have hll := hl.len
  obtain ⟨sls, l1, l2, l3⟩ := hl
  refine Loop.up (min ls.length 8) (fun s => s.2.1) (fun i s g => ∃ els, New h g .sl s.1 els ∧ els.length = i ∧ ∀ (j : Nat) sl xs, els[j]? = some sl → (ls.map fun l => l.take 1000)[j]? = some xs → Arr h KMv sl xs) rfl ⟨[], New.nil h .sl, rfl, fun j sl xs e => by cases e⟩ ?_
  rintro i ⟨m, i', u⟩ g go hi hc ⟨els, n, el, ea⟩ hgo
  dsimp only at hc n; subst hc
  have ml := n.len
  have fin : ¬ i < min ls.length 8 → law21_few.j2 Q (m, ()) g := fun q => by
    obtain rfl : i = min ls.length 8 := by omega
    refine ⟨fun e => ?_, fun e => ?_⟩
    · have e : (m.len : Int) = 0 := of_decide_eq_true e
      have h0 : ls.length = 0 := by omega
      refine n.app3 rfl rfl (by omega) fun t h2 n2 x2 b2 => ?_
      have he : els = [] := List.length_eq_zero_iff.1 (by omega)
      subst he
      refine hQ t h2 ⟨[⟨none, 0, 0⟩], n2.arr, by unfold fewP; rw [if_pos h0]; rfl, fun j sl xs e1 e2 => ?_⟩ n2.le
      have e1' := List.mem_of_getElem? e1
      have e2' := List.mem_of_getElem? e2
      unfold fewP at e2'
      rw [if_pos h0] at e2'
      obtain rfl : sl = ⟨none, 0, 0⟩ := by simpa using e1'
      obtain rfl : xs = [] := by simpa using e2'
      exact ⟨rfl, Nat.le_refl _, rfl⟩
    · have e : ¬ (m.len : Int) = 0 := of_decide_eq_false e
      have h0 : ¬ ls.length = 0 := by omega
      refine hQ m g ⟨els, n.arr, by unfold fewP; rw [if_neg h0, List.length_map, List.length_take]; omega, fun j sl xs e1 e2 => ?_⟩ n.le
      have hj : j < min ls.length 8 := by have := (List.getElem?_eq_some_iff.1 e1).1; omega
      unfold fewP at e2
      rw [if_neg h0, List.map_take, List.getElem?_take, if_pos (by omega)] at e2
      exact (ea j sl xs e1 e2).le n.le
  refine ⟨fun e => ?_, fun e => ?_⟩
  · have e : (i : Int) < (lists.len : Int) := of_decide_eq_true e
    have hil : i < ls.length := by omega
    show law21_few.j7 cg lists false Q go (m, ((i : Int), u)) (decide ((i : Int) < 8), ()) g
    by_cases h8 : (i : Int) < 8
    · rw [decide_eq_true h8]
      refine ⟨fun _ => ?_, fun e => (by cases e)⟩
      refine ⟨⟨by dsimp only; omega, e⟩, (l1.le n.le).at (i := (i : Int)) (by omega) e rfl fun sl hsl => ?_⟩
      rw [Int.toNat_natCast] at hsl
      have hxi : ls[i]? = some ls[i] := by simp [hil]
      have lr := l3 i _ _ hsl hxi
      have last : ∀ sl', Arr h KMv sl' (ls[i].take 1000) → law21_few.j5 cg false go (m, ((i : Int), u)) (sl', ()) g := fun sl' a => by
        refine ⟨fun e => (by cases e), fun _ => ?_⟩
        refine n.app3 rfl rfl (by omega) fun t h2 n2 x2 b2 => ?_
        refine hgo (by omega) _ _ (by show w64 ((i : Int) + 1) = _; rw [w64_of] <;> omega) ⟨els ++ [sl'], n2, by rw [List.length_append, el]; rfl, fun j s xs e1 e2 => ?_⟩
        by_cases hj : j < i
        · rw [List.getElem?_append_left (by omega)] at e1
          exact ea j s xs e1 e2
        · have := (List.getElem?_eq_some_iff.1 e1).1
          rw [List.length_append, el] at this
          obtain rfl : j = i := by simp at this; omega
          rw [List.getElem?_append_right (by omega), el, Nat.sub_self] at e1
          obtain rfl : sl' = s := by simpa using e1
          rw [List.getElem?_map, hxi] at e2
          cases e2
          exact a
      have lrl := lr.1
      refine ⟨fun d => ?_, fun d => ?_⟩
      · have d : (1000 : Int) < (sl.len : Int) := of_decide_eq_true d
        have lc := lr.2.1
        exact ⟨⟨by omega, by omega⟩, last _ (lr.pre (by show 1000 ≤ sl.len; omega))⟩
      · have d : ¬ (1000 : Int) < (sl.len : Int) := of_decide_eq_false d
        exact last _ (by rw [List.take_of_length_le (by omega)]; exact lr)
    · rw [decide_eq_false h8]
      exact ⟨fun e => (by cases e), fun _ => fin (by omega)⟩
  · have e : ¬ (i : Int) < (lists.len : Int) := of_decide_eq_false e
    exact ⟨fun e => (by cases e), fun _ => fin (by omega)⟩

/-! ### progress -/
theorem progress_spec {cm : Int → Int → Heap → (Int → Heap → Prop) → Prop} (iM : ModC cm) {r : Den KRun} {l picks : Sl} {h : Heap} {ls : List (List AMv)} {ps : List Int} {esl : List Sl} {s0 : PB} (hl : Arr2 h KMv l ls) (hp : Arr h ki picks ps) (he : Arr h .sl r.1 esl) (hn1 : 1 ≤ ls.length) (hn8 : ls.length ≤ 8) (hnp : ps.length ≤ 1048576) (h4 : ∀ x ∈ ls, x.length ≤ 4096)
    (ok0 : s0.Ok ls 0) (he0 : s0.e = List.replicate ls.length []) (hel : esl.length = ls.length) (hr : ∀ (i : Nat) sl, esl[i]? = some sl → sl.len = ((PB.run ls s0 ps).e.getD i []).length) {Q : Bool → Heap → Prop} (hQ : ∀ h', Go.Mx.le h h' → Q true h') : law21_progress.M cm r l picks h Q := by
  have hll := hl.len
  have hpl := hp.1
  obtain ⟨sls, l1, l2, l3⟩ := hl
  refine make_new (by omega) (Int.le_refl _) (by show ((8 : Nat) : Int) * (l.len : Int) ≤ _; omega) (by show (l.len : Int) ≤ _; omega) fun d h1 n1 dl1 dc1 da1 => ?_
  rw [Int.toNat_natCast, hll] at n1
  refine Loop.up ps.length (fun s => s.1) (fun j _ g => New h g ki d ((List.range ls.length).map fun i => (((PB.run ls s0 (ps.take j)).e.getD i []).length : Int))) rfl ?_ ?_
  · have : (List.range ls.length).map (fun i => (((PB.run ls s0 (ps.take 0)).e.getD i []).length : Int)) = List.replicate ls.length (0 : Int) := by
      rw [List.eq_replicate_iff]
      refine ⟨by simp, fun b hb => ?_⟩
      obtain ⟨i, _, rfl⟩ := List.mem_map.1 hb
      show (((s0.e.getD i []).length : Nat) : Int) = 0
      rw [he0, getD_rep]; rfl
    rw [this]
    exact n1
  rintro j ⟨j', u⟩ g go hj hc n hgo
  dsimp only at hc; subst hc
  have okj : (PB.run ls s0 (ps.take j)).Ok ls 80000000 := (ok0.run (ps.take j)).mono (by have := List.length_take_le j ps; omega)
  have dl := n.len
  rw [List.length_map, List.length_range] at dl
  refine ⟨fun e => ?_, fun e => ?_⟩
  · have e : (j : Int) < (picks.len : Int) := of_decide_eq_true e
    have hjt : j < ps.length := by omega
    have hrun := run_succ (s := s0) (ls := ls) hjt
    generalize PB.run ls s0 (ps.take j) = st at n okj hrun
    refine ⟨⟨by omega, e⟩, (hp.le n.le).at (by omega) e rfl fun p hp' => ?_⟩
    rw [Int.toNat_natCast] at hp'
    obtain rfl : ps[j] = p := by simpa [hjt] using hp'
    have hw2 : w64 (2 * (l.len : Int)) = 2 * (ls.length : Int) := by rw [w64_of] <;> omega
    show cm ps[j] (w64 (2 * (l.len : Int))) g _
    rw [hw2]
    refine iM (by omega) (by omega) ?_
    have hr := mod_rangeB (x := ps[j]) (n := 2 * (ls.length : Int)) (by omega)
    obtain ⟨k, hk⟩ := Int.eq_ofNat_of_zero_le hr.1
    rw [hk] at hr ⊢
    have hkt : (ps[j] % (2 * (ls.length : Int))).toNat = k := by rw [hk]; rfl
    have next : w64 ((j : Int) + 1) = ((j + 1 : Nat) : Int) := by rw [w64_of] <;> omega
    have sl := step_len okj hkt
    have er := okj.er k
    have el4 := getD_le h4 k
    have idle : ¬ (k < ls.length ∧ (st.e.getD k []).length < (ls.getD k []).length) → New h g ki d ((List.range ls.length).map fun i => (((PB.run ls s0 (ps.take (j + 1))).e.getD i []).length : Int)) := fun q => by
      have : (List.range ls.length).map (fun i => (((PB.run ls s0 (ps.take (j + 1))).e.getD i []).length : Int)) = (List.range ls.length).map fun i => ((st.e.getD i []).length : Int) := by
        refine List.map_congr_left fun i _ => ?_
        rw [hrun, sl i, if_neg (fun p => q ⟨p.2.1, p.2.2⟩)]
      rw [this]; exact n
    refine ⟨fun f => ?_, fun f => ?_⟩
    · have f : (k : Int) < (l.len : Int) := of_decide_eq_true f
      have hkl : k < ls.length := by omega
      obtain ⟨da, dn, dc⟩ := d
      dsimp only at dl
      cases da with
      | none => exact absurd rfl da1
      | some da =>
      obtain ⟨la, ln, lc⟩ := l
      dsimp only at hll f
      cases la with
      | none => obtain ⟨a, e⟩ := l1.addr (by dsimp only; omega); cases e
      | some la =>
      have hli : sls[k]? = some (sls[k]'(by omega)) := by simp
      have hxi : ls[k]? = some ls[k] := by simp
      have gl : ls.getD k [] = ls[k] := by rw [List.getD_eq_getElem?_getD, hxi]; rfl
      have xl := (l3 k _ _ hli hxi).1
      have hdk : ((List.range ls.length).map fun i => ((st.e.getD i []).length : Int))[k]? = some ((st.e.getD k []).length : Int) := by simp [hkl]
      refine ⟨⟨by omega, by dsimp only; omega⟩, ⟨by omega, by dsimp only; omega⟩, n.arr.atA (i := (k : Int)) (by omega) (by omega) rfl fun x hx => (l1.le n.le).atA (i := (k : Int)) (by omega) (by omega) rfl fun y hy => ?_⟩
      rw [Int.toNat_natCast, hdk] at hx
      cases hx
      rw [Int.toNat_natCast, hli] at hy
      cases hy
      by_cases q : (((st.e.getD k []).length : Nat) : Int) < (((sls[k]'(by omega)).len : Nat) : Int)
      · rw [decide_eq_true q]
        refine ⟨fun _ => ?_, fun e => (by cases e)⟩
        refine ⟨⟨by omega, by dsimp only; omega⟩, n.arr.atA (i := (k : Int)) (by omega) (by omega) rfl fun x hx => ⟨⟨by omega, by dsimp only; omega⟩, ?_⟩⟩
        rw [Int.toNat_natCast, hdk] at hx
        cases hx
        refine n.stAt rfl (i := k) (by simp [hkl]) rfl rfl fun h2 n2 x2 => hgo hjt _ _ next ?_
        have : ((List.range ls.length).map fun i => ((st.e.getD i []).length : Int)).set k (w64 (((st.e.getD k []).length : Int) + 1)) = (List.range ls.length).map fun i => (((PB.run ls s0 (ps.take (j + 1))).e.getD i []).length : Int) := by
          refine List.ext_getElem (by simp) fun i h1 h2 => ?_
          rw [List.getElem_set, List.getElem_map, List.getElem_map, List.getElem_range, hrun, sl i]
          by_cases c : k = i
          · subst c
            rw [if_pos rfl, if_pos ⟨rfl, hkl, by rw [gl]; omega⟩, w64_of (by omega) (by omega)]; rfl
          · rw [if_neg c, if_neg (fun p => c p.1.symm)]
        rw [this] at n2
        exact n2
      · rw [decide_eq_false q]
        exact ⟨fun e => (by cases e), fun _ => hgo hjt _ _ next (idle fun p => q (by have := p.2; rw [gl] at this; omega))⟩
    · have f : ¬ (k : Int) < (l.len : Int) := of_decide_eq_false f
      exact ⟨fun e => (by cases e), fun _ => hgo hjt _ _ next (idle (by omega))⟩
  · have e : ¬ (j : Int) < (picks.len : Int) := of_decide_eq_false e
    rw [List.take_of_length_le (by omega)] at n okj
    generalize PB.run ls s0 ps = st at n okj hr
    refine Loop.up ls.length (fun s => s.1) (fun k _ g' => g' = g) rfl rfl ?_
    rintro k ⟨k', u'⟩ g' go' hk hc rfl hgo'
    dsimp only at hc; subst hc
    refine ⟨fun e => ?_, fun _ => hQ g' n.le⟩
    have e : (k : Int) < (l.len : Int) := of_decide_eq_true e
    have hkl : k < ls.length := by omega
    have hel1 := he.1
    obtain ⟨da, dn, dc⟩ := d
    dsimp only at dl
    cases da with
    | none => exact absurd rfl da1
    | some da =>
    obtain ⟨⟨ra, rn, rc⟩, rr⟩ := r
    dsimp only at he hel1
    cases ra with
    | none => obtain ⟨a, e⟩ := he.addr (by dsimp only; omega); cases e
    | some ra =>
    have hdk : ((List.range ls.length).map fun i => ((st.e.getD i []).length : Int))[k]? = some ((st.e.getD k []).length : Int) := by simp [hkl]
    refine ⟨⟨by omega, by dsimp only; omega⟩, ⟨by omega, by dsimp only; omega⟩, (he.le n.le).atA (i := (k : Int)) (by omega) (by omega) rfl fun x hx => n.arr.atA (i := (k : Int)) (by omega) (by omega) rfl fun y hy => ?_⟩
    rw [Int.toNat_natCast] at hx
    rw [Int.toNat_natCast, hdk] at hy
    cases hy
    have := hr k x hx
    refine ⟨fun d => absurd (of_decide_eq_true d) (by omega), fun _ => hgo' hkl _ _ (by show w64 ((k : Int) + 1) = _; rw [w64_of] <;> omega) rfl⟩

end Go.Mx
