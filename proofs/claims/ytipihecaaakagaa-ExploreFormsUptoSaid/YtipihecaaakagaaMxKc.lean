/-
  slices.Sort of a short list.
-/
import Derived.Test.YtipihecaaakagaaMxFe
set_option linter.unusedVariables false
set_option linter.unusedSimpArgs false
set_option linter.unusedSectionVars false
namespace Go.Mx

theorem dcs {p : Prop} [Decidable p] {A B : Prop} (h1 : p → A) (h2 : ¬ p → B) : (decide p = true → A) ∧ (decide p = false → B) := ⟨fun e => h1 (of_decide_eq_true e), fun e => h2 (of_decide_eq_false e)⟩
theorem bcs {b : Bool} {A B : Prop} (h1 : b = true → A) (h2 : b = false → B) : (b = true → A) ∧ (b = false → B) := ⟨h1, h2⟩

theorem len64_spec {x : Int} (h0 : 0 ≤ x) (h1 : x < 256) {h : Heap} {Q : Int → Heap → Prop} (hQ : ∀ n, Q n h) : math_bits_Len64.M x h Q := by
  refine dcs (fun e => by omega) fun _ => dcs (fun e => ?_) fun _ => dcs (fun e => ?_) fun _ => ?_
  · have e : (65536 : Int) ≤ x := e
    omega
  · have e : (256 : Int) ≤ x := e
    omega
  · have w : IntKind.wrap .u8 x = x := by simp [IntKind.wrap, IntKind.bits, IntKind.signed]; omega
    show (0 ≤ IntKind.wrap .u8 x ∧ IntKind.wrap .u8 x < (256 : Int)) ∧ _
    rw [w]
    exact ⟨⟨h0, h1⟩, fun b => hQ _⟩
theorem less_spec {x y : Int} {h : Heap} {c1 : Int → Heap → (Bool → Heap → Prop) → Prop} (i1 : ∀ {a h Q}, cmp_isNaN_int.M a h Q → c1 a h Q) {Q : Bool → Heap → Prop} (hQ : Q (decide (x < y)) h) : cmp_Less_int.M c1 x y h Q := by
  refine i1 ?_
  show (decide (x ≠ x) = true → _) ∧ (decide (x ≠ x) = false → _)
  exact dcs (fun e => absurd rfl e) fun _ => hQ

/-- Two elements are read. -/
theorem Arr.two {h : Heap} {s : Sl} {xs : List Int} (c : Arr h ki s xs) {i j : Int} (i0 : 0 ≤ i) (i1 : i < (s.len : Int)) (j0 : 0 ≤ j) (j1 : j < (s.len : Int)) {K : Int → Int → Prop} (hK : ∀ x y, xs[i.toNat]? = some x → xs[j.toNat]? = some y → K x y) :
    (0 ≤ i ∧ i < (s.len : Int)) ∧ deref s.a fun a => (0 ≤ j ∧ j < (s.len : Int)) ∧ deref s.a fun b => ld ki h (a.add (i.toNat * 1)) fun x => ld ki h (b.add (j.toNat * 1)) fun y => K x y := by
  refine ⟨⟨i0, i1⟩, ?_⟩
  have q1 := c.at (K := fun x => xs[i.toNat]? = some x) i0 i1 (sz := 1) rfl fun x hx => hx
  have q2 := c.at (K := fun x => xs[j.toNat]? = some x) j0 j1 (sz := 1) rfl fun x hx => hx
  revert q1 q2
  cases s.a with
  | none => intro q1; exact q1.elim
  | some a =>
    intro ⟨x, a1, a2⟩ ⟨y, b1, b2⟩
    exact ⟨⟨j0, j1⟩, x, a1, y, b1, hK x y a2 b2⟩

theorem list_split {A B : List Int} {x y : Int} : (A ++ y :: x :: B)[A.length + 1]? = some x ∧ (A ++ y :: x :: B)[A.length]? = some y ∧ ((A ++ y :: x :: B).set (A.length + 1) y).set A.length x = A ++ x :: y :: B := by
  refine ⟨by rw [List.getElem?_append_right (by omega)]; simp, by rw [List.getElem?_append_right (by omega)]; simp, ?_⟩
  rw [List.set_append_right _ _ (by omega), List.set_append_right _ _ (by omega)]
  simp

theorem insert_spec {h0 h : Heap} {s : Sl} {xs : List Int} (o : New h0 h ki s xs) (hn : xs.length ≤ 1000000) {c1 : Int → Int → Heap → (Bool → Heap → Prop) → Prop} (i1 : ∀ {x y : Int} {h : Heap} {Q : Bool → Heap → Prop}, Q (decide (x < y)) h → c1 x y h Q)
    {Q : Unit → Heap → Prop} (hQ : ∀ ys h', New h0 h' ki s ys → ys.Perm xs → ys.Pairwise (· ≤ ·) → Ext (blkOf s) h h' → Q () h') : slices_insertionSortOrdered_int.M c1 s 0 (s.len : Int) h Q := by
  have hl := o.len
  refine Loop.up (s.len - 1) (fun st => st.1 - 1) (fun i st k => ∃ ys, New h0 k ki s ys ∧ ys.Perm xs ∧ (ys.take (i + 1)).Pairwise (· ≤ ·) ∧ Ext (blkOf s) h k) rfl ⟨xs, o, .refl _, ?_, .refl _ _⟩ ?_
  · cases xs with
    | nil => exact .nil
    | cons x xs => exact .cons (fun y hy => by cases hy) .nil
  rintro i ⟨i', u⟩ k go hi hc ⟨ys, n, hp, hs, hx⟩ hgo
  have hc : i' - 1 = (i : Int) := hc
  have hc : i' = (i : Int) + 1 := by omega
  subst hc
  have hyl := hp.length_eq
  refine dcs (fun e => ?_) (fun e => ?_)
  · have e : (i : Int) + 1 < (s.len : Int) := e
    have hil : i + 1 < ys.length := by omega
    -- the element is brought to its place
    have hsp : ys = ys.take (i + 1) ++ ys[i + 1] :: ys.drop (i + 2) := by rw [← List.drop_eq_getElem_cons, List.take_append_drop]
    refine Loop.up (i + 1) (fun st => (i : Int) + 1 - st.1) (fun j st k' => ∃ A x B, A.length + j = i + 1 ∧ B.length = j ∧ New h0 k' ki s (A ++ x :: (B ++ ys.drop (i + 2))) ∧ (A ++ x :: (B ++ ys.drop (i + 2))).Perm xs ∧ (A ++ B).Pairwise (· ≤ ·) ∧ (∀ b ∈ B, x < b) ∧ Ext (blkOf s) h k')
      (show (i : Int) + 1 - ((i : Int) + 1) = 0 by omega) ⟨ys.take (i + 1), ys[i + 1], [], by rw [List.length_take]; omega, rfl, by rw [List.nil_append, ← hsp]; exact n, by rw [List.nil_append, ← hsp]; exact hp, by rw [List.append_nil]; exact hs, fun b hb => (by cases hb), hx⟩ ?_
    rintro j ⟨j', u2⟩ k' go2 hj hcj ⟨A, x, B, a1, a2, a3, a4, a5, a6, a7⟩ hgo2
    have hcj : (i : Int) + 1 - j' = (j : Int) := hcj
    have hj' : j' = (A.length : Int) := by omega
    subst hj'
    have a3l := a3.len
    rw [List.length_append, List.length_cons] at a3l
    have hw1 : A.length ≠ 0 → w64 ((A.length : Int) - 1) = ((A.length - 1 : Nat) : Int) := fun z => by rw [w64_of] <;> omega
    have stop : (A ++ x :: B).Pairwise (· ≤ ·) → slices_insertionSortOrdered_int.j1 go ((i : Int) + 1, u) () k' := fun hsrt => by
      have hlt : i < s.len - 1 := by omega
      refine hgo hlt _ _ (show w64 ((i : Int) + 1 + 1) - 1 = _ by rw [w64_of] <;> omega) ⟨_, a3, a4, ?_, a7⟩
      rw [show A ++ x :: (B ++ ys.drop (i + 2)) = (A ++ x :: B) ++ ys.drop (i + 2) by simp, List.take_append_of_le_length (by rw [List.length_append, List.length_cons]; omega), List.take_of_length_le (by rw [List.length_append, List.length_cons]; omega)]
      exact hsrt
    have hin : (A ++ x :: B).Pairwise (· ≤ ·) ↔ (∀ a ∈ A, a ≤ x) := by
      rw [List.pairwise_append] at a5
      obtain ⟨p1, p2, p3⟩ := a5
      rw [List.pairwise_append]
      constructor
      · exact fun q a ha => q.2.2 a ha x (by simp)
      · intro q
        refine ⟨p1, List.pairwise_cons.2 ⟨fun b hb => Int.le_of_lt (a6 b hb), p2⟩, fun a ha b hb => ?_⟩
        rcases List.mem_cons.1 hb with rfl | hb
        · exact q a ha
        · exact p3 a ha b hb
    refine dcs (fun e2 => ?_) (fun e2 => ⟨fun z => (by cases z), fun _ => stop ?_⟩)
    · have e2 : (0 : Int) < (A.length : Int) := e2
      have hA : A.length ≠ 0 := by omega
      have hA' : A ≠ [] := fun z => hA (by rw [z]; rfl)
      obtain ⟨A', y, rfl⟩ : ∃ A' y, A = A' ++ [y] := ⟨A.dropLast, A.getLast hA', (List.dropLast_concat_getLast hA').symm⟩
      have hAl : (A' ++ [y]).length = A'.length + 1 := by simp
      rw [hAl] at a1 a3l e2 ⊢
      have w1 : w64 (((A'.length + 1 : Nat) : Int) - 1) = (A'.length : Int) := by rw [w64_of] <;> omega
      obtain ⟨l1, l2, l3⟩ := list_split (A := A') (B := B ++ ys.drop (i + 2)) (x := x) (y := y)
      have e0 : (A' ++ [y]) ++ x :: (B ++ ys.drop (i + 2)) = A' ++ y :: x :: (B ++ ys.drop (i + 2)) := by simp
      rw [e0] at a3 a4
      show (0 ≤ ((A'.length + 1 : Nat) : Int) ∧ _) ∧ deref s.a fun a25 => (0 ≤ w64 (((A'.length + 1 : Nat) : Int) - 1) ∧ _) ∧ _
      rw [w1]
      refine a3.arr.two (by omega) (by omega) (by omega) (by omega) fun p q hp1 hq1 => ?_
      rw [Int.toNat_natCast] at hp1 hq1
      rw [l1] at hp1; cases hp1
      rw [l2] at hq1; cases hq1
      refine i1 (bcs (fun z => ?_) (fun z => stop ?_))
      · have z : x < y := of_decide_eq_true z
        show (0 ≤ w64 (((A'.length + 1 : Nat) : Int) - 1) ∧ _) ∧ _
        rw [w1]
        refine a3.arr.two (by omega) (by omega) (by omega) (by omega) fun p q hp1 hq1 => ?_
        rw [Int.toNat_natCast] at hp1 hq1
        rw [l2] at hp1; cases hp1
        rw [l1] at hq1; cases hq1
        refine ⟨⟨by omega, show ((A'.length + 1 : Nat) : Int) < _ by omega⟩, a3.set (i := ((A'.length + 1 : Nat) : Int)) (by omega) (by omega) rfl rfl fun h2 n2 x2 => ?_⟩
        rw [Int.toNat_natCast] at n2
        refine ⟨⟨by omega, by omega⟩, n2.set (i := (A'.length : Int)) (by omega) (by omega) rfl rfl fun h3 n3 x3 => ?_⟩
        rw [Int.toNat_natCast, l3] at n3
        refine hgo2 (by omega) _ _ (show (i : Int) + 1 - (A'.length : Int) = ((j + 1 : Nat) : Int) by omega) ⟨A', x, y :: B, by omega, by simp [a2], n3, ?_, ?_, fun b hb => ?_, (a7.trans x2).trans x3⟩
        · refine List.Perm.trans (List.Perm.append_left A' ?_) a4
          exact List.Perm.swap _ _ _
        · rw [show A' ++ y :: B = (A' ++ [y]) ++ B by simp]; exact a5
        · rcases List.mem_cons.1 hb with rfl | hb
          · exact z
          · exact a6 b hb
      · have z : ¬ x < y := of_decide_eq_false z
        rw [hin]
        intro a ha
        rw [List.pairwise_append] at a5
        rcases List.mem_append.1 ha with ha | ha
        · have := (List.pairwise_append.1 a5.1).2.2 a ha y (by simp)
          omega
        · have : a = y := by simpa using ha
          omega
    · have e2 : ¬ (0 : Int) < (A.length : Int) := e2
      have : A = [] := List.eq_nil_of_length_eq_zero (by omega)
      rw [hin, this]
      exact fun a ha => by cases ha
  · have e : ¬ ((i : Int) + 1 < (s.len : Int)) := e
    rw [List.take_of_length_le (by omega)] at hs
    exact hQ ys k n hp hs hx
/-- A list of at most twelve is sorted. -/
theorem sort_spec {h0 h : Heap} {s : Sl} {xs : List Int} (o : New h0 h ki s xs) (hn : xs.length ≤ 12)
    {c1 : Int → Heap → (Int → Heap → Prop) → Prop} {d1 : Sl → Int → Int → Int → Heap → (Unit → Heap → Prop) → Prop} (i1 : ∀ {x : Int} {h : Heap} {Q : Int → Heap → Prop}, 0 ≤ x → x < 256 → (∀ n, Q n h) → c1 x h Q)
    (j1 : ∀ {n : Int} {h : Heap} {ys : List Int} {Q : Unit → Heap → Prop}, New h0 h ki s ys → ys.length ≤ 12 → (∀ zs h', New h0 h' ki s zs → zs.Perm ys → zs.Pairwise (· ≤ ·) → Ext (blkOf s) h h' → Q () h') → d1 s 0 (s.len : Int) n h Q)
    {Q : Unit → Heap → Prop} (hQ : ∀ ys h', New h0 h' ki s ys → ys.Perm xs → ys.Pairwise (· ≤ ·) → Ext (blkOf s) h h' → Q () h') : slices_Sort_int_int.M c1 d1 s h Q := by
  have hl := o.len
  have w : IntKind.wrap .u64 (s.len : Int) = (s.len : Int) := by simp [IntKind.wrap, IntKind.bits, IntKind.signed]; omega
  show c1 (IntKind.wrap .u64 (s.len : Int)) h _
  rw [w]
  exact i1 (by omega) (by omega) fun n => j1 o hn hQ
theorem Loop.once {σ : Type} {body : (σ → Heap → Prop) → σ → Heap → Prop} {s : σ} {h : Heap} (H : ∀ go, body go s h) : Loop body s h :=
  ⟨fun s' h' => s' = s ∧ h' = h, fun _ _ => 0, ⟨rfl, rfl⟩, by rintro _ _ ⟨rfl, rfl⟩; exact H _⟩
theorem pdq_spec {s : Sl} {n : Int} {h : Heap} (hl : s.len ≤ 12) {c1 c2 c3 : Sl → Int → Int → Heap → (Unit → Heap → Prop) → Prop} {c4} {c5} {c6} {c7} {c8} {c9} {c10}
    {Q : Unit → Heap → Prop} (H : c1 s 0 (s.len : Int) h fun _ h' => Q () h') : slices_pdqsortOrdered_int.M c1 c2 c3 c4 c5 c6 c7 c8 c9 c10 s 0 (s.len : Int) n h Q := by
  refine Loop.once fun go => ?_
  have w : w64 ((s.len : Int) - 0) = (s.len : Int) := by rw [w64_of] <;> omega
  refine dcs (fun _ => H) (fun e => absurd ?_ e)
  show w64 ((s.len : Int) - 0) ≤ 12
  rw [w]; omega
end Go.Mx
