/-
  What the functions of HistCut come to: specs in plain Lean.
-/
import Derived.Test.YtanfmmcpjifgiaaMxOb
import Derived.Test.YtanfmmcpjifgiaaMd
set_option linter.unusedVariables false
set_option linter.unusedSimpArgs false
namespace Go.Mx

abbrev Cl := Den kapiCall
def cut1 (pick : Int) (c : Cl) : List Cl :=
  if pick ≤ c.2.2.2.1 then [] else if pick ≤ c.2.2.2.2.1 then [(c.1, (c.2.1, (c.2.2.1, (c.2.2.2.1, ((-1), (0, (0, ())))))))] else [c]
def cutL (pick : Int) (xs : List Cl) : List Cl := xs.flatMap (cut1 pick)


theorem cutL_len (pick : Int) (xs : List Cl) : (cutL pick xs).length ≤ xs.length := by
  unfold cutL
  induction xs with
  | nil => simp
  | cons x xs ih =>
    rw [List.flatMap_cons, List.length_append, List.length_cons]
    have : (cut1 pick x).length ≤ 1 := by
      unfold cut1
      by_cases a : pick ≤ x.2.2.2.1
      · rw [if_pos a]; exact Nat.zero_le _
      · rw [if_neg a]
        by_cases b : pick ≤ x.2.2.2.2.1
        · rw [if_pos b]; exact Nat.le_refl _
        · rw [if_neg b]; exact Nat.le_refl _
    exact Nat.le_trans (Nat.add_le_add this ih) (Nat.le_of_eq (Nat.add_comm _ _))

theorem cut_spec {calls : Sl} {pick : Int} {h : Heap} {xs : List Cl} (ha : Arr h kapiCall calls xs) (hn : calls.len ≤ 2097152) {Q : Sl → Heap → Prop}
    (hQ : ∀ r h', New h h' kapiCall r (cutL pick xs) → Q r h') : hist_Cut.M calls pick h Q := by
  refine Loop.up calls.len (fun s => s.2.1) (fun i s h' => New h h' kapiCall s.1 (cutL pick (xs.take i))) rfl (New.nil h _) ?_
  rintro i ⟨acc, j, u⟩ h' go hi hc hN hgo
  dsimp only at hc hN; subst hc
  have hw : i < calls.len → w64 ((i : Int) + 1) = ((i + 1 : Nat) : Int) := fun _ => by rw [w64_of] <;> omega
  refine ⟨fun c => ?_, fun c => ?_⟩
  · have c : (i : Int) < (calls.len : Int) := of_decide_eq_true c
    have c' : i < calls.len := by omega
    refine ⟨⟨Int.natCast_nonneg i, c⟩, (ha.le hN.le).at (Int.natCast_nonneg i) c rfl ?_⟩
    intro x hx
    have hs : cutL pick (xs.take (i + 1)) = cutL pick (xs.take i) ++ cut1 pick x := by
      have hlt : i < xs.length := by rw [ha.1]; exact c'
      have e : xs[i] = x := by simpa [hlt] using hx
      rw [take_succ' xs hlt, e]; simp [cutL]
    have hacc : acc.len ≤ calls.len := by
      rw [← hN.len]
      have := cutL_len pick (xs.take i)
      rw [List.length_take] at this
      omega
    refine ⟨fun d => ?_, fun d => ⟨fun e => ?_, fun e => ?_⟩⟩
    · refine hgo c' _ _ (hw c') ?_
      dsimp only
      have d : pick ≤ x.2.2.2.1 := of_decide_eq_true d
      rw [hs, cut1, if_pos d, List.append_nil]; exact hN
    · have d : ¬ pick ≤ x.2.2.2.1 := of_decide_eq_false d
      have e : pick ≤ x.2.2.2.2.1 := of_decide_eq_true e
      rw [cut1, if_neg d, if_pos e] at hs
      refine hN.app rfl rfl (by omega) fun t h'' hN' => hgo c' _ _ (hw c') ?_
      rw [hs]; exact hN'
    · have d : ¬ pick ≤ x.2.2.2.1 := of_decide_eq_false d
      have e : ¬ pick ≤ x.2.2.2.2.1 := of_decide_eq_false e
      rw [cut1, if_neg d, if_neg e] at hs
      refine hN.app rfl rfl (by omega) fun t h'' hN' => hgo c' _ _ (hw c') ?_
      rw [hs]; exact hN'
  · have c : ¬ (i : Int) < (calls.len : Int) := of_decide_eq_false c
    refine hQ _ _ ?_
    rw [List.take_of_length_le (by rw [ha.1]; omega)] at hN
    exact hN

theorem rcut_spec {calls : Sl} {pick : Int} {h : Heap} {xs : List Cl} (ha : Arr h kapiCall calls xs) (hn : calls.len ≤ 2097152) {Q : Sl → Heap → Prop}
    (hQ : ∀ r h', New h h' kapiCall r (cutL pick xs) → Q r h') : ref4_Cut.M calls pick h Q := cut_spec ha hn hQ

def mark : Cl := ((-77), (0, (0, (0, (0, (0, (0, ())))))))
def moved1 (c : Cl) : Cl := (c.1, (c.2.1, (c.2.2.1, ((w64 (c.2.2.2.1 - 1)), (c.2.2.2.2.1, (c.2.2.2.2.2.1, ((w64 (c.2.2.2.2.2.2.1 + 1)), ())))))))

/-- A slice of xs, with one hidden element behind it. -/
structure Bay (h0 h : Heap) (s : Sl) (xs : List Cl) : Prop where
  own : Own h kapiCall s (xs ++ [mark])
  len : xs.length = s.len
  cap : s.len + 1 ≤ s.cap
  le : le h0 h
  new : ∀ b, blkOf s b → h0 b = none

theorem moved_spec {calls : Sl} {h : Heap} {xs : List Cl} (ha : Arr h kapiCall calls xs) (hn : calls.len ≤ 2097152) {Q : Sl → Heap → Prop}
    (hQ : ∀ r h', Bay h h' r (xs.map moved1) → Q r h') : law4_moved.M calls h Q := by
  refine Loop.up calls.len (fun s => s.2.1) (fun i s h' => New h h' kapiCall s.1 ((xs.take i).map moved1)) rfl (New.nil h _) ?_
  rintro i ⟨acc, j, u⟩ h' go hi hc hN hgo
  dsimp only at hc hN; subst hc
  have hal : acc.len = i := by
    rw [← hN.len, List.length_map, List.length_take, ha.1]; omega
  refine ⟨fun c => ?_, fun c => ?_⟩
  · have c : (i : Int) < (calls.len : Int) := of_decide_eq_true c
    have c' : i < calls.len := by omega
    refine ⟨⟨Int.natCast_nonneg i, c⟩, (ha.le hN.le).at (Int.natCast_nonneg i) c rfl ?_⟩
    intro x hx
    have hs : (xs.take (i + 1)).map moved1 = (xs.take i).map moved1 ++ [moved1 x] := by
      have hlt : i < xs.length := by rw [ha.1]; exact c'
      have e : xs[i] = x := by simpa [hlt] using hx
      rw [take_succ' xs hlt, e]; simp
    refine hN.app rfl rfl (by omega) fun t h'' hN' => hgo c' _ _ (by show w64 ((i : Int) + 1) = _; rw [w64_of] <;> omega) ?_
    rw [hs]; exact hN'
  · have c : ¬ (i : Int) < (calls.len : Int) := of_decide_eq_false c
    have hi : i = calls.len := by omega
    subst hi
    rw [List.take_of_length_le (by rw [ha.1]; omega)] at hN
    refine hN.app rfl rfl (by omega) fun t h'' hN' => ?_
    have hcap : calls.len + 1 ≤ t.cap := by
      have hl := hN'.len
      rcases hN'.own with ⟨_, e⟩ | ⟨b, e1, e2, e3, _⟩
      · simp at e
      · rw [List.length_append, List.length_map, ha.1] at e3; simpa using e3
    refine ⟨⟨by omega, by omega⟩, hQ _ _ ?_⟩
    have hlo : ¬ t.cap = 0 := by omega
    have ecut : t.cut 0 (((calls.len : Int) : Int).toNat) 7 = ⟨t.a, calls.len, t.cap⟩ := by
      unfold Sl.cut
      rw [if_neg hlo]
      congr 1
      cases t.a with
      | none => rfl
      | some a => show some (a.add (0 * 7)) = _; rw [Nat.zero_mul]; rfl
    rw [ecut]
    refine ⟨?_, by rw [List.length_map, ha.1], hcap, hN'.le, hN'.new⟩
    rcases hN'.own with ⟨_, e⟩ | ⟨b, e1, e2, e3, e4⟩
    · simp at e
    · exact .inr ⟨b, e1, by dsimp only; simp [ha.1], e3, e4⟩

theorem same_spec {a b : Sl} {h : Heap} {xs : List Cl} (ha : Arr h kapiCall a xs) (hb : Arr h kapiCall b xs) (hn : a.len ≤ 2097152) {Q : Bool → Heap → Prop} (hQ : Q true h) : law4_same.M a b h Q := by
  have hl : a.len = b.len := by rw [← ha.1, ← hb.1]
  refine ⟨fun c => absurd (of_decide_eq_true c) (by omega), fun _ => ?_⟩
  refine Loop.up a.len (fun s => s.1) (fun i s h' => h' = h) rfl rfl ?_
  rintro i ⟨j, u⟩ h' go hi hc hN hgo
  dsimp only at hc; subst hc; subst hN
  refine ⟨fun c => ?_, fun c => hQ⟩
  have c : (i : Int) < (a.len : Int) := of_decide_eq_true c
  have c' : i < a.len := by omega
  refine ⟨⟨Int.natCast_nonneg i, c⟩, ?_⟩
  obtain ⟨aa, an, am⟩ := a
  cases aa with
  | none => have := ha.2.2; dsimp only at this c'; omega
  | some aa =>
  refine ⟨⟨by omega, by omega⟩, ?_⟩
  obtain ⟨ba, bn, bm⟩ := b
  cases ba with
  | none => have := hb.2.2; dsimp only at this hl c'; omega
  | some ba =>
  have hlt : i < xs.length := by rw [ha.1]; exact c'
  refine ⟨xs[i], cellsAt_el ha.2.2 (by simp [hlt]), xs[i], cellsAt_el hb.2.2 (by simp [hlt]), fun d => ?_, fun d => ?_⟩
  · rw [eqK_refl _ _ rfl] at d; cases d
  · exact hgo c' _ _ (by show w64 ((i : Int) + 1) = _; rw [w64_of] <;> omega) rfl

theorem Bay.arr {h0 h : Heap} {s : Sl} {xs : List Cl} (o : Bay h0 h s xs) : Arr h kapiCall s xs := by
  have := o.own.arr
  rwa [← o.len, List.take_left' rfl] at this

theorem Own.bay {h : Heap} {s : Sl} {xs : List Cl} (o : Own h kapiCall s (xs ++ [mark])) (e : xs.length = s.len) : Arr h kapiCall s xs := by
  have := o.arr
  rwa [← e, List.take_left' rfl] at this

theorem back_spec {l calls : Sl} {h0 h : Heap} {xs ys : List Cl} (ha : Arr h0 kapiCall calls xs) (hn : calls.len ≤ 2097152) (hl : Bay h0 h l ys) (he : xs.length = ys.length) {Q : Unit → Heap → Prop}
    (hQ : ∀ h', Bay h0 h' l xs → Ext (blkOf l) h h' → Q () h') : law4_back.M l calls h Q := by
  have hle : calls.len = l.len := by rw [← ha.1, ← hl.len, he]
  refine Loop.up calls.len (fun s => s.1) (fun i s h' => Own h' kapiCall l ((xs.take i ++ ys.drop i) ++ [mark]) ∧ le h0 h' ∧ Ext (blkOf l) h h') rfl ⟨by simpa using hl.own, hl.le, .refl _ _⟩ ?_
  rintro i ⟨j, u⟩ h' go hi hc ⟨hO, hN, hX⟩ hgo
  dsimp only at hc; subst hc
  refine ⟨fun c => ?_, fun c => ?_⟩
  · have c : (i : Int) < (calls.len : Int) := of_decide_eq_true c
    have c' : i < calls.len := by omega
    refine ⟨⟨Int.natCast_nonneg i, c⟩, (ha.le hN).at (Int.natCast_nonneg i) c rfl ?_⟩
    intro x hx
    have hix : i < xs.length := by rw [ha.1]; exact c'
    have ex : xs[i] = x := by simpa [hix] using hx
    refine ⟨⟨Int.natCast_nonneg i, by show (i : Int) < (l.len : Int); omega⟩, hO.set (i := (i : Int)) (Int.natCast_nonneg i) (by omega) rfl rfl ?_⟩
    intro h'' q1 q2
    refine hgo c' _ _ (by show w64 ((i : Int) + 1) = _; rw [w64_of] <;> omega) ⟨?_, le_ext hN q2 hl.new, hX.trans q2⟩
    have : ((xs.take i ++ ys.drop i) ++ [mark]).set i x = (xs.take (i + 1) ++ ys.drop (i + 1)) ++ [mark] := by
      have h1 : (xs.take i).length = i := by rw [List.length_take]; omega
      have h2 : ys.drop i = ys[i] :: ys.drop (i + 1) := by rw [List.drop_eq_getElem_cons]
      rw [take_succ' xs hix, h2, ex, List.append_assoc, List.set_append_right _ _ (by omega), h1, Nat.sub_self]
      simp only [List.cons_append, List.set_cons_zero, List.append_assoc, List.nil_append, List.singleton_append]
    rw [← this]
    exact q1
  · have c : ¬ (i : Int) < (calls.len : Int) := of_decide_eq_false c
    have hi : i = calls.len := by omega
    subst hi
    rw [List.take_of_length_le (by rw [ha.1]; omega), List.drop_of_length_le (by rw [← he, ha.1]; omega), List.append_nil] at hO
    exact hQ _ ⟨hO, by rw [he, hl.len], hl.cap, hN, hl.new⟩ hX

theorem marked_spec {l : Sl} {h : Heap} {xs : List Cl} (o : Own h kapiCall l (xs ++ [mark])) (e : xs.length = l.len) (hc : l.len + 1 ≤ l.cap) (hn : l.len ≤ 2097152) {Q : Bool → Heap → Prop} (hQ : Q true h) : law4_marked.M l h Q := by
  have hw : w64 ((l.len : Int) + 1) = ((l.len + 1 : Nat) : Int) := by rw [w64_of] <;> omega
  unfold law4_marked.M
  rw [hw]
  have hlo : ¬ l.cap = 0 := by omega
  have ecut : l.cut 0 (((l.len + 1 : Nat) : Int)).toNat 7 = ⟨l.a, l.len + 1, l.cap⟩ := by
    unfold Sl.cut
    rw [if_neg hlo]
    congr 1
    cases l.a with
    | none => rfl
    | some a => show some (a.add (0 * 7)) = _; rw [Nat.zero_mul]; rfl
  rw [ecut]
  have ho : Own h kapiCall ⟨l.a, l.len + 1, l.cap⟩ (xs ++ [mark]) := by
    rcases o with ⟨_, e⟩ | ⟨b, e1, e2, e3, e4⟩
    · simp at e
    · exact .inr ⟨b, e1, by simp [e], e3, e4⟩
  have ha := ho.full (by simp [e])
  refine ⟨⟨by omega, by omega⟩, ⟨by omega, by show (l.len : Int) < ((l.len + 1 : Nat) : Int); omega⟩, ha.at (i := (l.len : Int)) (by omega) (by show (l.len : Int) < ((l.len + 1 : Nat) : Int); omega) rfl ?_⟩
  intro x hx
  have : x = mark := by
    rw [Int.toNat_natCast, ← e, List.getElem?_append_right (Nat.le_refl _), Nat.sub_self] at hx
    simpa using hx.symm
  subst this
  exact hQ

theorem blk_le {h : Heap} {s : Sl} {b : Nat} {S : Nat → Prop} (hs : S b) (hb : blkOf s b) : True := trivial

/-- The law holds of what was read. -/
theorem histCut_spec {calls : Sl} {pick : Int} {h0 : Heap} {xs : List Cl} (ha : Arr h0 kapiCall calls xs) (hn : calls.len ≤ 1048576) {Q : Bool → Heap → Prop} (hQ : ∀ h', le h0 h' → Q true h')
    {c1 : Sl → Heap → (Sl → Heap → Prop) → Prop} {c2 : Sl → Int → Heap → (Sl → Heap → Prop) → Prop} {c3 : Sl → Sl → Heap → (Unit → Heap → Prop) → Prop} {c4 : Sl → Int → Heap → (Sl → Heap → Prop) → Prop} {c5 : Sl → Sl → Heap → (Bool → Heap → Prop) → Prop} {c6 : Sl → Heap → (Bool → Heap → Prop) → Prop}
    (i1 : ∀ {a h Q}, law4_moved.M a h Q → c1 a h Q) (i2 : ∀ {a b h Q}, hist_Cut.M a b h Q → c2 a b h Q) (i3 : ∀ {a b h Q}, law4_back.M a b h Q → c3 a b h Q) (i4 : ∀ {a b h Q}, ref4_Cut.M a b h Q → c4 a b h Q) (i5 : ∀ {a b h Q}, law4_same.M a b h Q → c5 a b h Q) (i6 : ∀ {a h Q}, law4_marked.M a h Q → c6 a h Q) :
    law4_HistCut.M c1 c2 c3 c4 c5 c6 calls pick h0 Q := by
  refine i1 (moved_spec ha (by omega) fun l h5 hl => ?_)
  have hll : l.len = calls.len := by rw [← hl.len, List.length_map, ha.1]
  refine i2 (cut_spec hl.arr (by omega) fun r6 h7 h6 => ?_)
  have hl7 : Bay h0 h7 l (xs.map moved1) := ⟨hl.own.le h6.le, hl.len, hl.cap, fun b o e => h6.le b o (hl.le b o e), hl.new⟩
  refine i3 (back_spec ha (by omega) hl7 (by simp) fun h9 hl9 _ => ?_)
  refine i2 (cut_spec hl9.arr (by omega) fun a h11 h10 => ?_)
  have hl11 := hl9.own.le h10.le
  refine i2 (cut_spec (hl11.bay hl9.len) (by omega) fun b h13 h12 => ?_)
  have hl13 := hl11.le h12.le
  refine i2 (cut_spec (hl13.bay hl9.len) (by omega) fun c h15 h14 => ?_)
  have hl15 := hl13.le h14.le
  have l9 : le h0 h15 := fun x o e => h14.le x o (h12.le x o (h10.le x o (hl9.le x o e)))
  refine i4 (rcut_spec (ha.le l9) (by omega) fun want H h16 => ?_)
  have lH : le h0 H := fun x o e => h16.le x o (l9 x o e)
  have oa : New h9 H kapiCall a (cutL pick xs) := ⟨h10.own.le (fun x o e => h16.le x o (h14.le x o (h12.le x o e))), h10.len, fun x o e => h16.le x o (h14.le x o (h12.le x o (h10.le x o e))), h10.new⟩
  have ob : New h11 H kapiCall b (cutL pick xs) := ⟨h12.own.le (fun x o e => h16.le x o (h14.le x o e)), h12.len, fun x o e => h16.le x o (h14.le x o (h12.le x o e)), h12.new⟩
  have oc := h14.own.le h16.le
  have ol := hl15.le h16.le
  have hal : a.len ≤ 1048576 := by have := cutL_len pick xs; rw [oa.len, ha.1] at this; omega
  have hcl : c.len ≤ 1048576 := by have := cutL_len (w64 (pick - 1)) xs; rw [h14.len, ha.1] at this; omega
  have hbl : b.len ≤ 1048576 := by have := cutL_len pick xs; rw [ob.len, ha.1] at this; omega
  have hwl : want.len = a.len := by rw [← oa.len, ← h16.len]
  -- apart
  have al : ∀ x, blkOf a x → ¬ blkOf l x := fun x p q => hl9.own.blk q (oa.new x p)
  have cl : ∀ x, blkOf c x → ¬ blkOf l x := fun x p q => hl13.blk q (h14.new x p)
  have ba : ∀ x, blkOf b x → ¬ blkOf a x := fun x p q => h10.own.blk q (ob.new x p)
  have ca : ∀ x, blkOf c x → ¬ blkOf a x := fun x p q => (h10.own.le h12.le).blk q (h14.new x p)
  have cb : ∀ x, blkOf c x → ¬ blkOf b x := fun x p q => h12.own.blk q (h14.new x p)
  have wa : ∀ x, blkOf want x → ¬ blkOf a x := fun x p q => ((h10.own.le h12.le).le h14.le).blk q (h16.new x p)
  have wc : ∀ x, blkOf want x → ¬ blkOf c x := fun x p q => h14.own.blk q (h16.new x p)
  have sa : ∀ x, blkOf a x → h0 x = none := fun x p => le.none hl9.le (oa.new x p)
  have sc : ∀ x, blkOf c x → h0 x = none := fun x p => le.none (fun x o e => h12.le x o (h10.le x o (hl9.le x o e))) (h14.new x p)
  refine i5 (same_spec oa.arr h16.arr (by omega) ⟨fun e => (by cases e), fun _ => ?_⟩)
  refine i5 (same_spec ob.arr h16.arr (by omega) ⟨fun e => (by cases e), fun _ => ?_⟩)
  -- a is written
  refine Loop.up a.len (fun s => s.1) (fun i s h => ∃ A, Own h kapiCall a A ∧ A.length = a.len ∧ Ext (blkOf a) H h) rfl ⟨_, oa.own, oa.len, .refl _ _⟩ ?_
  rintro i ⟨j, u⟩ h go hi hc ⟨A, hA, hAl, hE⟩ hgo
  dsimp only at hc; subst hc
  refine ⟨fun d => ?_, fun d => ?_⟩
  · have d : (i : Int) < (a.len : Int) := of_decide_eq_true d
    have d' : i < a.len := by omega
    refine ⟨⟨Int.natCast_nonneg i, d⟩, hA.set (i := (i : Int)) (Int.natCast_nonneg i) d rfl rfl ?_⟩
    intro h' q1 q2
    exact hgo d' _ _ (by show w64 ((i : Int) + 1) = _; rw [w64_of] <;> omega) ⟨_, q1, by simp [hAl], hE.trans q2⟩
  clear hgo hi d i u
  -- c is written
  refine Loop.up c.len (fun s => s.1) (fun i s h => ∃ A C, Own h kapiCall a A ∧ A.length = a.len ∧ Own h kapiCall c C ∧ C.length = c.len ∧ Ext (fun x => blkOf a x ∨ blkOf c x) H h) rfl
    ⟨_, _, hA, hAl, oc.ext hE ca, h14.len, hE.mono fun _ => .inl⟩ ?_
  clear hA hAl hE A
  rintro i ⟨j, u⟩ h go hi hc ⟨A, C, hA, hAl, hC, hCl, hE⟩ hgo
  dsimp only at hc; subst hc
  refine ⟨fun d => ?_, fun d => ?_⟩
  · have d : (i : Int) < (c.len : Int) := of_decide_eq_true d
    have d' : i < c.len := by omega
    refine ⟨⟨Int.natCast_nonneg i, d⟩, hC.set (i := (i : Int)) (Int.natCast_nonneg i) d rfl rfl ?_⟩
    intro h' q1 q2
    exact hgo d' _ _ (by show w64 ((i : Int) + 1) = _; rw [w64_of] <;> omega) ⟨_, _, hA.ext q2 (fun x p q => ca x q p), hAl, q1, by simp [hCl], hE.trans (q2.mono fun _ => .inr)⟩
  clear hgo hi d i u
  -- both grow
  refine Loop.up 64 (fun s => s.2.2.1) (fun i s h => ∃ A C, Own h kapiCall s.1 A ∧ A.length = s.1.len ∧ s.1.len = a.len + i ∧ Own h kapiCall s.2.1 C ∧ C.length = s.2.1.len ∧ s.2.1.len = c.len + i ∧ Ext (fun x => blkOf a x ∨ blkOf c x) H h
    ∧ (∀ x, blkOf s.1 x → blkOf a x ∨ H x = none) ∧ (∀ x, blkOf s.2.1 x → blkOf c x ∨ H x = none) ∧ (∀ x, blkOf s.1 x → ¬ blkOf s.2.1 x)) rfl
    ⟨A, C, hA, hAl, rfl, hC, hCl, rfl, hE, fun x => .inl, fun x => .inl, fun x p q => ca x q p⟩ ?_
  clear hA hAl hC hCl hE A C
  rintro i ⟨s1, s2, j, u⟩ h go hi hc ⟨A, C, hA, hAl, h1, hC, hCl, h2, hE, n1, n2, n3⟩ hgo
  dsimp only at hc hA hAl h1 hC hCl h2 hE n1 n2 n3
  subst hc
  refine ⟨fun d => ?_, fun d => ?_⟩
  · have d : (i : Int) < 64 := of_decide_eq_true d
    have d' : i < 64 := by omega
    refine hA.app hAl rfl rfl (by show (s1.len + 1) * 56 ≤ _; omega) fun t h' q1 q2 q3 q4 => ?_
    refine (hC.ext q3 (fun x p q => n3 x q p)).app hCl rfl rfl (by show (s2.len + 1) * 56 ≤ _; omega) fun t' h'' q1' q2' q3' q4' => ?_
    have n4 : ∀ x, blkOf t x → ¬ blkOf s2 x := fun x p q => by
      rcases q4 x p with r | r
      · exact n3 x r q
      · exact hC.blk q r
    refine hgo d' _ _ (by show w64 ((i : Int) + 1) = _; rw [w64_of] <;> omega) ⟨_, _, q1.ext q3' n4, by show (A ++ _).length = t.len; rw [List.length_append, hAl, q2]; rfl, by show t.len = _; omega, q1',
      by show (C ++ _).length = t'.len; rw [List.length_append, hCl, q2']; rfl, by show t'.len = _; omega, ⟨fun x o e n => ?_, fun x e => hE.2 x (q3.2 x (q3'.2 x e))⟩, fun x p => ?_, fun x p => ?_, fun x p q => ?_⟩
    · have nn1 : ¬ blkOf s1 x := fun p => by
        rcases n1 x p with r | r
        · exact n (.inl r)
        · rw [r] at e; cases e
      have nn2 : ¬ blkOf s2 x := fun p => by
        rcases n2 x p with r | r
        · exact n (.inr r)
        · rw [r] at e; cases e
      exact q3'.1 x o (q3.1 x o (hE.1 x o e n) nn1) nn2
    · rcases q4 x p with r | r
      · exact n1 x r
      · exact .inr (hE.2 x r)
    · rcases q4' x p with r | r
      · exact n2 x r
      · exact .inr (hE.2 x (q3.2 x r))
    · rcases q4' x q with r | r
      · exact n4 x p r
      · exact q1.blk p r
  have d : ¬ (i : Int) < 64 := of_decide_eq_false d
  have hi : i = 64 := by omega
  subst hi
  have lh : le h0 h := le_ext lH hE fun x p => p.elim (sa x) (sc x)
  have ol' := ol.ext hE (fun x p q => q.elim (fun q => al x q p) (fun q => cl x q p))
  have ob' := ob.own.ext hE (fun x p q => q.elim (fun q => ba x p q) (fun q => cb x q p))
  have ow' := h16.own.ext hE (fun x p q => q.elim (fun q => wa x p q) (fun q => wc x p q))
  refine i2 (cut_spec (ol'.bay hl9.len) (by omega) fun d k h18 => ?_)
  refine i5 (same_spec ((ol'.le h18.le).bay hl9.len) (ha.le fun x o e => h18.le x o (lh x o e)) (by omega) ⟨fun _ => ?_, fun e => (by cases e)⟩)
  refine i6 (marked_spec (ol'.le h18.le) hl9.len hl9.cap (by omega) ⟨fun _ => ?_, fun e => (by cases e)⟩)
  refine i5 (same_spec ((ob'.le h18.le).full ob.len) ((ow'.le h18.le).full h16.len) (by omega) ⟨fun _ => ?_, fun e => (by cases e)⟩)
  refine i5 (same_spec h18.arr ((ow'.le h18.le).full h16.len) (by have := h18.len; have := h16.len; omega) ⟨fun _ => ?_, fun e => (by cases e)⟩)
  have hw : w64 ((want.len : Int) + 64) = (want.len : Int) + 64 := by rw [w64_of] <;> omega
  refine ⟨fun _ => ?_, fun e => absurd (of_decide_eq_false e) (fun q => q ?_)⟩
  · have : decide ((64 : Int) ≤ (s2.len : Int)) = true := decide_eq_true (by omega)
    show Q (decide ((64 : Int) ≤ (s2.len : Int))) k
    rw [this]
    exact hQ _ fun x o e => h18.le x o (lh x o e)
  · show (s1.len : Int) = w64 ((want.len : Int) + 64)
    rw [hw]; omega

end Go.Mx
