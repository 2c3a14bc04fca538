/-
  Plays compared; lists wrapped, with marks behind them.
-/
import Derived.Test.YtppehoailhjdfabMxVg
set_option linter.unusedVariables false
set_option linter.unusedSimpArgs false
set_option linter.unusedSectionVars false
namespace Go.Mx

def SameKC (k : Kd) (c : Sl → Sl → Heap → (Bool → Heap → Prop) → Prop) : Prop := ∀ {a b : Sl} {h : Heap} {xs : List (Den k)} {Q : Bool → Heap → Prop}, Arr h k a xs → Arr h k b xs → xs.length ≤ 1000000000 → Q true h → c a b h Q
theorem same_gen {k : Kd} {sz : Nat} (hsz : sz = k.size) (hrf : ∀ x : Den k, eqK k x x = true) {c : Sl → Sl → Heap → (Bool → Heap → Prop) → Prop}
    (hc : ∀ a b h Q, c a b h Q = (((decide ((a.len : Int) ≠ (b.len : Int))) = true → Q false h) ∧ ((decide ((a.len : Int) ≠ (b.len : Int))) = false → Loop (fun (go6 : (Int × Unit) → Heap → Prop) (s4 : Int × Unit) (h5 : Heap) => (((decide (s4.1 < (a.len : Int))) = true → (0 ≤ s4.1 ∧ s4.1 < (a.len : Int)) ∧ deref a.a fun a7 => (0 ≤ s4.1 ∧ s4.1 < (b.len : Int)) ∧ deref b.a fun a8 => ld k h5 (a7.add ((s4.1 : Int).toNat * sz)) fun t9 => ld k h5 (a8.add ((s4.1 : Int).toNat * sz)) fun t10 => (((!(eqK k t9 t10)) = true → Q false h5) ∧ ((!(eqK k t9 t10)) = false → go6 ((w64 (s4.1 + 1)), ()) h5))) ∧ ((decide (s4.1 < (a.len : Int))) = false → Q true h5))) (0, ()) h))) : SameKC k c := by
  intro a b h xs Q ha hb hn hQ
  rw [hc]
  have h1 := ha.1
  have h2 := hb.1
  refine ⟨fun e => absurd (of_decide_eq_true e) (by omega), fun _ => ?_⟩
  refine Loop.up xs.length (fun s => s.1) (fun i _ g => g = h) rfl rfl ?_
  rintro i ⟨i', u⟩ g go hi hc ⟨⟩ hgo
  dsimp only at hc; subst hc
  refine ⟨fun e => ?_, fun _ => hQ⟩
  have e : (i : Int) < (a.len : Int) := of_decide_eq_true e
  have hlt : i < xs.length := by omega
  have hx : xs[i]? = some xs[i] := by simp [hlt]
  generalize xs[i] = x at hx
  obtain ⟨aa, an, ac⟩ := a
  obtain ⟨ba, bn, bc⟩ := b
  dsimp only at h1 h2 e
  cases aa with
  | none => obtain ⟨a, e⟩ := ha.addr (by dsimp only; omega); cases e
  | some aa =>
  cases ba with
  | none => obtain ⟨a, e⟩ := hb.addr (by dsimp only; omega); cases e
  | some ba =>
  have hba : 0 ≤ (i : Int) ∧ (i : Int) < (an : Int) := ⟨by omega, by omega⟩
  have hbb : 0 ≤ (i : Int) ∧ (i : Int) < (bn : Int) := ⟨by omega, by omega⟩
  refine ⟨hba, hbb, ha.ldAt (i := i) rfl hx hsz (hb.ldAt (i := i) rfl hx hsz ⟨fun d => ?_, fun _ => hgo hlt _ _ (by show w64 ((i : Int) + 1) = _; rw [w64_of] <;> omega) rfl⟩)⟩
  rw [hrf] at d
  cases d
theorem sameW_spec : SameKC KWt law21_sameWaits.M := same_gen (sz := 2) rfl (fun x => eqK_refl KWt x rfl) fun a b h Q => rfl
theorem sameL_spec : SameKC KAcc law21_sameLog.M := same_gen (sz := 6) rfl (fun x => eqK_refl KAcc x rfl) fun a b h Q => rfl

def SameRC (c : Den KRun → Den KRun → Heap → (Bool → Heap → Prop) → Prop) : Prop := ∀ {a b : Den KRun} {h : Heap} {e1 w1 e2 w2 : List Sl} {E : List (List Eff)} {W : List (List Wait)} {C : List Int} {L : List Acc} {dn : Bool} {Q : Bool → Heap → Prop}, RunA h a e1 w1 E W C L dn → RunA h b e2 w2 E W C L dn → RunB E W C L → Q true h → c a b h Q
theorem rows_gen {k : Kd} {cw : Sl → Sl → Heap → (Bool → Heap → Prop) → Prop} (iW : SameKC k cw) {h : Heap} {oa ob : Sl} {ea eb : List Sl} {xss : List (List (Den k))} (na : ArrN h k oa ea xss) (nb : ArrN h k ob eb xss) (h8 : xss.length ≤ 1000000000) (hr : ∀ xs ∈ xss, xs.length ≤ 1000000000) {Q : Bool → Heap → Prop} {cont : Heap → Prop} (hQ : cont h)
    {body : ((Int × Unit) → Heap → Prop) → (Int × Unit) → Heap → Prop} (hb : ∀ go s h5, body go s h5 = (((decide (s.1 < (oa.len : Int))) = true → (0 ≤ s.1 ∧ s.1 < (oa.len : Int)) ∧ deref oa.a fun a18 => ld (.sl : Kd) h5 (a18.add ((s.1 : Int).toNat * 1)) fun t19 => (0 ≤ s.1 ∧ s.1 < (ob.len : Int)) ∧ deref ob.a fun a20 => ld (.sl : Kd) h5 (a20.add ((s.1 : Int).toNat * 1)) fun t21 => cw t19 t21 h5 fun r22 h23 => (((!r22) = true → Q false h23) ∧ ((!r22) = false → go ((w64 (s.1 + 1)), ()) h23))) ∧ ((decide (s.1 < (oa.len : Int))) = false → cont h5))) : Loop body (0, ()) h := by
  have al := na.out.1
  have bl := nb.out.1
  have ael := na.len
  have bel := nb.len
  refine Loop.up xss.length (fun s => s.1) (fun i _ g => g = h) rfl rfl ?_
  rintro i ⟨i', u⟩ g go hi hc ⟨⟩ hgo
  dsimp only at hc; subst hc
  rw [hb]
  refine ⟨fun d => ?_, fun _ => hQ⟩
  have d : (i : Int) < (oa.len : Int) := of_decide_eq_true d
  have hil : i < xss.length := by omega
  obtain ⟨sa, hsa⟩ : ∃ sl, ea[i]? = some sl := ⟨ea[i]'(by omega), by simp⟩
  obtain ⟨sb, hsb⟩ : ∃ sl, eb[i]? = some sl := ⟨eb[i]'(by omega), by simp⟩
  obtain ⟨X, hxi⟩ : ∃ X, xss[i]? = some X := ⟨xss[i], by simp⟩
  have hba : 0 ≤ (i : Int) ∧ (i : Int) < (oa.len : Int) := ⟨by omega, d⟩
  have hbb : 0 ≤ (i : Int) ∧ (i : Int) < (ob.len : Int) := ⟨by omega, by omega⟩
  refine ⟨hba, na.out.at (i := (i : Int)) (by omega) hba.2 rfl fun y hy => ⟨hbb, nb.out.at (i := (i : Int)) (by omega) hbb.2 rfl fun z hz => ?_⟩⟩
  rw [Int.toNat_natCast, hsa] at hy
  rw [Int.toNat_natCast, hsb] at hz
  cases hy; cases hz
  exact iW (na.row i sa X hsa hxi) (nb.row i sb X hsb hxi) (hr X (List.mem_of_getElem? hxi)) ⟨fun e => (by cases e), fun _ => hgo hil _ _ (by show w64 ((i : Int) + 1) = _; rw [w64_of] <;> omega) rfl⟩

/-! ### gifts -/
theorem Nest.snocV {h0 h : Heap} {k : Kd} {o t : Sl} {els : List Sl} {xss : List (List (Den k))} {ys : List (Den k)} (n : Nest h0 h k o els xss) (nt : New h0 h k t ys) (ap : ∀ x, blkOf t x → ¬ fpN o els x) (hb : (o.len + 1) * 24 ≤ 140737488355328) {K : Sl → Heap → Prop}
    (hK : ∀ o' h', Nest h0 h' k o' (els ++ [t]) (xss ++ [ys]) → Ext (blkOf o) h h' → (∀ b, blkOf o' b → blkOf o b ∨ h b = none) → K o' h') : Go.Mx.new h ([t].flatMap (Kd.cells .sl)) fun p h1 => appendM 1 24 h1 o ⟨some p, 1, 1⟩ K := by
  obtain ⟨s1, s2⟩ := List.pairwise_cons.1 n.sep
  refine n.out.app3 rfl rfl hb fun o' h' n2 x2 b2 => hK o' h' ⟨n2, by rw [List.length_append, List.length_append, n.len]; rfl, fun i sl xs a b => ?_, List.pairwise_cons.2 ⟨fun sl hs b hb1 hb2 => ?_, ?_⟩⟩ x2 b2
  · by_cases c : i < els.length
    · rw [List.getElem?_append_left c] at a
      rw [List.getElem?_append_left (by rw [← n.len]; exact c)] at b
      exact (n.row i sl xs a b).ext x2 (fun z u v => s1 sl (List.mem_of_getElem? a) z v u) n.out.new
    · rw [List.getElem?_append_right (by omega)] at a
      rw [List.getElem?_append_right (by rw [← n.len]; omega)] at b
      have a1 := List.mem_of_getElem? a
      have b1 := List.mem_of_getElem? b
      have a1 : sl = t := by simpa using a1
      have b1 : xs = ys := by simpa using b1
      subst a1; subst b1
      exact nt.ext x2 (fun z u v => ap z u (.inl v)) n.out.new
  · rcases List.mem_append.1 hs with hs | hs
    · rcases b2 b hb1 with d | d
      · exact s1 sl hs b d hb2
      · obtain ⟨xs, q⟩ := n.row' hs
        exact q.own.live b hb2 d
    · have : sl = t := by simpa using hs
      subst this
      rcases b2 b hb1 with d | d
      · exact ap b hb2 (.inl d)
      · exact nt.own.live b hb2 d
  · rw [List.pairwise_append]
    refine ⟨s2, by simp, fun a ha b hb' x hx hy => ?_⟩
    have : b = t := by simpa using hb'
    subst this
    exact ap x hy (.inr ⟨a, ha, hx⟩)
abbrev KGift : Kd := .pair .sl (.pair .sl .nil)
def oddA (i : Int) : AMv := (w64 (0 - i), (w64 (70 + i), (-3, (1, (2, ())))))
def giftQ (ls : List (List AMv)) (n : Nat) : List (List AMv) := (List.range n).map fun (j : Nat) => ls.getD j [] ++ [oddA (j : Int)]
theorem giftQ_succ (ls : List (List AMv)) (n : Nat) : giftQ ls (n + 1) = giftQ ls n ++ [ls.getD n [] ++ [oddA (n : Int)]] := by
  unfold giftQ
  rw [List.range_succ, List.map_append]; rfl
theorem giftQ_get {ls : List (List AMv)} {n j : Nat} (h : j < n) : (giftQ ls n)[j]? = some (ls.getD j [] ++ [oddA (j : Int)]) := by
  unfold giftQ
  rw [List.getElem?_map, List.getElem?_range h]; rfl
def cutsZ (ls : List (List AMv)) (els : List Sl) : List Sl := (ls.zip els).map fun p => p.2.cut 0 p.1.length 5
theorem cutsZ_get {ls : List (List AMv)} {els : List Sl} {i : Nat} {l : List AMv} {sl : Sl} (h1 : ls[i]? = some l) (h2 : els[i]? = some sl) : (cutsZ ls els)[i]? = some (sl.cut 0 l.length 5) := by
  unfold cutsZ
  rw [List.getElem?_map, (List.getElem?_zip_eq_some (z := (l, sl))).2 ⟨h1, h2⟩]; rfl
theorem cutsZ_len {ls : List (List AMv)} {els : List Sl} (h : els.length ≤ ls.length) : (cutsZ ls els).length = els.length := by
  unfold cutsZ
  rw [List.length_map, List.length_zip]; omega
structure GiftR (h0 h : Heap) (g : Den KGift) (els : List Sl) (al z : Sl) (ls : List (List AMv)) : Prop where
  whole : Nest h0 h KMv g.1 els (giftQ ls ls.length)
  all : New h0 h .sl al (cutsZ ls els ++ [z])
  eq : g.2.1 = al.cut 0 ls.length 1
  ap : ∀ x, blkOf al x → ¬ fpN g.1 els x
def fpG (g : Den KGift) (els : List Sl) (al : Sl) : Nat → Prop := fun x => blkOf al x ∨ fpN g.1 els x
theorem GiftR.le {h0 h g els al z ls} (G : GiftR h0 h g els al z ls) : Go.Mx.le h0 h := G.whole.le
theorem GiftR.live {h0 h g els al z ls} (G : GiftR h0 h g els al z ls) {x : Nat} (hx : fpG g els al x) : h x ≠ none := by
  rcases hx with q | q
  · exact G.all.own.live x q
  · exact G.whole.live q
theorem GiftR.fresh {h0 h g els al z ls} (G : GiftR h0 h g els al z ls) {x : Nat} (hx : fpG g els al x) : h0 x = none := by
  rcases hx with q | q
  · exact G.all.new x q
  · exact G.whole.fresh q
theorem GiftR.ext {h0 h h' : Heap} {g els al z ls} (G : GiftR h0 h g els al z ls) {S : Nat → Prop} (e : Ext S h h') (d : ∀ x, fpG g els al x → ¬ S x) (f : ∀ x, S x → h0 x = none) : GiftR h0 h' g els al z ls :=
  ⟨G.whole.ext e (fun x hx => d x (.inr hx)) f, G.all.ext e (fun x hx => d x (.inl hx)) f, G.eq, G.ap⟩
theorem GiftR.more {h0 h h' : Heap} {g els al z ls} (G : GiftR h0 h g els al z ls) (l : Go.Mx.le h h') : GiftR h0 h' g els al z ls := ⟨G.whole.more l, G.all.more l, G.eq, G.ap⟩
theorem GiftR.elen {h0 h g els al z ls} (G : GiftR h0 h g els al z ls) : els.length = ls.length := by
  have := G.whole.len
  unfold giftQ at this
  rw [List.length_map, List.length_range] at this
  exact this
theorem GiftR.row {h0 h g els al z ls} (G : GiftR h0 h g els al z ls) {i : Nat} {sl : Sl} {l : List AMv} (h1 : els[i]? = some sl) (h2 : ls[i]? = some l) : New h0 h KMv sl (l ++ [oddA (i : Int)]) ∧ Arr h KMv (sl.cut 0 l.length 5) l := by
  have hi := (List.getElem?_eq_some_iff.1 h2).1
  have hg : ls.getD i [] = l := by rw [List.getD_eq_getElem?_getD, h2]; rfl
  have r := G.whole.row i sl _ h1 (giftQ_get hi)
  rw [hg] at r
  have rl := r.len
  rw [List.length_append, List.length_singleton] at rl
  have p := r.arr.pre (n := l.length) (by omega) (sz := 5)
  rw [List.take_left' rfl] at p
  exact ⟨r, p⟩
/-- The lists of a gift. -/
theorem GiftR.arrN {h0 h g els al z ls} (G : GiftR h0 h g els al z ls) : ArrN h KMv g.2.1 (cutsZ ls els) ls := by
  have el := G.elen
  have cl := cutsZ_len (ls := ls) (els := els) (by omega)
  have al' := G.all.len
  rw [List.length_append, List.length_singleton] at al'
  refine ⟨?_, by omega, fun i sl xs a b => ?_⟩
  · have p := G.all.arr.pre (n := ls.length) (by omega) (sz := 1)
    rw [List.take_left' (by omega)] at p
    rw [G.eq]; exact p
  · have hi := (List.getElem?_eq_some_iff.1 b).1
    obtain ⟨sl', hs⟩ : ∃ sl, els[i]? = some sl := ⟨els[i]'(by omega), by simp⟩
    rw [cutsZ_get b hs] at a
    cases a
    exact (G.row hs b).2

def OddC (c : Int → Heap → (AMv → Heap → Prop) → Prop) : Prop := ∀ {i : Int} {h : Heap} {Q : AMv → Heap → Prop}, Q (oddA i) h → c i h Q
theorem set_midV {α : Type} (a : List α) (m : Nat) (x y : α) : (a ++ List.replicate (m + 1) y).set a.length x = (a ++ [x]) ++ List.replicate m y := by
  rw [List.set_append_right _ _ (Nat.le_refl _), Nat.sub_self, List.replicate_succ, List.set_cons_zero, List.append_assoc]; rfl
def WrapC (c : Sl → Heap → (Den KGift → Heap → Prop) → Prop) : Prop := ∀ {lists : Sl} {h : Heap} {ls : List (List AMv)} {Q : Den KGift → Heap → Prop}, Arr2 h KMv lists ls → ls.length ≤ 2000000 → (∀ l ∈ ls, l.length ≤ 2000000) → (∀ g els al z h', GiftR h h' g els al z ls → Q g h') → c lists h Q
def SpareC (c : Sl → Heap → (Sl → Heap → Prop) → Prop) : Prop := ∀ {l : Sl} {h : Heap} {ps : List Int} {Q : Sl → Heap → Prop}, Arr h ki l ps → ps.length ≤ 2000000 → (∀ t h', New h h' ki t (ps ++ [-4711]) → t.cap = ps.length + 1 → Q t h') → c l h Q

end Go.Mx
