/-
  ExploreFoata: the walk.
-/
import Derived.Test.YtipihecaaakagaaMxKf
import Derived.Test.YtipihecaaakagaaMxKg
set_option linter.unusedVariables false
set_option linter.unusedSimpArgs false
set_option linter.unusedSectionVars false
namespace Go.Mx

def foaS (sz len : Int) (xss : List (List Ac)) (ps : List Int) : List (Rc × Nat) := steps (bdA sz len) (rowP xss ps ps.length)
def foataP (sz len : Int) (xss : List (List Ac)) (ps : List Int) (e : Int) : List (List Int) := if e = 0 then (List.range (formR (foaS sz len xss ps)).length).map (refRow (foaS sz len xss ps) xss.length) else []
def FoR (h0 h : Heap) (o : Sl) (zss : List (List Int)) : Prop := ∃ els, Nest h0 h ki o els zss
theorem Nest.nil (h : Heap) (k : Kd) : Nest h h k ⟨none, 0, 0⟩ [] [] := ⟨New.none (le.refl _) _, rfl, fun i sl xs a => (by cases a), List.pairwise_singleton ..⟩
theorem ScR.lists {h : Heap} {s : Sc} {bs : List Int} {xss : List (List Ac)} (r : ScR h s bs xss) : s.2.2.1.len = xss.length := by
  obtain ⟨r1, sls, r2, r3, r4⟩ := r
  rw [← r3, r2.1]
theorem ScR.beg {h : Heap} {s : Sc} {bs : List Int} {xss : List (List Ac)} (r : ScR h s bs xss) : (s.2.1.len : Int) = (bs.length : Int) := by rw [r.1.1]
theorem ten {sz : Int} {nb : Nat} {xss : List (List Ac)} {ps : List Int} (hs : xss.length ≤ 1048576) (h2 : ∀ xs ∈ xss, xs.length ≤ 1048576) (hc : chkE sz nb xss = 0) (hS : ScriptP (xss.map List.length) ps) : ps.length ≤ 10 := by
  obtain ⟨_, _, _, _, ha, _⟩ := chkE_ok hc
  rw [actsE_sum hs h2] at ha
  rw [hS.len]; omega
theorem foaS_ok {sz len : Int} {xss : List (List Ac)} {ps : List Int} (hS : ScriptP (xss.map List.length) ps) (h10 : ps.length ≤ 10) : (foaS sz len xss ps).length ≤ 12 ∧ (∀ c ∈ foaS sz len xss ps, c.2 < 12) ∧ ∀ c ∈ foaS sz len xss ps, 0 ≤ c.1.1 ∧ c.1.1 < (xss.length : Int) := by
  have hl : (foaS sz len xss ps).length = ps.length := by unfold foaS; rw [steps_len, rowP_len]
  have hin := hS.1
  rw [List.length_map] at hin
  refine ⟨by omega, fun c hc => ?_, fun c hc => ?_⟩
  · have := steps_lt _ _ c hc
    rw [rowP_len] at this; omega
  · have hm := steps_mem _ hc
    unfold rowP at hm
    obtain ⟨j, hj, e⟩ := List.mem_map.1 hm
    have hj := List.mem_range.1 hj
    rw [← e]
    show 0 ≤ (ps[j]?).getD 0 ∧ (ps[j]?).getD 0 < _
    rw [List.getElem?_eq_getElem hj]
    exact hin _ (List.getElem_mem hj)

theorem foata_spec {s : Sc} {t : Sl} {h : Heap} {bs ps : List Int} {xss : List (List Ac)} (r : ScR h s bs xss) (hs : Small bs xss) {c1 : Sc → Sl → Heap → (Int → Heap → Prop) → Prop} {c2 : Sc → Sl → Heap → (Sl → Heap → Prop) → Prop}
    (i1 : ∀ {Q : Int → Heap → Prop}, (∀ e h', Rdy s.1 bs.length xss ps e → le h h' → Q e h') → c1 s t h Q)
    (i2 : ∀ {k : Heap} {Q : Sl → Heap → Prop}, le h k → chkE s.1 bs.length xss = 0 → ScriptP (xss.map List.length) ps → (foaS s.1 bs.length xss ps).length ≤ 12 → (∀ c ∈ foaS s.1 bs.length xss ps, c.2 < 12) →
      (∀ o els (zss : List (List Int)) h', Nest k h' ki o els zss → zss.length = (formR (foaS s.1 bs.length xss ps)).length → (∀ (i : Nat) (z : List Int), zss[i]? = some z → z.Perm (((formR (foaS s.1 bs.length xss ps))[i]?).getD []) ∧ z.Pairwise (· ≤ ·)) → Q o h') → c2 s t k Q)
    {Q : (Sl × (Int × Unit)) → Heap → Prop} (hQ : ∀ o e h', Rdy s.1 bs.length xss ps e → FoR h h' o (foataP s.1 bs.length xss ps e) → Q (o, (e, ())) h') : explore_Foata.M c1 c2 s t h Q := by
  refine i1 fun e h1 hr l1 => ⟨fun d => ?_, fun d => ?_⟩
  · have d : e ≠ 0 := of_decide_eq_true d
    exact hQ _ e h1 hr ⟨[], by unfold foataP; rw [if_neg d]; exact (Nest.nil h1 ki).base l1⟩
  · have d : ¬ e ≠ 0 := of_decide_eq_false d
    have d : e = 0 := Decidable.not_not.1 d
    subst d
    obtain ⟨hc, hS⟩ := hr.ok
    have h10 := ten hs.2.1 hs.2.2 hc hS
    obtain ⟨f1, f2, f3⟩ := foaS_ok (sz := s.1) (len := bs.length) hS h10
    refine i2 l1 hc hS f1 f2 fun o els zss h2 n hl hz => hQ o 0 h2 hr ⟨els, ?_⟩
    unfold foataP
    rw [if_pos rfl, ← rows_eq f3 hl hz]
    exact n.base l1
theorem rfoata_spec {s : Sc} {t : Sl} {h : Heap} {bs ps : List Int} {xss : List (List Ac)} (r : ScR h s bs xss) (hs : Small bs xss) {c1 : Sc → Sl → Heap → (Int → Heap → Prop) → Prop} {c2 : Sc → Sl → Heap → (Sl → Heap → Prop) → Prop} {c3 : Sc → Rc → Rc → Heap → (Bool → Heap → Prop) → Prop}
    (i1 : ∀ {Q : Int → Heap → Prop}, (∀ e, Rdy s.1 bs.length xss ps e → Q e h) → c1 s t h Q)
    (i2 : ∀ {Q : Sl → Heap → Prop}, chkE s.1 bs.length xss = 0 → ScriptP (xss.map List.length) ps → (∀ l h', New h h' kref22Act l (rowP xss ps ps.length) → Q l h') → c2 s t h Q)
    (i3 : ∀ {a b : Rc} {h : Heap} {Q : Bool → Heap → Prop}, Q (bdA s.1 (s.2.1.len : Int) a b) h → c3 s a b h Q)
    {Q : (Sl × (Int × Unit)) → Heap → Prop} (hQ : ∀ o e h', Rdy s.1 bs.length xss ps e → FoR h h' o (foataP s.1 bs.length xss ps e) → Q (o, (e, ())) h') : ref22_Foata.M c1 c2 c3 s t h Q := by
  refine i1 fun e hr => ⟨fun d => ?_, fun d => ?_⟩
  · have d : e ≠ 0 := of_decide_eq_true d
    exact hQ _ e h hr ⟨[], by unfold foataP; rw [if_neg d]; exact Nest.nil h ki⟩
  · have d : ¬ e ≠ 0 := of_decide_eq_false d
    have d : e = 0 := Decidable.not_not.1 d
    subst d
    obtain ⟨hc, hS⟩ := hr.ok
    have h10 := ten hs.2.1 hs.2.2 hc hS
    obtain ⟨_, _, _, h4, _, _⟩ := chkE_ok hc
    refine i2 hc hS fun l h1 n => rform_spec n (by rw [rowP_len]; omega) (by rw [r.lists]; exact h4) i3 fun o els h2 n2 => hQ o 0 h2 hr ⟨els, ?_⟩
    rw [r.beg, r.lists] at n2
    unfold foataP
    rw [if_pos rfl]
    exact (n2.base n.le)
theorem foataP_small {sz len : Int} {nb : Nat} {xss : List (List Ac)} {ps : List Int} {e : Int} (hs : xss.length ≤ 1048576) (h2 : ∀ xs ∈ xss, xs.length ≤ 1048576) (hr : Rdy sz nb xss ps e) : (foataP sz len xss ps e).length ≤ 1048576 ∧ ∀ z ∈ foataP sz len xss ps e, z.length ≤ 1048576 := by
  unfold foataP
  by_cases d : e = 0
  · rw [if_pos d]
    subst d
    obtain ⟨hc, hS⟩ := hr.ok
    have h10 := ten hs h2 hc hS
    obtain ⟨f1, f2, f3⟩ := foaS_ok (sz := sz) (len := len) hS h10
    have := formR_len _ 12 f2
    refine ⟨by rw [List.length_map, List.length_range]; omega, fun z hz => ?_⟩
    obtain ⟨n, _, rfl⟩ := List.mem_map.1 hz
    have p := (refRow_perm f3 n).length_eq
    have q : (rawR (foaS sz len xss ps) n).length ≤ (foaS sz len xss ps).length := by unfold rawR; rw [List.length_map]; exact List.length_filter_le _ _
    omega
  · rw [if_neg d]
    exact ⟨Nat.zero_le _, fun z hz => (by cases hz)⟩

theorem exploreFoata_spec {s : Sc} {t : Sl} {h0 : Heap} {bs ps : List Int} {xss : List (List Ac)} (r : ScR h0 s bs xss) (hs : Small bs xss) (hp : Arr h0 ki t ps) (hn : ps.length ≤ 1048576) {Q : Bool → Heap → Prop} (hQ : ∀ h', le h0 h' → Q true h')
    {c1 : Sc → Heap → (Sc → Heap → Prop) → Prop} {c2 : Sc → Heap → (Unit → Heap → Prop) → Prop} {c3 : Sl → Heap → (Sl → Heap → Prop) → Prop} {c4 c8 : Sc → Sl → Heap → ((Sl × (Int × Unit)) → Heap → Prop) → Prop} {c5 : Sc → Sc → Heap → (Unit → Heap → Prop) → Prop}
    {c6 : Sl → Sl → Heap → (Unit → Heap → Prop) → Prop} {c7 : Sl → Heap → (Int → Heap → Prop) → Prop} {c9 : Sl → Sl → Heap → (Bool → Heap → Prop) → Prop} {c10 : Sc → Sc → Heap → (Bool → Heap → Prop) → Prop} {c11 : Sl → Sl → Heap → (Bool → Heap → Prop) → Prop} {c12 : Sl → Heap → (Bool → Heap → Prop) → Prop}
    (i1 : ∀ {a h Q}, law22_copied.M a h Q → c1 a h Q) (i2 : ∀ {a h Q}, law22_moved.M a h Q → c2 a h Q) (i3 : ∀ {a h Q}, law22_turned.M a h Q → c3 a h Q)
    (i4 : ∀ {s : Sc} {t : Sl} {h : Heap} {bs ps : List Int} {xss : List (List Ac)} {Q : (Sl × (Int × Unit)) → Heap → Prop}, ScR h s bs xss → Small bs xss → Arr h ki t ps → ps.length ≤ 1048576 → (∀ o e h', Rdy s.1 bs.length xss ps e → FoR h h' o (foataP s.1 bs.length xss ps e) → Q (o, (e, ())) h') → c4 s t h Q)
    (i5 : ∀ {a b h Q}, law22_back.M a b h Q → c5 a b h Q) (i6 : ∀ {a b h Q}, law22_written.M a b h Q → c6 a b h Q)
    (i7 : ∀ {h0 h : Heap} {o : Sl} {els : List Sl} {xss : List (List (Den ki))} {Q : Int → Heap → Prop}, Nest h0 h ki o els xss → xss.length ≤ 1048576 → (∀ xs ∈ xss, xs.length ≤ 1048576) → (∀ (n : Int) h', (xss.length : Int) ≤ n → Ext (fpN o els) h h' → Q n h') → c7 o h Q)
    (i8 : ∀ {s : Sc} {t : Sl} {h : Heap} {bs ps : List Int} {xss : List (List Ac)} {Q : (Sl × (Int × Unit)) → Heap → Prop}, ScR h s bs xss → Small bs xss → Arr h ki t ps → ps.length ≤ 1048576 → (∀ o e h', Rdy s.1 bs.length xss ps e → FoR h h' o (foataP s.1 bs.length xss ps e) → Q (o, (e, ())) h') → c8 s t h Q)
    (i9 : ∀ {h h1 h2 : Heap} {a b : Sl} {ea eb : List Sl} {xss : List (List Int)} {Q : Bool → Heap → Prop}, Nest h1 h ki a ea xss → Nest h2 h ki b eb xss → xss.length ≤ 1048576 → (∀ xs ∈ xss, xs.length ≤ 1048576) → Q true h → c9 a b h Q)
    (i10 : ∀ {h : Heap} {a b : Sc} {cls : List Sl} {mk : Sl} {bs : List Int} {xss : List (List Ac)} {Q}, Scn h0 h a cls mk bs xss → ScR h0 b bs xss → Small bs xss → a.1 = b.1 → Q true h → c10 a b h Q)
    (i11 : ∀ {h0 h : Heap} {t s : Sl} {ps : List Int} {Q : Bool → Heap → Prop}, BayK h0 h ki t ps (-77) → Arr h ki s ps → ps.length ≤ 1048576 → Q true h → c11 t s h Q)
    (i12 : ∀ {h0 h : Heap} {o : Sl} {els : List Sl} {xss : List (List (Den ki))} {Q : Bool → Heap → Prop}, Nest h0 h ki o els xss → xss.length ≤ 1048576 → (∀ xs ∈ xss, xs.length ≤ 1048576) → (∀ h', Ext (fpN o els) h h' → Q true h') → c12 o h Q) :
    law22_ExploreFoata.M c1 c2 c3 c4 c5 c6 c7 c8 c9 c10 c11 c12 s t h0 Q := by
  refine i1 (copied_spec r hs fun c hA cls mk oA eA => i2 (moved_spec oA hs fun h2 bs' xss' o2 el ek => ?_))
  refine i3 (turned_spec (hp.le o2.base) hn fun p h3 qs bp hq => ?_)
  have o3 := o2.more bp.le
  refine i4 o3.read (o3.small hs el ek) bp.arr (by omega) fun en0 e0 h4 hr0 en0R => ?_
  obtain ⟨els0, n0⟩ := en0R
  have o4 := o3.more n0.le
  have bp4 := bp.more n0.le
  refine i5 (back_spec2 o4 r hs el ek fun h5 o5 x5 => ?_)
  have dps : ∀ x, blkOf p x → ¬ fpS c cls x := fun x a b => o2.live (.inl b) (bp.new x a)
  have bp5 := (bp4.base o2.base).ext x5 dps (fun x q => o4.fresh q)
  refine i4 o5.read hs bp5.arr (by omega) fun en1 e1 h6 hr1 en1R => ?_
  obtain ⟨els1, n1⟩ := en1R
  have o6 := o5.more n1.le
  have bp6 := bp5.more n1.le
  refine i6 (written_spec bp6 hp hq.symm hn fun h7 bp7 x7 => ?_)
  have o7 := o6.ext x7 (fun x a b => dps x b a) (fun x a b => o2.live (.inr (.inl a)) (bp.new x b)) (fun x a b => o2.live (.inr (.inr a)) (bp.new x b)) bp5.new
  refine i4 o7.read hs bp7.arr hn fun en e h8 hr enR => ?_
  obtain ⟨els, n8⟩ := enR
  have o8 := o7.more n8.le
  have bp8 := bp7.more n8.le
  refine i4 o8.read hs bp8.arr hn fun ag e' h9 hr' agR => ?_
  obtain rfl := hr.one hr'
  have sm := foataP_small (len := bs.length) hs.2.1 hs.2.2 hr
  obtain ⟨els9, n9⟩ := agR
  refine i7 n9 sm.1 sm.2 fun sp hB hsp xB => ?_
  have lB : le h8 hB := le_ext n9.le xB (fun x q => n9.fresh q)
  have nB := n8.more lB
  have oB := o8.more lB
  have bpB := bp8.more lB
  refine i8 (r.le oB.base) hs (hp.le oB.base) hn fun wa ew hE hrw waR => ?_
  have ec : c.1 = s.1 := eA
  have hrw : Rdy c.1 bs.length xss ps ew := by rw [ec]; exact hrw
  obtain rfl := hr.one hrw
  obtain ⟨elsE, nE⟩ := waR
  rw [← ec] at nE
  have nB2 := nB.more nE.le
  have oE := oB.more nE.le
  have bpE := bpB.more nE.le
  have waL : (wa.len : Int) = ((foataP c.1 bs.length xss ps e).length : Int) := by rw [← nE.out.len, nE.len]
  refine ⟨fun d => absurd rfl (of_decide_eq_true d), fun _ => i9 nB2 nE sm.1 sm.2 ⟨fun d => (by cases d), fun _ => ⟨fun d => ?_, fun _ => ?_⟩⟩⟩
  · have d : sp < (wa.len : Int) := of_decide_eq_true d
    have hsp : ((foataP c.1 bs.length xss ps e).length : Int) ≤ sp := hsp
    omega
  refine i10 oE r hs ec ⟨fun d => (by cases d), fun _ => i11 bpE (hp.le oE.base) hn ⟨fun d => (by cases d), fun _ => ?_⟩⟩
  exact i12 nB2 sm.1 sm.2 fun hF xF => hQ _ (le_ext oE.base xF (fun x q => o7.base.none (n8.fresh q)))
end Go.Mx
