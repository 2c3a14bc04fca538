/-
  ExploreKin: the reference's count, and the law.
-/
import Derived.Test.YtanfmmcpjifgiabMxKn
set_option linter.unusedVariables false
set_option linter.unusedSimpArgs false
set_option linter.unusedSectionVars false
namespace Go.Mx

def sameB (sz len : Int) (xss : List (List Ac)) (ps qs : List Int) : Bool := sameR (bdA sz len) (rowP xss ps ps.length) qs
def allS (xss : List (List Ac)) : List (List Int) := allW (xss.map List.length) (xss.map List.length).sum []
theorem allS_mem {xss : List (List Ac)} {q : List Int} : q ∈ allS xss ↔ ScriptP (xss.map List.length) q := allW_script
theorem allS_nodup (xss : List (List Ac)) : (allS xss).Nodup := allW_nodup _ _ _ fun w => Nat.zero_le _
theorem allS_len {xss : List (List Ac)} (h4 : xss.length ≤ 4) (hT : (xss.map List.length).sum ≤ 10) : (allS xss).length ≤ 1048576 := by
  have h1 := allW_len (xss.map List.length) (by simpa using h4) (xss.map List.length).sum []
  have h2 : 4 ^ (xss.map List.length).sum ≤ 4 ^ 10 := Nat.pow_le_pow_right (by omega) hT
  have h3 : (4 : Nat) ^ 10 = 1048576 := by decide
  unfold allS
  omega
theorem sameB_alk {sz len : Int} {xss : List (List Ac)} {ps qs : List Int} (hS : ScriptP (xss.map List.length) ps) (hSq : ScriptP (xss.map List.length) qs) : sameB sz len xss ps qs = true ↔ Alk (bdE sz len xss) (evL ps) (evL qs) := by
  have s2 := hS.same2 hSq
  have := sameR_alk (sz := sz) (len := len) (xss := xss) (m := evL qs) (evL_nodup s2.p0) (fun e he => ((evL_mem s2.p0 e).1 he).1) s2.filt
  rw [evL_fst, ← evL_rows] at this
  exact this
theorem kin_eq {sz len : Int} {xss : List (List Ac)} {ps : List Int} (hS : ScriptP (xss.map List.length) ps) : waysN (bfE (bdE sz len xss) ps) xss.length ps.length (cnt ps) = ((allS xss).filter (sameB sz len xss ps)).length := by
  rw [← waysL_len]
  have hin := hS.1
  rw [List.length_map] at hin
  have h0 : ∀ p ∈ ps, 0 ≤ p := fun p hp => (hin p hp).1
  have hup : uptoE ps (cnt ps) = evL ps := by
    unfold uptoE
    rw [List.filter_eq_self]
    intro e he
    exact decide_eq_true ((evL_mem h0 e).1 he).2
  refine List.Perm.length_eq ((List.perm_ext_iff_of_nodup (waysL_nodup _ _ _ _) ((allS_nodup xss).filter _)).2 fun q => ?_)
  rw [waysL_mem (bdE sz len xss) (bdE_sym sz len xss) hin ps.length (cnt ps) (sumN_cnt hin) (fun w => Nat.le_refl _) (fun f _ g hg _ => by rw [hup]; exact (pair_mem hg).1) q, List.mem_filter, allS_mem, hup]
  have hc : (InR xss.length q ∧ ∀ w, cnt q w = cnt ps w) ↔ ScriptP (xss.map List.length) q := by
    constructor
    · rintro ⟨a, b⟩
      exact ⟨by rw [List.length_map]; exact a, fun i l hl => by rw [b i]; exact hS.2 i l hl⟩
    · intro h
      have a := h.1
      rw [List.length_map] at a
      refine ⟨a, fun w => ?_⟩
      by_cases z : w < xss.length
      · have hw : (xss.map List.length)[w]? = some xss[w].length := by simp [z]
        rw [h.2 w _ hw, hS.2 w _ hw]
      · rw [cnt_none a (by omega), cnt_none hin (by omega)]
  constructor
  · rintro ⟨a, b, c⟩
    have hq := hc.1 ⟨a, b⟩
    exact ⟨hq, (sameB_alk hS hq).2 c⟩
  · rintro ⟨a, b⟩
    obtain ⟨c, d⟩ := hc.2 a
    exact ⟨c, d, (sameB_alk hS a).1 b⟩
theorem filter_step' {α : Type} (f : α → Bool) (l : List α) {i : Nat} (h : i < l.length) : ((l.take (i + 1)).filter f).length = ((l.take i).filter f).length + if f l[i] = true then 1 else 0 := by
  rw [take_succ' l h, List.filter_append, List.length_append]
  congr 1
  cases e : f l[i] <;> simp [List.filter, e]

theorem rkin_spec {s : Sc} {t : Sl} {h : Heap} {bs ps : List Int} {xss : List (List Ac)} (r : ScR h s bs xss) (hs : Small bs xss) {c1 : Sc → Sl → Heap → (Int → Heap → Prop) → Prop} {c2 : Sc → Heap → (Sl → Heap → Prop) → Prop} {c3 : Sc → Sl → Sl → Heap → (Bool → Heap → Prop) → Prop}
    (i1 : ∀ {Q : Int → Heap → Prop}, (∀ e, Rdy s.1 bs.length xss ps e → Q e h) → c1 s t h Q)
    (i2 : ∀ {Q : Sl → Heap → Prop}, chkE s.1 bs.length xss = 0 → (∀ o els h', Nest h h' ki o els (allS xss) → Q o h') → c2 s h Q)
    (i3 : ∀ {k : Heap} {u : Sl} {qs : List Int} {Q : Bool → Heap → Prop}, le h k → chkE s.1 bs.length xss = 0 → ScriptP (xss.map List.length) ps → ScriptP (xss.map List.length) qs → Arr k ki u qs → qs.length ≤ 1000000 → (∀ h', le k h' → Q (sameB s.1 bs.length xss ps qs) h') → c3 s t u k Q)
    {Q : Den kcellsledger → Heap → Prop} (hQ : ∀ e h', Rdy s.1 bs.length xss ps e → le h h' → Q (kinP s.1 bs.length xss ps e, (e, ())) h') : ref22_Kin.M c1 c2 c3 s t h Q := by
  refine i1 fun e hr => ⟨fun d => ?_, fun d => ?_⟩
  · have d : e ≠ 0 := of_decide_eq_true d
    have := hQ e h hr (.refl h)
    unfold kinP at this
    rw [if_neg d] at this
    exact this
  have d : ¬ e ≠ 0 := of_decide_eq_false d
  obtain rfl : e = 0 := Decidable.not_not.1 d
  obtain ⟨hc, hS⟩ := hr.ok
  obtain ⟨_, _, _, hx4, ha, _⟩ := chkE_ok hc
  have h10 := ten hs.2.1 hs.2.2 hc hS
  have hsum : (xss.map List.length).sum ≤ 10 := by rw [← hS.len]; exact h10
  have hall := allS_len hx4 hsum
  have hkin : kinP s.1 bs.length xss ps 0 = (((allS xss).filter (sameB s.1 bs.length xss ps)).length : Int) := by
    unfold kinP; rw [if_pos rfl, kin_eq hS]
  have hQ' : ∀ h', le h h' → Q ((((allS xss).filter (sameB s.1 bs.length xss ps)).length : Int), (0, ())) h' := fun h' l => by
    rw [← hkin]; exact hQ 0 h' hr l
  clear hQ hkin
  refine i2 hc fun o els h7 n => ?_
  have hol := n.out.len
  have hel := n.len
  refine Loop.up (allS xss).length (fun s => s.2.1) (fun i st k => le h7 k ∧ st.1 = ((((allS xss).take i).filter (sameB s.1 bs.length xss ps)).length : Int)) rfl ⟨.refl _, rfl⟩ ?_
  rintro i ⟨v, i', u⟩ k go hi hcc ⟨lk, hv⟩ hgo
  dsimp only at hcc hv; subst hcc; subst hv
  refine dcs (fun e => ?_) (fun e => ?_)
  · have e : (i : Int) < (o.len : Int) := e
    have hia : i < (allS xss).length := by omega
    have hie : i < els.length := by omega
    have nk := n.more lk
    refine ⟨⟨Int.natCast_nonneg i, e⟩, nk.out.arr.at (Int.natCast_nonneg i) e rfl fun sl hsl => ?_⟩
    rw [Int.toNat_natCast, List.getElem?_eq_getElem hie] at hsl
    obtain rfl := Option.some.inj hsl
    have hrow := nk.row i _ _ (List.getElem?_eq_getElem hie) (List.getElem?_eq_getElem hia)
    have hq : ScriptP (xss.map List.length) (allS xss)[i] := allS_mem.1 (List.getElem_mem hia)
    have hq10 := ten hs.2.1 hs.2.2 hc hq
    have hle : (((allS xss).take i).filter (sameB s.1 bs.length xss ps)).length ≤ 1048576 := by
      have := List.length_filter_le (sameB s.1 bs.length xss ps) ((allS xss).take i)
      rw [List.length_take] at this
      omega
    refine i3 (n.le.trans lk) hc hS hq hrow.arr (by omega) fun h' l' => bcs (fun z => ?_) (fun z => ?_)
    · have z : sameB s.1 bs.length xss ps (allS xss)[i] = true := z
      refine hgo hia _ _ (w64_up' (n := (allS xss).length) hia (by omega)) ⟨lk.trans l', ?_⟩
      rw [filter_step' _ _ hia, if_pos z]
      show w64 (((((allS xss).take i).filter (sameB s.1 bs.length xss ps)).length : Int) + 1) = _
      rw [w64_of (by omega) (by omega)]; rfl
    · have z : sameB s.1 bs.length xss ps (allS xss)[i] = false := z
      refine hgo hia _ _ (w64_up' (n := (allS xss).length) hia (by omega)) ⟨lk.trans l', ?_⟩
      rw [filter_step' _ _ hia, z]; rfl
  · have e : ¬ (i : Int) < (o.len : Int) := e
    obtain rfl : i = (allS xss).length := by omega
    rw [List.take_length]
    exact hQ' k (n.le.trans lk)
theorem scripts_spec {s : Sc} {h : Heap} {xss : List (List Ac)} {c : Sc → Sl → Sl → Heap → (Sl → Heap → Prop) → Prop}
    (i : ∀ {Q : Sl → Heap → Prop}, (∀ l' els' h', Nest h h' ki l' els' ([] ++ allS xss) → Q l' h') → c s ⟨none, 0, 0⟩ ⟨none, 0, 0⟩ h Q)
    {Q : Sl → Heap → Prop} (hQ : ∀ o els h', Nest h h' ki o els (allS xss) → Q o h') : ref22_Scripts.M c s h Q :=
  i fun l els h' n => hQ l els h' n
theorem exploreKin_spec {s : Sc} {t : Sl} {h0 : Heap} {bs ps : List Int} {xss : List (List Ac)} (r : ScR h0 s bs xss) (hs : Small bs xss) (hp : Arr h0 ki t ps) (hn : ps.length ≤ 1048576) {Q : Bool → Heap → Prop} (hQ : ∀ h', le h0 h' → Q true h')
    {c1 : Sc → Heap → (Sc → Heap → Prop) → Prop} {c2 : Sc → Heap → (Unit → Heap → Prop) → Prop} {c3 : Sl → Heap → (Sl → Heap → Prop) → Prop} {c4 c7 : Sc → Sl → Heap → (Den kcellsledger → Heap → Prop) → Prop} {c5 : Sc → Sc → Heap → (Unit → Heap → Prop) → Prop}
    {c6 : Sl → Sl → Heap → (Unit → Heap → Prop) → Prop} {c8 : Sc → Sc → Heap → (Bool → Heap → Prop) → Prop} {c9 : Sl → Sl → Heap → (Bool → Heap → Prop) → Prop}
    (i1 : ∀ {a h Q}, law22_copied.M a h Q → c1 a h Q) (i2 : ∀ {a h Q}, law22_moved.M a h Q → c2 a h Q) (i3 : ∀ {a h Q}, law22_turned.M a h Q → c3 a h Q)
    (i4 : ∀ {s : Sc} {t : Sl} {h : Heap} {bs ps : List Int} {xss : List (List Ac)} {Q : Den kcellsledger → Heap → Prop}, ScR h s bs xss → Small bs xss → Arr h ki t ps → ps.length ≤ 1048576 → (∀ e h', Rdy s.1 bs.length xss ps e → le h h' → Q (kinP s.1 bs.length xss ps e, (e, ())) h') → c4 s t h Q)
    (i5 : ∀ {a b h Q}, law22_back.M a b h Q → c5 a b h Q) (i6 : ∀ {a b h Q}, law22_written.M a b h Q → c6 a b h Q)
    (i7 : ∀ {s : Sc} {t : Sl} {h : Heap} {bs ps : List Int} {xss : List (List Ac)} {Q : Den kcellsledger → Heap → Prop}, ScR h s bs xss → Small bs xss → Arr h ki t ps → ps.length ≤ 1048576 → (∀ e h', Rdy s.1 bs.length xss ps e → le h h' → Q (kinP s.1 bs.length xss ps e, (e, ())) h') → c7 s t h Q)
    (i8 : ∀ {h : Heap} {a b : Sc} {cls : List Sl} {mk : Sl} {bs : List Int} {xss : List (List Ac)} {Q}, Scn h0 h a cls mk bs xss → ScR h0 b bs xss → Small bs xss → a.1 = b.1 → Q true h → c8 a b h Q)
    (i9 : ∀ {h0 h : Heap} {t s : Sl} {ps : List Int} {Q : Bool → Heap → Prop}, BayK h0 h ki t ps (-77) → Arr h ki s ps → ps.length ≤ 1048576 → Q true h → c9 t s h Q) :
    law22_ExploreKin.M c1 c2 c3 c4 c5 c6 c7 c8 c9 s t h0 Q := by
  refine i1 (copied_spec r hs fun c hA cls mk oA eA => i2 (moved_spec oA hs fun h2 bs' xss' o2 el ek => ?_))
  refine i3 (turned_spec (hp.le o2.base) hn fun p h3 qs bp hq => ?_)
  have o3 := o2.more bp.le
  refine i4 o3.read (o3.small hs el ek) bp.arr (by omega) fun e0 h4 hr0 l4 => ?_
  have o4 := o3.more l4
  have bp4 := bp.more l4
  refine i5 (back_spec2 o4 r hs el ek fun h5 o5 x5 => ?_)
  have dps : ∀ x, blkOf p x → ¬ fpS c cls x := fun x a b => o2.live (.inl b) (bp.new x a)
  have bp5 := (bp4.base o2.base).ext x5 dps (fun x q => o4.fresh q)
  refine i4 o5.read hs bp5.arr (by omega) fun e1 h6 hr1 l6 => ?_
  have o6 := o5.more l6
  have bp6 := bp5.more l6
  refine i6 (written_spec bp6 hp hq.symm hn fun h7 bp7 x7 => ?_)
  have o7 := o6.ext x7 (fun x a b => dps x b a) (fun x a b => o2.live (.inr (.inl a)) (bp.new x b)) (fun x a b => o2.live (.inr (.inr a)) (bp.new x b)) bp5.new
  refine i4 o7.read hs bp7.arr hn fun e h8 hr l8 => ?_
  have o8 := o7.more l8
  have bp8 := bp7.more l8
  refine i7 (r.le o8.base) hs (hp.le o8.base) hn fun e' hE hrw lE => ?_
  have ec : c.1 = s.1 := eA
  have hrw : Rdy c.1 bs.length xss ps e' := by rw [ec]; exact hrw
  obtain rfl := hr.one hrw
  have oE := o8.more lE
  have bpE := bp8.more lE
  refine dcs (fun _ => dcs (fun _ => i8 oE r hs ec ⟨fun _ => i9 bpE (hp.le oE.base) hn (hQ _ oE.base), fun d => (by cases d)⟩) (fun d => absurd rfl d)) (fun d => ?_)
  refine absurd ?_ d
  show kinP c.1 bs.length xss ps e = kinP s.1 bs.length xss ps e
  rw [ec]
end Go.Mx
