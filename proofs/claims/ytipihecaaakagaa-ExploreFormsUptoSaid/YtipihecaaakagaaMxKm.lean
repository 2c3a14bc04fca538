/-
  How many scripts are alike: the walk of the program's Kin.
  All scripts, in order: the reference's Scripts and Kin.
  ExploreKin: the reference's count, and the law.
-/
import Derived.Test.YtipihecaaakagaaMxKk
set_option linter.unusedVariables false
set_option linter.unusedSimpArgs false
set_option linter.unusedSectionVars false
namespace Go.Mx

def rowB (bd : Ev → Ev → Bool) (ps : List Int) (e : Ev) : Den ka4 := fun w => (bfE bd ps e (w.val : Int) : Int)
def kRow (bd : Ev → Ev → Bool) (ps : List Int) (i o : Nat) : List (Den ka4) := (List.range (cnt (ps.take i) o)).map fun k => rowB bd ps ((o : Int), k)
def kRows (bd : Ev → Ev → Bool) (ps : List Int) (nA i : Nat) : List (List (Den ka4)) := (List.range nA).map (kRow bd ps i)
theorem kRows_zero (bd : Ev → Ev → Bool) (ps : List Int) (nA : Nat) : kRows bd ps nA 0 = List.replicate nA [] := by
  apply List.ext_getElem
  · simp [kRows]
  · intro i _ _
    simp [kRows, kRow, cnt]
theorem kRows_at {bd : Ev → Ev → Bool} {ps : List Int} {nA i x : Nat} (h : x < (kRows bd ps nA i).length) : (kRows bd ps nA i)[x] = kRow bd ps i x := by simp [kRows]
theorem rowB_at (bd : Ev → Ev → Bool) (ps : List Int) (e : Ev) {w : Nat} (h : w < 4) : ag4 (rowB bd ps e) w = (bfE bd ps e (w : Int) : Int) := by
  unfold ag4 aget; rw [dif_pos h]; rfl
theorem evL_at {ps : List Int} {i : Nat} (h : i < ps.length) : (evL ps)[i]? = some (ps[i], cnt (ps.take i) ps[i].toNat) := by
  rw [evL_get, if_pos h]
  simp [h]
theorem sumN_cnt {n : Nat} {ps : List Int} (h : InR n ps) : sumN n (cnt ps) = ps.length := cnt_sum n ps h
theorem ka4_ext {f g : Den ka4} (h : ∀ w, w < 4 → ag4 f w = ag4 g w) : f = g := by
  funext i
  have := h i.val i.isLt
  unfold ag4 aget at this
  rw [dif_pos i.isLt, dif_pos i.isLt] at this
  exact this
theorem ag4_set (f : Den ka4) {i j : Nat} {v : Int} (hj : j < 4) : ag4 (aset (n := 4) (a := ki) f i v) j = if j = i then v else ag4 f j := aget_set hj

theorem bnd4 {x : Int} {v : Nat} (h : x = (v : Int)) (hv : v < 4) : 0 ≤ x ∧ x < (4 : Int) := by omega
theorem bndN {x : Int} {v n : Nat} (h : x = (v : Int)) (hv : v < n) : 0 ≤ x ∧ x < (n : Int) := by omega
/-- The value of Kin. -/
def kinP (sz len : Int) (xss : List (List Ac)) (ps : List Int) (e : Int) : Int := if e = 0 then (waysN (bfE (bdE sz len xss) ps) xss.length ps.length (cnt ps) : Int) else 0

end Go.Mx

namespace Go.Mx

/-- One more row. -/
theorem Nest.snoc {h0 h : Heap} {k : Kd} {o t : Sl} {els : List Sl} {xss : List (List (Den k))} {ys : List (Den k)} (n : Nest h0 h k o els xss) (nt : New h0 h k t ys) (ap : ∀ x, blkOf t x → ¬ fpN o els x) (hb : (o.len + 1) * 24 ≤ 140737488355328) {K : Sl → Heap → Prop}
    (hK : ∀ o' h', Nest h0 h' k o' (els ++ [t]) (xss ++ [ys]) → Ext (blkOf o) h h' → (∀ b, blkOf o' b → blkOf o b ∨ h b = none) → K o' h') : Go.Mx.new h ([t].flatMap (Kd.cells .sl)) fun p h1 => appendM 1 24 h1 o ⟨some p, 1, 1⟩ K := by
  obtain ⟨s1, s2⟩ := List.pairwise_cons.1 n.sep
  refine n.out.app3 rfl rfl hb fun o' h' n2 x2 b2 => hK o' h' ⟨n2, by rw [List.length_append, List.length_append, n.len]; rfl, fun i sl xs a b => ?_, List.pairwise_cons.2 ⟨fun sl hs b hb1 hb2 => ?_, ?_⟩⟩ x2 b2
  · by_cases c : i < els.length
    · rw [List.getElem?_append_left c] at a
      rw [List.getElem?_append_left (by rw [← n.len]; exact c)] at b
      exact (n.row i sl xs a b).ext x2 (fun z u v => s1 sl (List.mem_of_getElem? a) z v u) n.out.new
    · rw [List.getElem?_append_right (by omega)] at a
      rw [List.getElem?_append_right (by rw [← n.len]; omega)] at b
      have a1 := List.mem_of_getElem? a
      have b1 := List.mem_of_getElem? b
      have a1 : sl = t := by simpa using a1
      have b1 : xs = ys := by simpa using b1
      subst a1; subst b1
      exact nt.ext x2 (fun z u v => ap z u (.inl v)) n.out.new
  · rcases List.mem_append.1 hs with hs | hs
    · rcases b2 b hb1 with d | d
      · exact s1 sl hs b d hb2
      · obtain ⟨xs, q⟩ := n.row' hs
        exact q.own.live b hb2 d
    · have : sl = t := by simpa using hs
      subst this
      rcases b2 b hb1 with d | d
      · exact ap b hb2 (.inl d)
      · exact nt.own.live b hb2 d
  · rw [List.pairwise_append]
    refine ⟨s2, by simp, fun a ha b hb' x hx hy => ?_⟩
    have : b = t := by simpa using hb'
    subst this
    exact ap x hy (.inr ⟨a, ha, hx⟩)
theorem Step.ofLe {S : Nat → Prop} {h h' : Heap} (l : Go.Mx.le h h') : Step S S h h' := ⟨l.toExt, fun _ q => .inl q⟩

/-! ### all scripts, in order -/
def allW (lens : List Nat) : Nat → List Int → List (List Int)
  | 0, u => [u]
  | n + 1, u => (List.range lens.length).flatMap fun w => if cnt u w < (lens[w]?).getD 0 then allW lens n (u ++ [(w : Int)]) else []
def allC (lens : List Nat) (n : Nat) (u : List Int) (w : Nat) : List (List Int) := if cnt u w < (lens[w]?).getD 0 then allW lens n (u ++ [(w : Int)]) else []
theorem allW_succ (lens : List Nat) (n : Nat) (u : List Int) : allW lens (n + 1) u = (List.range lens.length).flatMap (allC lens n u) := rfl
theorem flat_len_le {α β : Type} (f : α → List β) (c : Nat) (l : List α) (h : ∀ x ∈ l, (f x).length ≤ c) : (l.flatMap f).length ≤ l.length * c := by
  induction l with
  | nil => simp
  | cons a l ih =>
    rw [List.flatMap_cons, List.length_append, List.length_cons, Nat.succ_mul]
    have h1 := h a (by simp)
    have := ih fun x hx => h x (List.mem_cons_of_mem _ hx)
    omega
theorem allW_len (lens : List Nat) (h4 : lens.length ≤ 4) : ∀ (n : Nat) (u : List Int), (allW lens n u).length ≤ 4 ^ n
  | 0, _ => Nat.le_refl _
  | n + 1, u => by
    rw [allW_succ]
    have := flat_len_le (allC lens n u) (4 ^ n) (List.range lens.length) fun w _ => by
      unfold allC
      split
      · exact allW_len lens h4 n _
      · exact Nat.zero_le _
    rw [List.length_range] at this
    have h2 : lens.length * 4 ^ n ≤ 4 * 4 ^ n := Nat.mul_le_mul_right _ h4
    rw [Nat.pow_succ]
    omega
theorem allW_mem (lens : List Nat) : ∀ (n : Nat) (u q : List Int), (∀ w, cnt u w ≤ (lens[w]?).getD 0) → (q ∈ allW lens n u ↔ ∃ v, q = u ++ v ∧ v.length = n ∧ InR lens.length v ∧ ∀ w, cnt q w ≤ (lens[w]?).getD 0)
  | 0, u, q, hu => by
    show q ∈ [u] ↔ _
    rw [List.mem_singleton]
    constructor
    · rintro rfl
      exact ⟨[], by simp, rfl, fun p hp => (by cases hp), hu⟩
    · rintro ⟨v, h1, h2, _, _⟩
      have : v = [] := List.eq_nil_of_length_eq_zero h2
      rw [h1, this, List.append_nil]
  | n + 1, u, q, hu => by
    rw [allW_succ, List.mem_flatMap]
    constructor
    · rintro ⟨w, hw, hq⟩
      have hw := List.mem_range.1 hw
      unfold allC at hq
      by_cases z : cnt u w < (lens[w]?).getD 0
      · rw [if_pos z] at hq
        have hu2 : ∀ x, cnt (u ++ [(w : Int)]) x ≤ (lens[x]?).getD 0 := fun x => by
          rw [cnt_app, cnt_one]
          have := hu x
          by_cases y : (w : Int) = (x : Int)
          · have : w = x := by omega
            subst this
            rw [if_pos rfl]; omega
          · rw [if_neg y]; omega
        obtain ⟨v, h1, h2, h3, h4⟩ := (allW_mem lens n _ q hu2).1 hq
        refine ⟨(w : Int) :: v, by rw [h1]; simp, by rw [List.length_cons, h2], fun p hp => ?_, h4⟩
        rcases List.mem_cons.1 hp with rfl | hp
        · omega
        · exact h3 p hp
      · rw [if_neg z] at hq; cases hq
    · rintro ⟨v, h1, h2, h3, h4⟩
      cases v with
      | nil => cases h2
      | cons p v =>
        have hp := h3 p (by simp)
        obtain ⟨w, rfl⟩ : ∃ w : Nat, p = (w : Int) := ⟨p.toNat, by omega⟩
        refine ⟨w, List.mem_range.2 (by omega), ?_⟩
        have hcw : cnt u w < (lens[w]?).getD 0 := by
          have := h4 w
          rw [h1, cnt_app, cnt_cons, if_pos rfl] at this
          omega
        unfold allC
        rw [if_pos hcw]
        have hu2 : ∀ x, cnt (u ++ [(w : Int)]) x ≤ (lens[x]?).getD 0 := fun x => by
          rw [cnt_app, cnt_one]
          have := hu x
          by_cases y : (w : Int) = (x : Int)
          · have : w = x := by omega
            subst this
            rw [if_pos rfl]; omega
          · rw [if_neg y]; omega
        exact (allW_mem lens n _ q hu2).2 ⟨v, by rw [h1]; simp, by simpa using h2, fun p hp => h3 p (List.mem_cons_of_mem _ hp), h4⟩
theorem allW_nodup (lens : List Nat) : ∀ (n : Nat) (u : List Int), (∀ w, cnt u w ≤ (lens[w]?).getD 0) → (allW lens n u).Nodup
  | 0, u, _ => by simp [allW]
  | n + 1, u, hu => by
    have hu2 : ∀ w, cnt u w < (lens[w]?).getD 0 → ∀ x, cnt (u ++ [(w : Int)]) x ≤ (lens[x]?).getD 0 := fun w hw x => by
      rw [cnt_app, cnt_one]
      have := hu x
      by_cases y : (w : Int) = (x : Int)
      · have : w = x := by omega
        subst this
        rw [if_pos rfl]; omega
      · rw [if_neg y]; omega
    rw [allW_succ, List.Nodup, List.pairwise_flatMap]
    refine ⟨fun w _ => ?_, List.pairwise_lt_range.imp fun {a b} hab x hx y hy e => ?_⟩
    · unfold allC
      by_cases z : cnt u w < (lens[w]?).getD 0
      · rw [if_pos z]; exact allW_nodup lens n _ (hu2 w z)
      · rw [if_neg z]; exact .nil
    · have hd : ∀ {w : Nat} {x : List Int}, x ∈ allC lens n u w → ∃ v, x = u ++ (w : Int) :: v := fun {w x} hx => by
        unfold allC at hx
        by_cases z : cnt u w < (lens[w]?).getD 0
        · rw [if_pos z] at hx
          obtain ⟨v, h1, _⟩ := (allW_mem lens n _ x (hu2 w z)).1 hx
          exact ⟨v, by rw [h1]; simp⟩
        · rw [if_neg z] at hx; cases hx
      obtain ⟨v, h1⟩ := hd hx
      obtain ⟨v2, h2⟩ := hd hy
      rw [e, h2] at h1
      have := List.append_cancel_left h1
      have := (List.cons.inj this).1
      omega
theorem allW_script {lens : List Nat} {q : List Int} : q ∈ allW lens lens.sum [] ↔ ScriptP lens q := by
  have h0 : ∀ w, cnt [] w ≤ (lens[w]?).getD 0 := fun w => Nat.zero_le _
  rw [allW_mem lens _ _ _ h0]
  constructor
  · rintro ⟨v, h1, h2, h3, h4⟩
    rw [List.nil_append] at h1
    subst h1
    refine ⟨h3, fun i l hl => ?_⟩
    have hs := cnt_sum lens.length q h3
    have hls : ((List.range lens.length).map fun w => (lens[w]?).getD 0) = lens := by
      apply List.ext_getElem
      · simp
      · intro i _ hi
        simp [hi]
    have key : ∀ (L : List Nat) (f g : Nat → Nat), (∀ x ∈ L, f x ≤ g x) → (L.map f).sum = (L.map g).sum → ∀ x ∈ L, f x = g x := fun L f g => by
      induction L with
      | nil => intro _ _ x hx; cases hx
      | cons a L ih =>
        intro hle he x hx
        rw [List.map_cons, List.map_cons, List.sum_cons, List.sum_cons] at he
        have ha := hle a (by simp)
        have hsl : (L.map f).sum ≤ (L.map g).sum := by
          have : ∀ M : List Nat, (∀ x ∈ M, f x ≤ g x) → (M.map f).sum ≤ (M.map g).sum := fun M => by
            induction M with
            | nil => intro _; exact Nat.le_refl _
            | cons b M ihM =>
              intro h
              rw [List.map_cons, List.map_cons, List.sum_cons, List.sum_cons]
              have := ihM fun x hx => h x (List.mem_cons_of_mem _ hx)
              have := h b (by simp)
              omega
          exact this L fun x hx => hle x (List.mem_cons_of_mem _ hx)
        rcases List.mem_cons.1 hx with rfl | hx
        · omega
        · exact ih (fun x hx => hle x (List.mem_cons_of_mem _ hx)) (by omega) x hx
    have hil : i < lens.length := (List.getElem?_eq_some_iff.1 hl).1
    have := key (List.range lens.length) (cnt q) (fun w => (lens[w]?).getD 0) (fun x _ => h4 x) (by rw [hls, hs, h2]) i (List.mem_range.2 hil)
    rw [this, hl]; rfl
  · intro h
    refine ⟨q, by simp, h.len, h.1, fun w => ?_⟩
    by_cases z : w < lens.length
    · rw [h.2 w lens[w] (by simp)]; simp [z]
    · rw [cnt_none h.1 (by omega)]; exact Nat.zero_le _

end Go.Mx

namespace Go.Mx

def sameB (sz len : Int) (xss : List (List Ac)) (ps qs : List Int) : Bool := sameR (bdA sz len) (rowP xss ps ps.length) qs
def allS (xss : List (List Ac)) : List (List Int) := allW (xss.map List.length) (xss.map List.length).sum []
theorem allS_mem {xss : List (List Ac)} {q : List Int} : q ∈ allS xss ↔ ScriptP (xss.map List.length) q := allW_script
theorem allS_nodup (xss : List (List Ac)) : (allS xss).Nodup := allW_nodup _ _ _ fun w => Nat.zero_le _
theorem allS_len {xss : List (List Ac)} (h4 : xss.length ≤ 4) (hT : (xss.map List.length).sum ≤ 10) : (allS xss).length ≤ 1048576 := by
  have h1 := allW_len (xss.map List.length) (by simpa using h4) (xss.map List.length).sum []
  have h2 : 4 ^ (xss.map List.length).sum ≤ 4 ^ 10 := Nat.pow_le_pow_right (by omega) hT
  have h3 : (4 : Nat) ^ 10 = 1048576 := by decide
  unfold allS
  omega
theorem sameB_alk {sz len : Int} {xss : List (List Ac)} {ps qs : List Int} (hS : ScriptP (xss.map List.length) ps) (hSq : ScriptP (xss.map List.length) qs) : sameB sz len xss ps qs = true ↔ Alk (bdE sz len xss) (evL ps) (evL qs) := by
  have s2 := hS.same2 hSq
  have := sameR_alk (sz := sz) (len := len) (xss := xss) (m := evL qs) (evL_nodup s2.p0) (fun e he => ((evL_mem s2.p0 e).1 he).1) s2.filt
  rw [evL_fst, ← evL_rows] at this
  exact this
theorem kin_eq {sz len : Int} {xss : List (List Ac)} {ps : List Int} (hS : ScriptP (xss.map List.length) ps) : waysN (bfE (bdE sz len xss) ps) xss.length ps.length (cnt ps) = ((allS xss).filter (sameB sz len xss ps)).length := by
  rw [← waysL_len]
  have hin := hS.1
  rw [List.length_map] at hin
  have h0 : ∀ p ∈ ps, 0 ≤ p := fun p hp => (hin p hp).1
  have hup : uptoE ps (cnt ps) = evL ps := by
    unfold uptoE
    rw [List.filter_eq_self]
    intro e he
    exact decide_eq_true ((evL_mem h0 e).1 he).2
  refine List.Perm.length_eq ((List.perm_ext_iff_of_nodup (waysL_nodup _ _ _ _) ((allS_nodup xss).filter _)).2 fun q => ?_)
  rw [waysL_mem (bdE sz len xss) (bdE_sym sz len xss) hin ps.length (cnt ps) (sumN_cnt hin) (fun w => Nat.le_refl _) (fun f _ g hg _ => by rw [hup]; exact (pair_mem hg).1) q, List.mem_filter, allS_mem, hup]
  have hc : (InR xss.length q ∧ ∀ w, cnt q w = cnt ps w) ↔ ScriptP (xss.map List.length) q := by
    constructor
    · rintro ⟨a, b⟩
      exact ⟨by rw [List.length_map]; exact a, fun i l hl => by rw [b i]; exact hS.2 i l hl⟩
    · intro h
      have a := h.1
      rw [List.length_map] at a
      refine ⟨a, fun w => ?_⟩
      by_cases z : w < xss.length
      · have hw : (xss.map List.length)[w]? = some xss[w].length := by simp [z]
        rw [h.2 w _ hw, hS.2 w _ hw]
      · rw [cnt_none a (by omega), cnt_none hin (by omega)]
  constructor
  · rintro ⟨a, b, c⟩
    have hq := hc.1 ⟨a, b⟩
    exact ⟨hq, (sameB_alk hS hq).2 c⟩
  · rintro ⟨a, b⟩
    obtain ⟨c, d⟩ := hc.2 a
    exact ⟨c, d, (sameB_alk hS a).1 b⟩
theorem filter_step' {α : Type} (f : α → Bool) (l : List α) {i : Nat} (h : i < l.length) : ((l.take (i + 1)).filter f).length = ((l.take i).filter f).length + if f l[i] = true then 1 else 0 := by
  rw [take_succ' l h, List.filter_append, List.length_append]
  congr 1
  cases e : f l[i] <;> simp [List.filter, e]

end Go.Mx
