/-
  Chapter 22, outright: among, stands, scripts; the laws ExploreEnds and ExploreOnce.
-/
import Derived.Test.YtipihecaaakagaaMxYa
import Derived.Test.YtipihecaaakagaaMxFi
set_option linter.unusedVariables false
set_option linter.unusedSimpArgs false
set_option linter.unusedSectionVars false
namespace Go.Mx

theorem sameCells2_spec {h : Heap} {a b : Sl} {xs ys : List Int} (ha : Arr h ki a xs) (hb : Arr h ki b ys) (hn : xs.length ≤ 1000000) {Q : Bool → Heap → Prop} (hQ : Q (decide (xs = ys)) h) : law22_sameCells.M a b h Q := by
  have hal := ha.1
  have hbl := hb.1
  refine dcs (fun e => ?_) (fun e => ?_)
  · have e : (a.len : Int) ≠ (b.len : Int) := e
    have : decide (xs = ys) = false := decide_eq_false fun q => e (by rw [← hal, ← hbl, q])
    rw [this] at hQ; exact hQ
  · have e : ¬ (a.len : Int) ≠ (b.len : Int) := e
    have hlen : xs.length = ys.length := by omega
    refine Loop.up xs.length (fun s => s.1) (fun i st k => k = h ∧ xs.take i = ys.take i) rfl ⟨rfl, rfl⟩ ?_
    rintro i ⟨i', u⟩ k go hi hc ⟨rfl, hI⟩ hgo
    dsimp only at hc; subst hc
    refine dcs (fun e2 => ?_) (fun e2 => ?_)
    · have e2 : (i : Int) < (a.len : Int) := e2
      have hia : i < xs.length := by omega
      have hib : i < ys.length := by omega
      refine ha.two2 hb (Int.natCast_nonneg i) e2 (Int.natCast_nonneg i) (by omega) fun x y hx hy => ?_
      rw [Int.toNat_natCast, List.getElem?_eq_getElem hia] at hx
      rw [Int.toNat_natCast, List.getElem?_eq_getElem hib] at hy
      obtain rfl := Option.some.inj hx
      obtain rfl := Option.some.inj hy
      refine dcs (fun z => ?_) (fun z => ?_)
      · have z : xs[i] ≠ ys[i] := z
        have : decide (xs = ys) = false := decide_eq_false fun q => z (by subst q; rfl)
        rw [this] at hQ; exact hQ
      · have z : xs[i] = ys[i] := Decidable.not_not.1 z
        refine hgo hia _ _ (w64_up' (n := xs.length) hia (by omega)) ⟨rfl, ?_⟩
        rw [take_succ' xs hia, take_succ' ys hib, hI, z]
    · have e2 : ¬ (i : Int) < (a.len : Int) := e2
      obtain rfl : i = xs.length := by omega
      have : decide (xs = ys) = true := decide_eq_true (by
        have h1 : xs.take xs.length = ys.take ys.length := by rw [hI, hlen]
        rwa [List.take_length, List.take_length] at h1)
      rw [this] at hQ; exact hQ
def standS : List (List Ac) := [[(0, (1, (0, (1, (0, ())))))], [(0, (1, (0, (2, (0, ())))))]]
theorem stand_exp : (expS 1 1 standS).length = 2 := by decide
theorem stand_fin : (finL 1 [0] standS (expS 1 1 standS)).length = 2 := by decide
theorem stand_chk : chkE 1 1 standS = 0 := by decide
theorem stands_spec {h : Heap} {c1 c2 : Sc → Heap → ((Sl × (Int × Unit)) → Heap → Prop) → Prop}
    (iE : ∀ {s : Sc} {h : Heap} {bs : List Int} {xss : List (List Ac)} {Q : (Sl × (Int × Unit)) → Heap → Prop}, ScR h s bs xss → Small bs xss → (∀ o h', FoR h h' o (expP s.1 bs.length xss (chkE s.1 bs.length xss)) → Q (o, (chkE s.1 bs.length xss, ())) h') → c1 s h Q)
    (iF : ∀ {s : Sc} {h : Heap} {bs : List Int} {xss : List (List Ac)} {Q : (Sl × (Int × Unit)) → Heap → Prop}, ScR h s bs xss → Small bs xss → (∀ o h', FoR h h' o (finP s.1 bs xss (chkE s.1 bs.length xss)) → Q (o, (chkE s.1 bs.length xss, ())) h') → c2 s h Q)
    {Q : Bool → Heap → Prop} (hQ : ∀ h', le h h' → Q true h') : law22_stands.M c1 c2 h Q := by
  refine (New.nil h ki).app rfl rfl (by decide) fun t4 h5 n5 => ?_
  refine (New.nil h5 kapiAct).app rfl rfl (by decide) fun t8 h9 n9 => ?_
  refine (New.nil h9 kapiAct).app rfl rfl (by decide) fun t12 h13 n13 => ?_
  have nn := Nest.nil h13 kapiAct
  refine (New.nil h13 .sl).app (k := .sl) rfl rfl (by decide) fun t16 h17 n17 => ?_
  have hl17 := n17.len
  refine n17.app (k := .sl) rfl rfl (by show (t16.len + 1) * 24 ≤ _; have : t16.len = 1 := hl17.symm; omega) fun t20 h21 n21 => ?_
  have l5 := n5.le
  have l9 := n9.le
  have l13 := n13.le
  have l21 := n21.le
  have r : ScR h21 (1, (t4, (t20, ()))) [0] standS := by
    refine ⟨(n5.arr).le ((l9.trans l13).trans l21), [t8, t12], n21.arr, rfl, fun i sl xs a b => ?_⟩
    match i with
    | 0 => cases a; cases b; exact n9.arr.le (l13.trans l21)
    | 1 => cases a; cases b; exact n13.arr.le l21
    | i + 2 => cases a
  have hs : Small [0] standS := by
    refine ⟨by decide, by decide, fun xs hx => ?_⟩
    have := len_le_sum hx
    have h2 : (standS.map List.length).sum = 2 := rfl
    omega
  have hc : chkE 1 ([0] : List Int).length standS = 0 := stand_chk
  refine iE r hs fun o1 h22 f1 => ?_
  have f1 : FoR h21 h22 o1 (expP 1 1 standS (chkE 1 ([0] : List Int).length standS)) := f1
  rw [hc] at f1
  obtain ⟨e1, f1⟩ := f1
  refine iF (r.le f1.le) hs fun o2 h24 f2 => ?_
  have f2 : FoR h22 h24 o2 (finP 1 [0] standS (chkE 1 ([0] : List Int).length standS)) := f2
  rw [hc] at f2
  obtain ⟨e2, f2⟩ := f2
  have k1 : (o1.len : Int) = 2 := by
    have a := f1.out.len
    have b := f1.len
    have c : (expP 1 1 standS 0).length = 2 := stand_exp
    omega
  have k2 : (o2.len : Int) = 2 := by
    have a := f2.out.len
    have b := f2.len
    have c : (finP 1 [0] standS 0).length = 2 := stand_fin
    omega
  have lf := ((((l5.trans l9).trans l13).trans l21).trans f1.le).trans f2.le
  refine dcs (fun _ => dcs (fun _ => dcs (fun _ => ?_) (fun q => absurd k1 q)) (fun q => absurd hc q)) (fun q => absurd hc q)
  show Q (decide ((o2.len : Int) = 2)) h24
  rw [decide_eq_true k2]
  exact hQ _ lf


end Go.Mx
