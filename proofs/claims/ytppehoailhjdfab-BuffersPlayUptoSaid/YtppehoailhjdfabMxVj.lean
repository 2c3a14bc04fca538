/-
  The law BuffersPlay, joined.
-/
import Derived.Test.YtppehoailhjdfabMxVi
set_option linter.unusedVariables false
set_option linter.unusedSimpArgs false
set_option linter.unusedSectionVars false
namespace Go.Mx

theorem turnP_len (ls : List (List AMv)) : (turnP ls).length = ls.length := List.length_map ..
theorem turnP_row (ls : List (List AMv)) (i : Nat) : ((turnP ls).getD i []).length = (ls.getD i []).length := by
  unfold turnP
  rw [List.getD_eq_getElem?_getD, List.getD_eq_getElem?_getD, List.getElem?_map]
  cases ls[i]? with
  | none => rfl
  | some x => simp
theorem turnP_le {ls : List (List AMv)} {n : Nat} (h : ∀ l ∈ ls, l.length ≤ n) : ∀ l ∈ turnP ls, l.length ≤ n := by
  intro l hl
  unfold turnP at hl
  obtain ⟨x, hx, rfl⟩ := List.mem_map.1 hl
  rw [List.length_map, List.length_reverse]
  exact h x hx
def PlacedC (c : Int → Int → Int → Sl → Sl → Heap → (Bool → Heap → Prop) → Prop) : Prop := ∀ {size used room : Int} {lists picks : Sl} {h : Heap} {ls : List (List AMv)} {ps : List Int} {Q : Bool → Heap → Prop}, Arr2 h KMv lists ls → Arr h ki picks ps → ls.length ≤ 1048576 → (∀ l ∈ ls, l.length ≤ 1048576) → ps.length ≤ 1048576 → (∀ h', Go.Mx.le h h' → Q true h') → c size used room lists picks h Q
theorem placed_spec {ct ca cw cs cp cl cr cm} (iT : TurnC ct) (iA : AroundC ca) (iW : WrapC cw) (iS : SpareC cs) (iP : PlayN cp) (iL : LayC cl) (iR : PlayN cr) (iM : SameRC cm) : PlacedC (law21_playPlaced.M ct ca cw cs cp cl cr cm) := by
  intro size used room lists picks h ls ps Q hl hp hn hr hnp hQ
  have r2 : ∀ l ∈ ls, l.length ≤ 2000000 := fun l q => Nat.le_trans (hr l q) (by decide)
  have pl := hp.1
  have tl := turnP_len ls
  refine iT hl (by omega) r2 fun t h8 ht l8 => iA (hp.le l8) (by omega) fun q h10 nq => iW (ht.le nq.le) (by omega) (turnP_le r2) fun g els al z h12 G => iS (nq.arr.le G.le) (by rw [List.length_reverse]; omega) fun p h14 np pcap => ?_
  rw [List.length_reverse] at pcap
  have pll := np.len
  rw [List.length_append, List.length_reverse, List.length_singleton] at pll
  have hb : 0 ≤ (picks.len : Int) ∧ (picks.len : Int) ≤ (p.cap : Int) := ⟨by omega, by omega⟩
  refine ⟨hb, ?_⟩
  have cutp : ∀ {g' : Heap} {xs : List Int}, xs.length = ps.length → Arr g' ki p (xs ++ [-4711]) → Arr g' ki (p.cut 0 ((picks.len : Int)).toNat 1) xs := by
    intro g' xs hx a
    have := a.pre (n := picks.len) (by omega) (sz := 1)
    rw [List.take_left' (by omega)] at this
    rw [Int.toNat_natCast]; exact this
  refine iP (G.arrN.arr2.le np.le) (cutp (by rw [List.length_reverse]) np.arr) fun r15 e15 w15 h16 R15 => ?_
  have G16 := (G.more np.le).more R15.le
  refine iL G16 ((hl.le l8).le nq.le) tl (turnP_row ls) (by omega) r2 fun h18 G18 x18 => ?_
  -- what stands beside the gift
  have gl12 : ∀ x, fpG g els al x → h12 x ≠ none := fun x q => G.live q
  have f10 : ∀ x, fpN g.1 els x → h10 x = none := fun x q => G.fresh (.inr q)
  have le10_18 : Go.Mx.le h10 h18 := le_ext (((G.le).trans np.le).trans R15.le) x18 f10
  have pnew : ∀ x, blkOf p x → h12 x = none := np.new
  have plive : ∀ x, blkOf p x → h14 x ≠ none := fun x q => np.own.live x q
  have np18 : New h10 h18 ki p (ps.reverse ++ [-4711]) := ((np.base G.le).more R15.le).ext x18 (fun x a b => gl12 x (.inr b) (pnew x a)) f10
  have R18 : RunA h18 r15 e15 w15 _ _ _ _ _ := R15.a.ext x18 fun x a b => by
    have := R15.fresh a
    exact gl12 x (.inr b) (np.le.none this)
  have l10 : Go.Mx.le h h10 := l8.trans nq.le
  refine Loop.up ps.length (fun s => s.1) (fun i _ k => New h10 k ki p (mix i (ps ++ [-4711]) (ps.reverse ++ [-4711])) ∧ Ext (blkOf p) h18 k) rfl ⟨by rw [mix_zero]; exact np18, Ext.refl _ _⟩ ?_
  rintro i ⟨i', u⟩ k go hi hc ⟨nk, xk⟩ hgo
  dsimp only at hc; subst hc
  have mll : (mix i (ps ++ [(-4711 : Int)]) (ps.reverse ++ [-4711])).length = ps.length + 1 := by rw [mix_len (by simp)]; simp
  refine ⟨fun d => ?_, fun d => ?_⟩
  · have d : (i : Int) < (picks.len : Int) := of_decide_eq_true d
    have hip : i < ps.length := by omega
    have hbi : 0 ≤ (i : Int) ∧ (i : Int) < (picks.len : Int) := ⟨by omega, d⟩
    have hbp : 0 ≤ (i : Int) ∧ (i : Int) < (p.len : Int) := ⟨by omega, by omega⟩
    refine ⟨hbi, ((hp.le l10).le nk.le).at (i := (i : Int)) hbi.1 hbi.2 rfl fun x hx => ⟨hbp, nk.set (i := (i : Int)) hbp.1 hbp.2 (y := x) rfl rfl fun k2 n2 x2 => ?_⟩⟩
    rw [Int.toNat_natCast] at hx
    rw [Int.toNat_natCast, mix_set (by simp) (x := x) (by rw [List.getElem?_append_left hip]; exact hx)] at n2
    exact hgo hip _ _ (by show w64 ((i : Int) + 1) = _; rw [w64_of] <;> omega) ⟨n2, xk.trans x2⟩
  · have d : ¬ (i : Int) < (picks.len : Int) := of_decide_eq_false d
    obtain rfl : i = ps.length := by omega
    have hmk : mix ps.length (ps ++ [(-4711 : Int)]) (ps.reverse ++ [-4711]) = ps ++ [-4711] := by
      unfold mix
      rw [List.take_left' rfl, List.drop_left' (by rw [List.length_reverse])]
    rw [hmk] at nk
    have Gk := G18.ext xk (fun x a b => gl12 x a (pnew x b)) (fun x b => G.le.none (pnew x b))
    have Rk := R18.ext xk fun x a b => plive x b (R15.fresh a)
    have lek : Go.Mx.le h10 k := nk.le
    refine ⟨hb, iP Gk.arrN.arr2 (cutp rfl nk.arr) fun r26 e26 w26 h27 R26 => ?_⟩
    have l27 := lek.trans R26.le
    refine iR ((ht.le nq.le).le l27) (nq.arr.le l27) fun r28 e28 w28 h29 R28 => ?_
    have l29 := l27.trans R28.le
    refine iR ((hl.le l10).le l29) ((hp.le l10).le l29) fun r30 e30 w30 h31 R30 => ?_
    have l31 : Go.Mx.le h h31 := l10.trans (l29.trans R30.le)
    refine ⟨fun _ => ⟨fun _ => ?_, fun e => absurd rfl (of_decide_eq_false e)⟩, fun e => absurd rfl (of_decide_eq_false e)⟩
    have A15 := ((Rk.le R26.le).le R28.le).le R30.le
    have A28 := R28.a.le R30.le
    have A26 := (R26.a.le R28.le).le R30.le
    refine iM A15 A28 outP_B ⟨fun _ => iM A26 R30.a outP_B (hQ h31 l31), fun e => (by cases e)⟩

theorem play_law {cr cw cs cp cm co cu ci cl} (iR : PlayN cr) (iW : WrapC cw) (iS : SpareC cs) (iP : PlayN cp) (iM : SameRC cm) (iO : SpoilC co) (iU : UntC cu) (iI : SameNC ci) (iL : PlacedC cl) {size used room : Int} {lists picks : Sl} {h : Heap} {ls : List (List AMv)} {ps : List Int} (hl : Arr2 h KMv lists ls) (hp : Arr h ki picks ps) (hn : ls.length ≤ 1048576) (hr : ∀ l ∈ ls, l.length ≤ 1048576) (hnp : ps.length ≤ 1048576) {Q : Bool → Heap → Prop} (hQ : ∀ h', Go.Mx.le h h' → Q true h') :
    law21_BuffersPlay.M cr cw cs cp cm co cu ci cl size used room lists picks h Q := by
  have r2 : ∀ l ∈ ls, l.length ≤ 2000000 := fun l q => Nat.le_trans (hr l q) (by decide)
  have pl := hp.1
  refine iR hl hp fun r7 e7 w7 h8 R7 => iW (hl.le R7.le) (by omega) r2 fun g els al z h10 G => iS ((hp.le R7.le).le G.le) (by omega) fun p h12 np pcap => ?_
  have pll := np.len
  rw [List.length_append, List.length_singleton] at pll
  have hb : 0 ≤ (picks.len : Int) ∧ (picks.len : Int) ≤ (p.cap : Int) := ⟨by omega, by omega⟩
  have cutp : ∀ {g' : Heap}, Arr g' ki p (ps ++ [-4711]) → Arr g' ki (p.cut 0 ((picks.len : Int)).toNat 1) ps := by
    intro g' a
    have := a.pre (n := picks.len) (by omega) (sz := 1)
    rw [List.take_left' (by omega)] at this
    rw [Int.toNat_natCast]; exact this
  refine ⟨hb, iP (G.arrN.arr2.le np.le) (cutp np.arr) fun r13 e13 w13 h14 R13 => ⟨hb, iP ((G.arrN.arr2.le np.le).le R13.le) (cutp (np.arr.le R13.le)) fun r15 e15 w15 h16 R15 => ?_⟩⟩
  refine ⟨fun e => absurd rfl (of_decide_eq_true e), fun _ => ⟨fun e => absurd rfl (of_decide_eq_true e), fun _ => ?_⟩⟩
  have l12_16 := R13.le.trans R15.le
  have l8_16 := (G.le.trans np.le).trans l12_16
  refine iM (R13.a.le R15.le) (R7.a.le l8_16) outP_B ⟨fun e => (by cases e), fun _ => ?_⟩
  refine iO (R13.more R15.le) outP_B fun h17 x17 => ⟨fun e => (by cases e), fun _ => ?_⟩
  have f12 : ∀ x, fpRun r13 e13 w13 x → h12 x = none := fun x q => R13.fresh q
  have l12 : Go.Mx.le h12 h17 := le_ext l12_16 x17 f12
  have l10 : Go.Mx.le h10 h17 := np.le.trans l12
  have l8 : Go.Mx.le h8 h17 := G.le.trans l10
  have l6 : Go.Mx.le h h17 := R7.le.trans l8
  refine iM (R15.a.ext x17 fun x a b => R13.live b (R15.fresh a)) (R7.a.le l8) outP_B ?_
  show law21_BuffersPlay.j2 cu ci cl size used room lists picks Q g p (false, ()) h17
  refine ⟨fun e => (by cases e), fun _ => iU (G.more l10) (hl.le l6) (by omega) r2 ⟨fun _ => ⟨hb, iI (cutp (np.arr.le l12)) (hp.le l6) (by omega) ⟨fun _ => ?_, fun e => (by cases e)⟩⟩, fun e => (by cases e)⟩⟩
  have hbp : 0 ≤ (picks.len : Int) ∧ (picks.len : Int) < (p.len : Int) := ⟨by omega, by omega⟩
  refine ⟨hbp, (np.arr.le l12).at (i := (picks.len : Int)) hbp.1 hbp.2 rfl fun x hx => ?_⟩
  rw [Int.toNat_natCast, ← pl, List.getElem?_append_right (Nat.le_refl _), Nat.sub_self] at hx
  cases hx
  exact ⟨fun _ => iL (hl.le l6) (hp.le l6) hn hr hnp fun h' l' => hQ h' (l6.trans l'), fun e => absurd rfl (of_decide_eq_false e)⟩

end Go.Mx
