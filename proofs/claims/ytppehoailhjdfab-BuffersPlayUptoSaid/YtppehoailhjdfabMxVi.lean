/-
  The law BuffersPlay.
-/
import Derived.Test.YtppehoailhjdfabMxVh
set_option linter.unusedVariables false
set_option linter.unusedSimpArgs false
set_option linter.unusedSectionVars false
namespace Go.Mx

structure PO where
  e : List (List Eff)
  w : List (List Wait)
  c : List Int
  l : List Acc
  dn : Bool
def outP (size used room : Int) (ls : List (List AMv)) (ps : List Int) : PO :=
  if judgedP size used room ls ps.length = 0 then ⟨(PB.run ls (PB.start ls.length room.toNat size used.toNat) ps).e, (List.range ls.length).map (PB.run ls (PB.start ls.length room.toNat size used.toNat) ps).m.q, (PB.run ls (PB.start ls.length room.toNat size used.toNat) ps).m.cs, (PB.run ls (PB.start ls.length room.toNat size used.toNat) ps).m.lg, PB.done ls (PB.run ls (PB.start ls.length room.toNat size used.toNat) ps) ls.length⟩ else ⟨[], [], [], [], false⟩
def PlayN (c : Int → Int → Int → Sl → Sl → Heap → ((Den KRun × (Int × Unit)) → Heap → Prop) → Prop) : Prop := ∀ {size used room : Int} {lists picks : Sl} {h : Heap} {ls : List (List AMv)} {ps : List Int} {Q : (Den KRun × (Int × Unit)) → Heap → Prop}, Arr2 h KMv lists ls → Arr h ki picks ps →
  (∀ r els wls h', RunN h h' r els wls (outP size used room ls ps).e (outP size used room ls ps).w (outP size used room ls ps).c (outP size used room ls ps).l (outP size used room ls ps).dn → Q (r, (judgedP size used room ls ps.length, ())) h') → c size used room lists picks h Q
theorem Nest.nilV (h : Heap) (k : Kd) : Nest h h k Sl.none [] [] := ⟨New.none (le.refl _) _, rfl, fun i sl xs a => (by cases a), List.pairwise_singleton ..⟩
theorem fpN_nil {x : Nat} (h : fpN Sl.none [] x) : False := by
  rcases h with q | ⟨sl, hm, q⟩
  · exact no_blk q
  · cases hm
theorem playN_of {c} (iP : PlayC c) : PlayN c := by
  intro size used room lists picks h ls ps Q hl hp hQ
  refine iP hl hp (fun e => ?_) fun e r h' els wls R => ?_
  · have ho : outP size used room ls ps = ⟨[], [], [], [], false⟩ := if_neg e
    rw [ho] at hQ
    exact hQ zeroRun [] [] h ⟨Nest.nilV h KEf, Nest.nilV h KWt, New.none (le.refl _) ki, New.none (le.refl _) KAcc, rfl, fun x q => (fpN_nil q).elim, fun x q => (no_blk q).elim, fun x q => (no_blk q).elim⟩
  · have ho : outP size used room ls ps = _ := if_pos e
    rw [ho, e] at hQ
    exact hQ r els wls h' ⟨R.e, R.w, R.c, R.l, R.dn, R.ew, R.cx, R.lx⟩
theorem outP_B {size used room : Int} {ls : List (List AMv)} {ps : List Int} : RunB (outP size used room ls ps).e (outP size used room ls ps).w (outP size used room ls ps).c (outP size used room ls ps).l := by
  by_cases e : judgedP size used room ls ps.length = 0
  · have ho : outP size used room ls ps = _ := if_pos e
    rw [ho]
    obtain ⟨g1, g2, g3, g4, g5, g6, g7, g8, g9, g10⟩ := judgedP_ok e
    have ok0 := PB.start_ok (ls := ls) (n := ls.length) (rm := room.toNat) (u := used.toNat) (sz := size) rfl g6 (by omega) (by omega) (by omega) g2
    have ok : (PB.run ls (PB.start ls.length room.toNat size used.toNat) ps).Ok ls 80000000 := (ok0.run ps).mono (by omega)
    generalize PB.run ls (PB.start ls.length room.toNat size used.toNat) ps = st at ok
    have el := ok.el
    have h1 := ok.m.cs
    have h2 := ok.m.sz
    have h3 := ok.m.lg
    refine ⟨by show st.e.length ≤ _; omega, fun x hx => ?_, by show ((List.range ls.length).map st.m.q).length ≤ _; rw [List.length_map, List.length_range]; omega, fun x hx => ?_, by show st.m.cs.length ≤ _; omega, by show st.m.lg.length ≤ _; omega⟩
    · obtain ⟨i, hi⟩ := List.mem_iff_getElem?.1 hx
      have er := ok.er i
      have : st.e.getD i [] = x := by rw [List.getD_eq_getElem?_getD]; exact congrArg (fun o => Option.getD o []) hi
      rw [this] at er
      have := getD_le (ls := ls) (n := 4096) g10 i
      omega
    · obtain ⟨i, _, rfl⟩ := List.mem_map.1 hx
      have := ok.m.ql i
      have := ok.m.r64
      omega
  · have ho : outP size used room ls ps = ⟨[], [], [], [], false⟩ := if_neg e
    rw [ho]
    exact ⟨Nat.zero_le _, fun x hx => (by cases hx), Nat.zero_le _, fun x hx => (by cases hx), Nat.zero_le _, Nat.zero_le _⟩
theorem RunN.more {h0 h h' r els wls E W C L dn} (n : RunN h0 h r els wls E W C L dn) (l : Go.Mx.le h h') : RunN h0 h' r els wls E W C L dn := ⟨n.e.more l, n.w.more l, n.c.more l, n.l.more l, n.dn, n.ew, n.cx, n.lx⟩

def UntC (c : Den KGift → Sl → Heap → (Bool → Heap → Prop) → Prop) : Prop := ∀ {h0 h : Heap} {g : Den KGift} {els : List Sl} {al z lists : Sl} {ls : List (List AMv)} {Q : Bool → Heap → Prop}, GiftR h0 h g els al z ls → Arr2 h KMv lists ls → ls.length ≤ 2000000 → (∀ l ∈ ls, l.length ≤ 2000000) → Q true h → c g lists h Q
theorem unt_spec {ca co} (iA : SameKC KMv ca) (iO : OddC co) : UntC (law21_gift_untouched.M ca co) := by
  intro h0 h g els al z lists ls Q G hl hn hr hQ
  have hll := hl.len
  obtain ⟨sls, l1, l2, l3⟩ := hl
  have GA := G.arrN
  have gl := GA.out.1
  have gel := GA.len
  have el := G.elen
  have wl := G.whole.out.len
  refine ⟨fun e => absurd (of_decide_eq_true e) (by omega), fun _ => ?_⟩
  refine Loop.up ls.length (fun s => s.1) (fun i _ k => k = h) rfl rfl ?_
  rintro i ⟨i', u⟩ k go hi hc ⟨⟩ hgo
  dsimp only at hc; subst hc
  refine ⟨fun d => ?_, fun _ => hQ⟩
  have hlt : (i : Int) < (lists.len : Int) := of_decide_eq_true d
  clear d
  have hil : i < ls.length := by omega
  obtain ⟨sl, hsl⟩ : ∃ sl, sls[i]? = some sl := ⟨sls[i]'(by omega), by simp⟩
  obtain ⟨el', hel⟩ : ∃ sl, els[i]? = some sl := ⟨els[i]'(by omega), by simp⟩
  obtain ⟨X, hxi⟩ : ∃ X, ls[i]? = some X := ⟨ls[i], by simp⟩
  have hcz := cutsZ_get hxi hel
  have lr := l3 i sl _ hsl hxi
  have xl := hr _ (List.mem_of_getElem? hxi)
  have lrl := lr.1
  obtain ⟨row, cut⟩ := G.row hel hxi
  have rl := row.len
  rw [List.length_append, List.length_singleton] at rl
  have rcap := row.arr.2.1
  have hb : 0 ≤ (i : Int) ∧ (i : Int) < (lists.len : Int) := ⟨by omega, hlt⟩
  have hbg : 0 ≤ (i : Int) ∧ (i : Int) < (g.2.1.len : Int) := ⟨by omega, by omega⟩
  have hbw : 0 ≤ (i : Int) ∧ (i : Int) < (g.1.len : Int) := ⟨by omega, by omega⟩
  obtain ⟨⟨wa, wn, wc⟩, ⟨ga, gn, gc⟩, gu⟩ := g
  obtain ⟨la, ln, lc⟩ := lists
  obtain ⟨ea, en, ec⟩ := el'
  dsimp only at hb hbg hbw hll wl gl rl rcap
  cases la with
  | none => obtain ⟨a, e⟩ := l1.addr (by dsimp only; omega); cases e
  | some la =>
  cases ga with
  | none => obtain ⟨a, e⟩ := GA.out.addr (by dsimp only; omega); cases e
  | some ga =>
  cases wa with
  | none => obtain ⟨a, e⟩ := G.whole.out.arr.addr (by dsimp only; omega); cases e
  | some wa =>
  cases ea with
  | none => obtain ⟨a, e⟩ := row.arr.addr (by dsimp only; omega); cases e
  | some ea =>
  have rL : ∀ {K : Sl → Prop}, K sl → ld .sl h (la.add (i * 1)) K := fun hK => l1.ldAt rfl hsl rfl hK
  have rG : ∀ {K : Sl → Prop}, K (Sl.cut ⟨some ea, en, ec⟩ 0 X.length 5) → ld .sl h (ga.add (i * 1)) K := fun hK => GA.out.ldAt rfl hcz rfl hK
  have rW : ∀ {K : Sl → Prop}, K ⟨some ea, en, ec⟩ → ld .sl h (wa.add (i * 1)) K := fun hK => G.whole.out.arr.ldAt rfl hel rfl hK
  have hodd : (X ++ [oddA (i : Int)])[sl.len]? = some (oddA (i : Int)) := by rw [← lrl, List.getElem?_append_right (Nat.le_refl _), Nat.sub_self]; rfl
  refine ⟨hb, hbg, rG (rL (iA cut lr (by omega) ⟨fun e => (by cases e), fun _ => ⟨hb, hb, hbw, rW (rL ⟨⟨by omega, by dsimp only; omega⟩, rL (iA ?_ lr (by omega) ⟨fun e => (by cases e), fun _ => ⟨hb, hbw, rW (rL ⟨⟨by omega, by dsimp only; omega⟩, row.arr.ldAt (i := sl.len) rfl hodd rfl (iO ⟨row.arr.sees (i := (sl.len : Int)) (by omega) (by omega) (by rw [Int.toNat_natCast]; exact hodd) rfl, l1.sees (i := (i : Int)) hb.1 hb.2 (by rw [Int.toNat_natCast]; exact hsl) rfl, G.whole.out.arr.sees (i := (i : Int)) hbw.1 hbw.2 (by rw [Int.toNat_natCast]; exact hel) rfl, ?_⟩)⟩)⟩⟩)⟩)⟩⟩))⟩
  · show Arr h KMv (Sl.cut ⟨some ea, en, ec⟩ 0 ((sl.len : Int)).toNat 5) X
    rw [Int.toNat_natCast, ← lrl]; exact cut
  · show law21_gift_untouched.j2 Q go _ (!(eqK KMv (oddA (i : Int)) (oddA (i : Int))), ()) h
    rw [eqK_refl KMv _ rfl]
    exact ⟨fun e => (by cases e), fun _ => hgo hil _ _ (by show w64 ((i : Int) + 1) = _; rw [w64_of] <;> omega) rfl⟩
def AroundC (c : Sl → Heap → (Sl → Heap → Prop) → Prop) : Prop := ∀ {l : Sl} {h : Heap} {ps : List Int} {Q : Sl → Heap → Prop}, Arr h ki l ps → ps.length ≤ 2000000 → (∀ t h', New h h' ki t ps.reverse → Q t h') → c l h Q
theorem rev_snoc {α : Type} {xs : List α} {j : Nat} (h : j < xs.length) : xs.reverse.take (j + 1) = xs.reverse.take j ++ [xs[xs.length - 1 - j]'(by omega)] := by
  rw [take_succ' xs.reverse (by rw [List.length_reverse]; exact h), List.getElem_reverse]
theorem around_spec : AroundC law21_around.M := by
  intro l h ps Q hp hn hQ
  have pl := hp.1
  have hw0 : w64 ((l.len : Int) - 1) = (ps.length : Int) - 1 := by rw [← pl, w64_of (by omega) (by omega)]
  show Loop (law21_around.l1 l Q) (⟨none, 0, 0⟩, (w64 ((l.len : Int) - 1), ())) h
  rw [hw0]
  refine Loop.idxB ps.length (fun j s g => s.2.1 = (ps.length : Int) - 1 - (j : Int) ∧ New h g ki s.1 (ps.reverse.take j)) ⟨by simp, New.nil h ki⟩ ?_
  rintro j ⟨t, i, u⟩ g go hj ⟨hi, n⟩ hgo
  dsimp only at hi n
  have tl := n.len
  rw [List.length_take, List.length_reverse] at tl
  refine ⟨fun e => ?_, fun e => ?_⟩
  · have e : (0 : Int) ≤ i := of_decide_eq_true e
    have hlt : j < ps.length := by omega
    have hb : 0 ≤ i ∧ i < (l.len : Int) := ⟨e, by omega⟩
    refine ⟨hb, (hp.le n.le).at hb.1 hb.2 rfl fun x hx => ?_⟩
    have hit : i.toNat = ps.length - 1 - j := by omega
    rw [hit] at hx
    have hx' := (List.getElem?_eq_some_iff.1 hx).2
    refine n.app3 (x := x) rfl rfl (by omega) fun t2 h2 n2 x2 b2 => hgo hlt _ _ ⟨by show w64 (i - 1) = _; rw [w64_of] <;> omega, ?_⟩
    rw [rev_snoc hlt, hx']; exact n2
  · have e : ¬ (0 : Int) ≤ i := of_decide_eq_false e
    rw [List.take_of_length_le (by rw [List.length_reverse]; omega)] at n
    exact hQ t g n
def incA (t : AMv) : AMv := (t.1, (t.2.1, (t.2.2.1, (w64 (t.2.2.2.1 + 1), (t.2.2.2.2.1, ())))))
def turnP (ls : List (List AMv)) : List (List AMv) := ls.map fun l => l.reverse.map incA
def TurnC (c : Sl → Heap → (Sl → Heap → Prop) → Prop) : Prop := ∀ {lists : Sl} {h : Heap} {ls : List (List AMv)} {Q : Sl → Heap → Prop}, Arr2 h KMv lists ls → ls.length ≤ 2000000 → (∀ l ∈ ls, l.length ≤ 2000000) → (∀ t h', Arr2 h' KMv t (turnP ls) → Go.Mx.le h h' → Q t h') → c lists h Q
theorem turn_spec : TurnC law21_turned.M := by
  intro lists h ls Q hl hn hr hQ
  have hll := hl.len
  obtain ⟨sls, l1, l2, l3⟩ := hl
  refine Loop.up ls.length (fun s => s.2.1) (fun i s g => ∃ els, Nest h g KMv s.1 els ((turnP ls).take i)) rfl ⟨[], by rw [List.take_zero]; exact ⟨New.nil h .sl, rfl, fun i sl xs a => (by cases a), List.pairwise_singleton ..⟩⟩ ?_
  rintro i ⟨m, i', u⟩ g go hi hc ⟨els, n⟩ hgo
  dsimp only at hc n; subst hc
  have ml := n.out.len
  have el := n.len
  rw [List.length_take] at el
  have tpl : (turnP ls).length = ls.length := List.length_map ..
  refine ⟨fun d => ?_, fun d => ?_⟩
  · have hlt : (i : Int) < (lists.len : Int) := of_decide_eq_true d
    clear d
    have hil : i < ls.length := by omega
    obtain ⟨sl, hsl⟩ : ∃ sl, sls[i]? = some sl := ⟨sls[i]'(by omega), by simp⟩
    have hxi : ls[i]? = some ls[i] := by simp [hil]
    have htk : (turnP ls).take (i + 1) = (turnP ls).take i ++ [ls[i].reverse.map incA] := by
      rw [take_succ' _ (by omega)]
      congr 1
      unfold turnP
      rw [List.getElem_map]
    have lr := l3 i sl _ hsl hxi
    have xl := hr _ (List.mem_of_getElem? hxi)
    generalize ls[i] = X at hxi lr xl htk
    have lrl := lr.1
    obtain ⟨la, ln, lc⟩ := lists
    dsimp only at hll hlt
    cases la with
    | none => obtain ⟨a, e⟩ := l1.addr (by dsimp only; omega); cases e
    | some la =>
    have hb : 0 ≤ (i : Int) ∧ (i : Int) < (ln : Int) := ⟨by omega, hlt⟩
    have rL : ∀ {g' : Heap} {K : Sl → Prop}, Go.Mx.le h g' → K sl → ld .sl g' (la.add (i * 1)) K := fun l hK => (l1.le l).ldAt rfl hsl rfl hK
    refine ⟨hb, rL n.le ?_⟩
    have hw0 : w64 ((sl.len : Int) - 1) = (X.length : Int) - 1 := by rw [← lrl, w64_of (by omega) (by omega)]
    show Loop (law21_turned.l1 ⟨some la, ln, lc⟩ go (m, ((i : Int), u))) (⟨none, 0, 0⟩, (w64 ((sl.len : Int) - 1), ())) g
    rw [hw0]
    refine Loop.idxB X.length (fun j s g' => s.2.1 = (X.length : Int) - 1 - (j : Int) ∧ New g g' KMv s.1 ((X.reverse.take j).map incA)) ⟨by simp, New.nil g KMv⟩ ?_
    rintro j ⟨t, p, u2⟩ g1 go2 hj ⟨hp, n1⟩ hgo2
    dsimp only at hp n1
    have tl := n1.len
    rw [List.length_map, List.length_take, List.length_reverse] at tl
    have lg1 := n.le.trans n1.le
    refine ⟨fun e => ?_, fun e => ?_⟩
    · have e : (0 : Int) ≤ p := of_decide_eq_true e
      have hltj : j < X.length := by omega
      have hbp : 0 ≤ p ∧ p < (sl.len : Int) := ⟨e, by omega⟩
      refine ⟨hb, rL lg1 ⟨hbp, (lr.le lg1).at hbp.1 hbp.2 rfl fun x hx => ?_⟩⟩
      have hit : p.toNat = X.length - 1 - j := by omega
      rw [hit] at hx
      have hx' := (List.getElem?_eq_some_iff.1 hx).2
      refine n1.app3 (x := incA x) rfl rfl (by omega) fun t2 h2 n2 x2 b2 => hgo2 hltj _ _ ⟨by show w64 (p - 1) = _; rw [w64_of] <;> omega, ?_⟩
      rw [rev_snoc hltj, hx', List.map_append]; exact n2
    · have e : ¬ (0 : Int) ≤ p := of_decide_eq_false e
      rw [List.take_of_length_le (by rw [List.length_reverse]; omega)] at n1
      refine (n.more n1.le).snocV (n1.base n.le) (fun x p q => n.live q (n1.new x p)) (by omega) fun o' g2 n2 x2 b2 => ?_
      exact hgo hil _ _ (by show w64 ((i : Int) + 1) = _; rw [w64_of] <;> omega) ⟨_, by rw [htk]; exact n2⟩
  · have d : ¬ (i : Int) < (lists.len : Int) := of_decide_eq_false d
    rw [List.take_of_length_le (by omega)] at n
    exact hQ m g n.arrN.arr2 n.le
def LayC (c : Sl → Sl → Heap → (Unit → Heap → Prop) → Prop) : Prop := ∀ {h0 h : Heap} {g : Den KGift} {els : List Sl} {al z lists : Sl} {ts ls : List (List AMv)} {Q : Unit → Heap → Prop}, GiftR h0 h g els al z ts → Arr2 h0 KMv lists ls → ts.length = ls.length → (∀ i : Nat, (ts.getD i []).length = (ls.getD i []).length) → ls.length ≤ 2000000 → (∀ l ∈ ls, l.length ≤ 2000000) →
  (∀ h', GiftR h0 h' g els al z ls → Ext (fpN g.1 els) h h' → Q () h') → c g.2.1 lists h Q
theorem cutsZ_eq : ∀ (ts : List (List AMv)) (els : List Sl), cutsZ ts els = List.zipWith (fun n (sl : Sl) => sl.cut 0 n 5) (ts.map List.length) els
  | [], _ => rfl
  | _ :: _, [] => rfl
  | t :: ts, e :: els => by
    have ih := cutsZ_eq ts els
    unfold cutsZ at ih ⊢
    rw [List.zip_cons_cons, List.map_cons, List.map_cons, List.zipWith_cons_cons, ih]
theorem map_len_same {ts ls : List (List AMv)} (h1 : ts.length = ls.length) (h2 : ∀ i : Nat, (ts.getD i []).length = (ls.getD i []).length) : ts.map List.length = ls.map List.length := by
  apply List.ext_getElem?
  intro i
  rw [List.getElem?_map, List.getElem?_map]
  have := h2 i
  rw [List.getD_eq_getElem?_getD, List.getD_eq_getElem?_getD] at this
  by_cases hi : i < ts.length
  · rw [List.getElem?_eq_getElem hi, List.getElem?_eq_getElem (by omega)] at *
    exact congrArg some this
  · rw [List.getElem?_eq_none (by omega), List.getElem?_eq_none (by omega)]
theorem cutsZ_same {ts ls : List (List AMv)} (h1 : ts.length = ls.length) (h2 : ∀ i : Nat, (ts.getD i []).length = (ls.getD i []).length) (els : List Sl) : cutsZ ts els = cutsZ ls els := by
  rw [cutsZ_eq, cutsZ_eq, map_len_same h1 h2]

theorem cut0_a (s : Sl) (n sz : Nat) : (s.cut 0 n sz).a = s.a := by
  obtain ⟨a, m, p⟩ := s
  unfold Sl.cut
  split
  · rfl
  · cases a with
    | none => rfl
    | some a => show some (a.add (0 * sz)) = _; rw [Nat.zero_mul]; rfl
theorem giftQ_len (ls : List (List AMv)) (n : Nat) : (giftQ ls n).length = n := by unfold giftQ; simp
theorem lay_spec : LayC law21_lay.M := by
  intro h0 h g els al z lists ts ls Q G hl htl htr hn hr hQ
  have hll := hl.len
  obtain ⟨sls, l1, l2, l3⟩ := hl
  have el := G.elen
  have cs := cutsZ_same htl htr els
  have cl := cutsZ_len (ls := ts) (els := els) (by omega)
  have gq1 := giftQ_len ls ls.length
  have gq2 := giftQ_len ts ts.length
  have geq := G.eq
  have sep := (List.pairwise_cons.1 G.whole.sep).1
  refine Loop.up ls.length (fun s => s.1) (fun i _ g' => Nest h0 g' KMv g.1 els (mix i (giftQ ls ls.length) (giftQ ts ts.length)) ∧ Ext (fpN g.1 els) h g') rfl ⟨G.whole, Ext.refl _ _⟩ ?_
  rintro i ⟨i', u⟩ g1 go hi hc ⟨ni, xi⟩ hgo
  dsimp only at hc; subst hc
  refine ⟨fun d => ?_, fun d => ?_⟩
  · have hlt : (i : Int) < (lists.len : Int) := of_decide_eq_true d
    clear d
    have hil : i < ls.length := by omega
    obtain ⟨sl, hsl⟩ : ∃ sl, sls[i]? = some sl := ⟨sls[i]'(by omega), by simp⟩
    obtain ⟨el', hel⟩ : ∃ sl, els[i]? = some sl := ⟨els[i]'(by omega), by simp⟩
    have hxi : ls[i]? = some (ls.getD i []) := by rw [List.getD_eq_getElem?_getD]; simp [hil]
    have hti : ts[i]? = some (ts.getD i []) := by rw [List.getD_eq_getElem?_getD]; simp [show i < ts.length by omega]
    have hlen := htr i
    have gl := giftQ_get (ls := ls) hil
    have gt' := giftQ_get (ls := ts) (n := ts.length) (j := i) (by omega)
    have lr := l3 i sl _ hsl hxi
    have xl := hr _ (List.mem_of_getElem? hxi)
    have hcz := cutsZ_get hti hel
    generalize ls.getD i [] = X at hxi hlen gl lr xl
    generalize ts.getD i [] = T at hti hlen gt' hcz
    have hmx : (mix i (giftQ ls ls.length) (giftQ ts ts.length))[i]? = some (T ++ [oddA (i : Int)]) := by rw [mix_get (by omega) (Nat.le_refl _)]; exact gt'
    have hms := mix_set (xs := giftQ ls ls.length) (ys := giftQ ts ts.length) (by omega) (i := i) gl
    have lrl := lr.1
    obtain ⟨la, ln, lc⟩ := lists
    dsimp only at hll hlt
    cases la with
    | none => obtain ⟨a, e⟩ := l1.addr (by dsimp only; omega); cases e
    | some la =>
    have hb : 0 ≤ (i : Int) ∧ (i : Int) < (ln : Int) := ⟨by omega, hlt⟩
    have rL : ∀ {g' : Heap} {K : Sl → Prop}, Go.Mx.le h0 g' → K sl → ld .sl g' (la.add (i * 1)) K := fun l hK => (l1.le l).ldAt rfl hsl rfl hK
    have gall := G.all.len
    rw [List.length_append, List.length_singleton] at gall
    have hglen : g.2.1.len = ts.length := by rw [geq]; show ts.length - 0 = _; omega
    have hbg : 0 ≤ (i : Int) ∧ (i : Int) < (g.2.1.len : Int) := ⟨by omega, by omega⟩
    have hzero : (mix i (giftQ ls ls.length) (giftQ ts ts.length)).set i (mix 0 (X ++ [oddA (i : Int)]) (T ++ [oddA (i : Int)])) = mix i (giftQ ls ls.length) (giftQ ts ts.length) := by rw [mix_zero, set_sameV hmx]
    refine Loop.up X.length (fun s => s.1) (fun k _ g' => Nest h0 g' KMv g.1 els ((mix i (giftQ ls ls.length) (giftQ ts ts.length)).set i (mix k (X ++ [oddA (i : Int)]) (T ++ [oddA (i : Int)]))) ∧ Ext (fpN g.1 els) h g') rfl ⟨by rw [hzero]; exact ni, xi⟩ ?_
    rintro k ⟨k', u2⟩ g2 go2 hk hc ⟨n2, x2⟩ hgo2
    dsimp only at hc; subst hc
    have le2 := n2.le
    have hset : ((mix i (giftQ ls ls.length) (giftQ ts ts.length)).set i (mix k (X ++ [oddA (i : Int)]) (T ++ [oddA (i : Int)])))[i]? = some (mix k (X ++ [oddA (i : Int)]) (T ++ [oddA (i : Int)])) := by
      rw [List.getElem?_set_self (by rw [mix_len (by omega)]; omega)]
    have row := n2.row i el' _ hel hset
    have rl := row.len
    rw [mix_len (by simp; omega), List.length_append, List.length_singleton] at rl
    refine ⟨hb, rL le2 ⟨fun d => ?_, fun d => ?_⟩⟩
    · have hkt : (k : Int) < (sl.len : Int) := of_decide_eq_true d
      clear d
      have hkX : k < X.length := by omega
      have hx : X[k]? = some X[k] := by simp [hkX]
      generalize X[k] = x at hx
      have alA : Arr g2 .sl g.2.1 (cutsZ ts els) := by
        have p := (Arr.ext x2 G.all.arr fun b hb => G.ap b hb).pre (n := ts.length) (by omega) (sz := 1)
        rw [List.take_left' (by omega)] at p
        rw [geq]; exact p
      obtain ⟨xa, xn, xc⟩ := sl
      dsimp only at hkt lrl
      cases xa with
      | none => obtain ⟨a, e⟩ := lr.addr (by dsimp only; omega); cases e
      | some xa =>
      have hbk : 0 ≤ (k : Int) ∧ (k : Int) < (xn : Int) := ⟨by omega, hkt⟩
      have hbt : 0 ≤ (k : Int) ∧ (k : Int) < ((el'.cut 0 T.length 5).len : Int) := ⟨by omega, by show (k : Int) < ((T.length - 0 : Nat) : Int); omega⟩
      refine ⟨hbg, ?_⟩
      obtain ⟨ga, gn, gc⟩ : ∃ ga gn, g.2.1 = ⟨some ga, gn, g.2.1.cap⟩ := by
        obtain ⟨a, e⟩ := alA.addr (by omega)
        exact ⟨a, g.2.1.len, by rw [← e]⟩
      rw [gc] at alA ⊢
      refine ⟨hb, alA.ldAt rfl hcz rfl (rL le2 ⟨hbk, (lr.le le2).ldAt rfl hx rfl ⟨hbt, ?_⟩⟩)⟩
      show deref (el'.cut 0 T.length 5).a _
      rw [cut0_a]
      refine row.set (i := (k : Int)) (by omega) (by omega) (y := x) rfl rfl fun g3 n3 x3 => ?_
      rw [Int.toNat_natCast, mix_set (by simp; omega) (x := x) (by rw [List.getElem?_append_left hkX]; exact hx)] at n3
      have nn := n2.inRowV hel n3 x3
      rw [List.set_set] at nn
      exact hgo2 hkX _ _ (by show w64 ((k : Int) + 1) = _; rw [w64_of] <;> omega) ⟨nn, x2.trans (x3.mono fun x q => .inr ⟨el', List.mem_of_getElem? hel, q⟩)⟩
    · have d : ¬ (k : Int) < (sl.len : Int) := of_decide_eq_false d
      obtain rfl : k = X.length := by omega
      have hmk : mix X.length (X ++ [oddA (i : Int)]) (T ++ [oddA (i : Int)]) = X ++ [oddA (i : Int)] := by
        unfold mix
        rw [List.take_left' rfl, List.drop_left' (by omega)]
      rw [hmk, hms] at n2
      exact hgo hil _ _ (by show w64 ((i : Int) + 1) = _; rw [w64_of] <;> omega) ⟨n2, x2⟩
  · have d : ¬ (i : Int) < (lists.len : Int) := of_decide_eq_false d
    obtain rfl : i = ls.length := by omega
    rw [mix_all gq1 (by omega)] at ni
    refine hQ g1 ⟨ni, ?_, by rw [geq, htl], G.ap⟩ xi
    rw [← cs]
    exact G.all.ext xi (fun x p q => G.ap x p q) (fun x q => G.whole.fresh q)

end Go.Mx
