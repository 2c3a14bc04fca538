/-
  DequeOnce: the walk.
-/
import Derived.Test.YtjkecefbbijajaaMxQv
set_option linter.unusedVariables false
set_option linter.unusedSimpArgs false
set_option linter.unusedSectionVars false
namespace Go.Mx

theorem wsum_take {f : DCl → Int} {l : List DCl} {i : Nat} {c : DCl} (h : l[i]? = some c) : wsum f (l.take (i + 1)) = wsum f (l.take i) + f c := by
  rw [List.take_add_one, h]
  exact wsum_snoc f _ c
theorem wsum_one {f : DCl → Int} (h0 : ∀ x, 0 ≤ f x) (h1 : ∀ x, f x ≤ 1) : ∀ {l : List DCl}, (∀ (i j : Nat) a b, l[i]? = some a → l[j]? = some b → 0 < f a → 0 < f b → i = j) → wsum f l ≤ 1
  | [], _ => by show (0 : Int) ≤ 1; decide
  | a :: l, hu => by
    have e : wsum f (a :: l) = f a + wsum f l := by unfold wsum; rw [List.map_cons, List.sum_cons]
    rw [e]
    by_cases z : 0 < f a
    · have : ¬ 0 < wsum f l := fun q => by
        obtain ⟨j, x, z1, z2⟩ := wsum_pos q
        have := hu 0 (j + 1) a x rfl z1 z z2
        omega
      have := h1 a; omega
    · have := wsum_one h0 h1 (l := l) fun i j x y hx hy fx fy => by
        have := hu (i + 1) (j + 1) x y hx hy fx fy
        omega
      omega
theorem PV.once {n tl : Nat} {p : PS} (h : PV n tl p) (x : Int) : wsum (fU x) p.calls ≤ 1 := by
  refine wsum_one (fun c => by unfold fU; split <;> decide) (fun c => by unfold fU; split <;> decide) fun i j a b ha hb fa fb => ?_
  have ex : ∀ c, 0 < fU x c → dKind c = 0 ∧ dCode c = 2 ∧ dArg c = x := fun c hc => by
    unfold fU at hc
    by_cases z : dKind c = 0 ∧ dCode c = 2 ∧ dArg c = x
    · exact z
    · rw [if_neg z] at hc; exact absurd hc (by decide)
  obtain ⟨a1, a2, a3⟩ := ex a fa
  obtain ⟨b1, b2, b3⟩ := ex b fb
  exact h.inj i j a b ha hb a1 b1 (by omega)

/-- When each value was pushed, and one. -/
def onF (l : List Int) (c : DCl) : List Int := if dKind c = 0 ∧ dCode c = 2 then l.set (dArg c).toNat (dBeg c + 1) else l
def onL (n : Nat) (cs : List DCl) : List Int := cs.foldl onF (List.replicate n 0)
theorem onL_len (n : Nat) (cs : List DCl) : (onL n cs).length = n := by
  unfold onL
  have : ∀ (cs : List DCl) (l : List Int), (cs.foldl onF l).length = l.length := fun cs => by
    induction cs with
    | nil => intro l; rfl
    | cons a cs ih =>
      intro l
      rw [List.foldl_cons, ih]
      unfold onF; split
      · exact List.length_set
      · rfl
  rw [this, List.length_replicate]
theorem onL_snoc (n : Nat) (cs : List DCl) (c : DCl) : onL n (cs ++ [c]) = onF (onL n cs) c := by
  unfold onL; rw [List.foldl_append]; rfl
theorem onL_char {n : Nat} {cs : List DCl} (hn : ∀ (i : Nat) c, cs[i]? = some c → dKind c = 0 → 0 ≤ dArg c ∧ dArg c < (n : Int)) (hu : ∀ (i j : Nat) a b, cs[i]? = some a → cs[j]? = some b → dKind a = 0 → dKind b = 0 → dArg a = dArg b → i = j) {j : Nat} {c : DCl} (hc : cs[j]? = some c) (hk : dKind c = 0) (h2 : dCode c = 2) : ∀ i, j < i → i ≤ cs.length → (onL n (cs.take i))[(dArg c).toNat]? = some (dBeg c + 1)
  | 0, h, _ => absurd h (Nat.not_lt_zero _)
  | i + 1, h, hi => by
    have hx : cs[i]? = some cs[i] := by simp
    rw [List.take_add_one, hx]
    show (onL n (cs.take i ++ [cs[i]]))[_]? = _
    rw [onL_snoc]
    unfold onF
    have hb := hn j c hc hk
    by_cases z : j = i
    · subst z
      rw [hc] at hx
      rw [← Option.some.inj hx, if_pos ⟨hk, h2⟩, List.getElem?_set_self (by rw [onL_len]; omega)]
    · have ih := onL_char hn hu hc hk h2 i (by omega) (by omega)
      by_cases e : dKind cs[i] = 0 ∧ dCode cs[i] = 2
      · rw [if_pos e, List.getElem?_set_ne, ih]
        intro y
        have hb2 := hn i _ hx e.1
        exact z (hu j i c _ hc hx hk e.1 (by omega))
      · rw [if_neg e, ih]

/-- A count for each value. -/
def cntL (n : Nat) (f : Int → Int) : List Int := (List.range n).map fun (x : Nat) => f (x : Int)
theorem cntL_len (n : Nat) (f : Int → Int) : (cntL n f).length = n := by simp [cntL]
theorem cntL_get {n : Nat} {f : Int → Int} {v : Int} (h0 : 0 ≤ v) (h1 : v < (n : Int)) : (cntL n f)[v.toNat]? = some (f v) := by
  unfold cntL
  rw [List.getElem?_map, List.getElem?_range (by omega)]
  show some (f ((v.toNat : Nat) : Int)) = _
  rw [Int.toNat_of_nonneg h0]
theorem cntL_set {n : Nat} {f : Int → Int} {v : Int} (h0 : 0 ≤ v) (h1 : v < (n : Int)) : (cntL n f).set v.toNat (f v + 1) = cntL n fun x => f x + if v = x then 1 else 0 := by
  refine List.ext_getElem? fun i => ?_
  by_cases hi : i < n
  · by_cases e : v.toNat = i
    · subst e
      rw [List.getElem?_set_self (by rw [cntL_len]; exact hi), cntL_get h0 h1, if_pos rfl]
    · rw [List.getElem?_set_ne e]
      unfold cntL
      rw [List.getElem?_map, List.getElem?_map, List.getElem?_range hi]
      show some (f (i : Int)) = some (f (i : Int) + if v = (i : Int) then 1 else 0)
      rw [if_neg (by omega), Int.add_zero]
  · rw [List.getElem?_eq_none (by rw [List.length_set, cntL_len]; omega), List.getElem?_eq_none (by rw [cntL_len]; omega)]
theorem cntL_zero (n : Nat) : List.replicate n (0 : Int) = cntL n fun _ => 0 := by
  refine List.ext_getElem? fun i => ?_
  unfold cntL
  rw [List.getElem?_replicate, List.getElem?_map]
  by_cases hi : i < n
  · rw [if_pos hi, List.getElem?_range hi]; rfl
  · rw [if_neg hi, List.getElem?_eq_none (by simp; omega)]; rfl

theorem donce_spec {low most thieves : Int} {td pkS : Sl} {h : Heap} {todos : List DTd} {picks : List Int} (ht : Arr h KTd td todos) (hp : Arr h ki pkS picks)
    {c1 : Int → Int → Sl → Int → Sl → Heap → (Bool → Heap → Prop) → Prop} {c2 : Sl → Heap → (Sl → Heap → Prop) → Prop} {c3 : Int → Int → Sl → Int → Sl → Heap → ((Den kapiDequeRun × (Int × Unit)) → Heap → Prop) → Prop} {c4 : Den kapiDequeRun → Sl → Int → Sl → Heap → (Bool → Heap → Prop) → Prop}
    (i1 : ∀ {a b s t u h Q} {ts : List DTd} {ps : List Int}, Arr h KTd s ts → Arr h ki u ps → Q false h → (judgeE a b ts t ps = 0 → Q true h) → c1 a b s t u h Q)
    (i2 : ∀ {s h Q} {ts : List DTd}, Arr h KTd s ts → ts.length ≤ 4096 → (∀ r h', New h h' KTd r (numb ts) → Q r h') → c2 s h Q)
    (i3 : ∀ {a b s t u h Q} {ts : List DTd} {ps : List Int}, Arr h KTd s ts → Arr h ki u ps → judgeE a b ts t ps = 0 → (∀ ca re lg h', PlayR h h' (playOf a b ts t ps) ca re lg → Q ((ca, (re, (lg, ()))), (0, ())) h') → c3 a b s t u h Q)
    (i4 : ∀ {r s t u h Q} {ts : List DTd} {ps : List Int} {a b : Int}, Arr h KCl r.1 (playOf a b ts t ps).calls → Arr h KTd s ts → Arr h ki u ps → judgeE a b ts t ps = 0 → Q true h → c4 r s t u h Q)
    {Q : Bool → Heap → Prop} (hQ : ∀ h', le h h' → Q true h') : law3_DequeOnce.M c1 c2 c3 c4 low most td thieves pkS h Q := by
  refine i1 ht hp ⟨fun _ => hQ h (le.refl h), fun z => (by cases z)⟩ fun hj => ⟨fun z => (by cases z), fun _ => ?_⟩
  obtain ⟨j1, j2, j3, j4, j5, j6⟩ := judge_ok hj
  have hN := judge_numb hj
  refine i2 ht j1 fun nd h1 n1 => ?_
  refine i3 n1.arr (hp.le n1.le) hN fun ca re lg h2 pr => ?_
  have pv := play_pv hj
  have hl2 := pr.calls.le
  have hcl := pr.calls.len
  have hrl := pr.rest.len
  have hpl := hp.1
  have htl := ht.1
  have hndl := n1.len
  rw [numb_len] at hndl
  have hal := (play_pf hN).hi.len_le
  refine ⟨fun z => absurd rfl (of_decide_eq_true z), fun _ => ?_⟩
  refine i4 pr.calls.arr (n1.arr.le hl2) ((hp.le n1.le).le hl2) hN ⟨fun z => (by cases z), fun _ => ?_⟩
  have hvr : ∀ x ∈ ctn (playOf low most (numb todos) thieves picks).m.cs, x ∈ vs (playOf low most (numb todos) thieves picks) := fun x hx => List.mem_append_left _ hx
  have hvl : (ctn (playOf low most (numb todos) thieves picks).m.cs).length ≤ 1048576 := by
    have := pv.vs_len
    unfold vs at this
    rw [List.length_append] at this
    omega
  have pca := pr.calls.arr
  have pre := pr.rest.arr
  generalize playOf low most (numb todos) thieves picks = p at *
  have hcb : p.calls.length ≤ 1048576 := by omega
  have subs : ∀ f : DCl → Int, (∀ x, 0 ≤ f x) → (∀ x, f x ≤ 1) → ∀ i, 0 ≤ wsum f (p.calls.take i) ∧ wsum f (p.calls.take i) ≤ 1048576 := fun f f0 f1 i => by
    have h1 := wsum_nn (f := f) (l := p.calls.take i) fun x _ => f0 x
    have h2 := wsum_le f1 (p.calls.take i)
    have h3 := List.length_take_le' i p.calls
    omega
  refine make_new (k := ki) (by omega) (Int.le_refl _) (by omega) (by omega) fun ol h3 n3 l3 c3' a3 => ?_
  refine make_new (k := ki) (by omega) (Int.le_refl _) (by omega) (by omega) fun ml h4 n4 l4 c4' a4 => ?_
  rw [show ((td.len : Int)).toNat = todos.length by omega] at n3 n4
  have sep : ∀ b, blkOf ml b → ¬ blkOf ol b := fun b q r => n3.own.live b r (n4.new b q)
  have n3' : New h2 h4 ki ol (onL todos.length []) := ⟨n3.own.le n4.le, n3.len, n3.le.trans n4.le, n3.new⟩
  have n4' : New h2 h4 ki ml (cntL todos.length fun _ => 0) := by
    rw [← cntL_zero]; exact n4.base n3.le
  refine Loop.up p.calls.length (fun s => s.2.2.1) (fun i s k => New h2 k ki ol (onL todos.length (p.calls.take i)) ∧ New h2 k ki ml (cntL todos.length fun _ => 0) ∧ s.1 = wsum fUt (p.calls.take i) ∧ ((s.2.1 = 0 ∧ ∀ (j : Nat) c, j < i → p.calls[j]? = some c → ¬ (dKind c = 1 ∧ dCode c = 0)) ∨ s.2.1 = 1)) rfl ⟨n3', n4', rfl, .inl ⟨rfl, fun j c hj => absurd hj (Nat.not_lt_zero _)⟩⟩ ?_
  rintro i ⟨(np : Int), (lb : Int), i', u⟩ k go hi hc ⟨nk, mk, hnp, hlb⟩ hgo
  dsimp only at hc hnp hlb; subst hc
  have hol := nk.len
  rw [onL_len] at hol
  refine dcase (fun g => ?_) (fun g => ?_)
  · have g : (i : Int) < (ca.len : Int) := g
    have hil : i < p.calls.length := by omega
    have hx : p.calls[i]? = some p.calls[i] := by simp
    obtain ⟨ac, hac⟩ := pca.addr (by omega)
    refine ⟨⟨Int.natCast_nonneg i, g⟩, ?_⟩
    rw [hac]
    simp only [deref]
    rw [Int.toNat_natCast]
    refine (pca.le nk.le).ldAt (k := KCl) hac hx rfl ?_
    have hs := wsum_take (f := fUt) hx
    have bnd := subs fUt (fun x => by unfold fUt; split <;> decide) (fun x => by unfold fUt; split <;> decide) i
    -- behind the push
    have j3 : ∀ (np' : Int) (k' : Heap), np' = wsum fUt (p.calls.take (i + 1)) → New h2 k' ki ol (onF (onL todos.length (p.calls.take i)) p.calls[i]) → New h2 k' ki ml (cntL todos.length fun _ => 0) → law3_DequeOnce.j3 go (np, (lb, ((i : Int), u))) p.calls[i] (np', ()) k' := fun np' k' hn' o' m' => by
      have nxt : ∀ lb' : Int, ((lb' = 0 ∧ ∀ (j : Nat) c, j < i + 1 → p.calls[j]? = some c → ¬ (dKind c = 1 ∧ dCode c = 0)) ∨ lb' = 1) → go (np', (lb', (w64 ((i : Int) + 1), ()))) k' := fun lb' hlb' => by
        refine hgo hil _ _ (w64_nat (n := p.calls.length) hil (by omega)) ⟨?_, m', hn', hlb'⟩
        rw [List.take_add_one, hx]
        show New h2 k' ki ol (onL todos.length (p.calls.take i ++ [p.calls[i]]))
        rw [onL_snoc]; exact o'
      have no : ¬ (dKind p.calls[i] = 1 ∧ dCode p.calls[i] = 0) → law3_DequeOnce.j2 go (np, (lb, ((i : Int), u))) (np', ()) (false, ()) k' := fun e => ⟨fun z => (by cases z), fun _ => nxt lb (hlb.imp (fun ⟨z1, z2⟩ => ⟨z1, fun j c hj hc => by
        by_cases z : j = i
        · subst z; rw [hx] at hc; cases hc; exact e
        · exact z2 j c (by omega) hc⟩) id)⟩
      refine dcase (fun e1 => ?_) (fun e1 => no (fun q => e1 q.1))
      show law3_DequeOnce.j2 go (np, (lb, ((i : Int), u))) (np', ()) (decide (dCode p.calls[i] = 0), ()) k'
      by_cases e2 : dCode p.calls[i] = 0
      · rw [decide_eq_true e2]
        exact ⟨fun _ => nxt 1 (.inr rfl), fun z => (by cases z)⟩
      · rw [decide_eq_false e2]; exact no (fun q => e2 q.2)
    have no : ¬ (dKind p.calls[i] = 0 ∧ dCode p.calls[i] = 2) → law3_DequeOnce.j4 ol go (np, (lb, ((i : Int), u))) p.calls[i] (false, ()) k := fun e => ⟨fun z => (by cases z), fun _ => j3 np k (by rw [hs, show fUt p.calls[i] = 0 from if_neg e, hnp, Int.add_zero]) (by unfold onF; rw [if_neg e]; exact nk) mk⟩
    refine dcase (fun e1 => ?_) (fun e1 => no (fun q => e1 q.1))
    show law3_DequeOnce.j4 ol go (np, (lb, ((i : Int), u))) p.calls[i] (decide (dCode p.calls[i] = 2), ()) k
    by_cases e2 : dCode p.calls[i] = 2
    · rw [decide_eq_true e2]
      refine ⟨fun _ => ?_, fun z => (by cases z)⟩
      have ha := pv.arg i _ hx e1
      refine ⟨⟨ha.1, show dArg p.calls[i] < (ol.len : Int) by omega⟩, ?_⟩
      refine nk.set (i := dArg p.calls[i]) ha.1 (by omega) rfl rfl fun k' n' x' => ?_
      refine j3 _ k' ?_ ?_ (mk.ext x' sep nk.new)
      · show w64 (np + 1) = _
        rw [hs, show fUt p.calls[i] = 1 from if_pos ⟨e1, e2⟩, hnp, w64_of] <;> omega
      · unfold onF
        rw [if_pos ⟨e1, e2⟩]
        obtain ⟨y1, y2, y3⟩ := pv.en i _ hx (by omega)
        have y4 := pv.be i _ hx
        have ew : w64 (dBeg p.calls[i] + 1) = dBeg p.calls[i] + 1 := by rw [w64_of] <;> omega
        rw [← ew]; exact n'
    · rw [decide_eq_false e2]; exact no (fun q => e2 q.2)
  have g : ¬ (i : Int) < (ca.len : Int) := g
  obtain rfl : i = p.calls.length := by omega
  have och : ∀ (j : Nat) c, p.calls[j]? = some c → dKind c = 0 → dCode c = 2 → (onL todos.length p.calls)[(dArg c).toNat]? = some (dBeg c + 1) := fun j c hc hk h2 => by
    have := onL_char pv.arg pv.inj hc hk h2 p.calls.length (List.getElem?_eq_some_iff.1 hc).1 (Nat.le_refl _)
    rw [List.take_length] at this
    exact this
  rw [List.take_length] at nk hnp
  clear hgo g
  have hml := mk.len
  rw [cntL_len] at hml
  have gnn : ∀ (x : Int) (c : DCl), 0 ≤ fG x c ∧ fG x c ≤ 1 := fun x c => by unfold fG; split <;> decide
  have gtn : ∀ c : DCl, 0 ≤ fGt c ∧ fGt c ≤ 1 := fun c => by unfold fGt; split <;> decide
  -- what was got
  have mk0 : New h2 k ki ml (cntL todos.length fun x => wsum (fG x) (p.calls.take 0)) := mk
  refine Loop.up p.calls.length (fun s => s.2.1) (fun i s k => New h2 k ki ol (onL todos.length p.calls) ∧ New h2 k ki ml (cntL todos.length fun x => wsum (fG x) (p.calls.take i)) ∧ s.1 = wsum fGt (p.calls.take i)) rfl ⟨nk, mk0, rfl⟩ ?_
  clear nk mk mk0
  rintro i ⟨(mg : Int), i', u2⟩ k go hi hc ⟨nk, mk, hmg⟩ hgo
  dsimp only at hc hmg; subst hc
  refine dcase (fun g => ?_) (fun g => ?_)
  · have g : (i : Int) < (ca.len : Int) := g
    have hil : i < p.calls.length := by omega
    have hx : p.calls[i]? = some p.calls[i] := by simp
    obtain ⟨ac, hac⟩ := pca.addr (by omega)
    refine ⟨⟨Int.natCast_nonneg i, g⟩, ?_⟩
    rw [hac]
    simp only [deref]
    rw [Int.toNat_natCast]
    refine (pca.le nk.le).ldAt (k := KCl) hac hx rfl ?_
    have hcd := pv.vi.cd i _ hx
    have hs := wsum_take (f := fGt) hx
    refine dcase (fun e1 => ?_) (fun e1 => ?_)
    · have e1 : dCode p.calls[i] ≠ 4 := e1
      refine dcase (fun e2 => absurd (hcd.2.1 e1) e2) (fun _ => ?_)
      refine hgo hil _ _ (w64_nat (n := p.calls.length) hil (by omega)) ⟨nk, ?_, ?_⟩
      · have : (fun x => wsum (fG x) (p.calls.take (i + 1))) = fun x => wsum (fG x) (p.calls.take i) := funext fun x => by
          rw [wsum_take hx, show fG x p.calls[i] = 0 from if_neg (fun q => e1 q.1), Int.add_zero]
        rw [this]; exact mk
      · show mg = _
        rw [hs, show fGt p.calls[i] = 0 from if_neg e1, hmg, Int.add_zero]
    · have e1 : dCode p.calls[i] = 4 := Decidable.not_not.1 e1
      have hv := pv.val hx e1
      obtain ⟨j, a, z1, z2, z3, z4, z5⟩ := pv.vi.gp i _ hx e1
      have hA := och j a z1 z2 z3
      rw [z4] at hA
      have hb := pv.en j a z1 (by omega)
      have hb0 := pv.be j a z1
      have bo : 0 ≤ dVal p.calls[i] ∧ dVal p.calls[i] < (ol.len : Int) := ⟨hv.1, by omega⟩
      have bm : 0 ≤ dVal p.calls[i] ∧ dVal p.calls[i] < (ml.len : Int) := ⟨hv.1, by omega⟩
      have rd : ∀ {K : Int → Prop}, K (dBeg a + 1) → (deref ol.a fun b => ld ki k (b.add ((dVal p.calls[i]).toNat * 1)) K) := fun {K} hK => nk.arr.at bo.1 bo.2 rfl fun x hx' => by rw [hA] at hx'; cases hx'; exact hK
      refine dcase (fun e2 => absurd e2 (hcd.1 e1)) (fun _ => dcase (fun e2 => ?_) (fun _ => dcase (fun e2 => ?_) (fun _ => ⟨bo, rd (dcase (fun e2 => ?_) (fun _ => ⟨bo, rd ?_⟩))⟩)))
      · exact absurd e2 (Int.not_lt.2 hv.1)
      · exact absurd e2 (Int.not_le.2 (show dVal p.calls[i] < (nd.len : Int) by omega))
      · have e2 : dBeg a + 1 = 0 := e2
        omega
      · show law3_DequeOnce.j7 Q ml go (mg, ((i : Int), u2)) p.calls[i] (decide (dEnd p.calls[i] < dBeg a + 1), ()) k
        rw [decide_eq_false (by omega)]
        refine ⟨fun z => (by cases z), fun _ => ⟨bm, mk.arr.at bm.1 bm.2 rfl fun x hx' => ⟨bm, ?_⟩⟩⟩
        rw [cntL_get hv.1 (by omega)] at hx'
        have hx' := Option.some.inj hx'
        have hsb := subs (fG (dVal p.calls[i])) (fun c => (gnn _ c).1) (fun c => (gnn _ c).2) i
        have hsb2 := subs fGt (fun c => (gtn c).1) (fun c => (gtn c).2) i
        subst hx'
        refine mk.set (i := dVal p.calls[i]) bm.1 bm.2 rfl rfl fun k' n' x' => ?_
        refine hgo hil _ _ (w64_nat (n := p.calls.length) hil (by omega)) ⟨nk.ext x' (fun b q r => sep b r q) mk.new, ?_, ?_⟩
        · have : (fun x => wsum (fG x) (p.calls.take (i + 1))) = fun x => wsum (fG x) (p.calls.take i) + if dVal p.calls[i] = x then 1 else 0 := funext fun x => by
            rw [wsum_take hx]
            congr 1
            unfold fG
            by_cases q : dVal p.calls[i] = x
            · rw [if_pos ⟨e1, q⟩, if_pos q]
            · rw [if_neg (fun r => q r.2), if_neg q]
          rw [this, ← cntL_set hv.1 (by omega)]
          have ew : w64 (wsum (fG (dVal p.calls[i])) (p.calls.take i) + 1) = wsum (fG (dVal p.calls[i])) (p.calls.take i) + 1 := by rw [w64_of] <;> omega
          rw [← ew]; exact n'
        · show w64 (mg + 1) = _
          rw [hs, show fGt p.calls[i] = 1 from if_pos e1, hmg, w64_of] <;> omega
  have g : ¬ (i : Int) < (ca.len : Int) := g
  obtain rfl : i = p.calls.length := by omega
  rw [List.take_length] at mk hmg
  clear hgo g
  have hgb : ∀ x, 0 ≤ wsum (fG x) p.calls ∧ wsum (fG x) p.calls ≤ 1048576 := fun x => by
    have := subs (fG x) (fun c => (gnn _ c).1) (fun c => (gnn _ c).2) p.calls.length
    rw [List.take_length] at this; exact this
  have hgtb : 0 ≤ wsum fGt p.calls ∧ wsum fGt p.calls ≤ 1048576 := by
    have := subs fGt (fun c => (gtn c).1) (fun c => (gtn c).2) p.calls.length
    rw [List.take_length] at this; exact this
  have hut : wsum fUt p.calls ≤ 1048576 := by
    have := wsum_le (f := fUt) (fun x => by unfold fUt; split <;> decide) p.calls
    omega
  have cle : ∀ (x : Int) i, (((ctn p.m.cs).take i).count x : Int) ≤ 1048576 := fun x i => by
    have h1 := List.count_le_length (a := x) (l := (ctn p.m.cs).take i)
    have h2 := List.length_take_le' i (ctn p.m.cs)
    omega
  -- the rest
  have mk0 : New h2 k ki ml (cntL todos.length fun x => wsum (fG x) p.calls + (((ctn p.m.cs).take 0).count x : Int)) := by
    have : (fun x => wsum (fG x) p.calls + (((ctn p.m.cs).take 0).count x : Int)) = fun x => wsum (fG x) p.calls := funext fun x => by simp
    rw [this]; exact mk
  refine Loop.up (ctn p.m.cs).length (fun s => s.2.1) (fun i s k => New h2 k ki ol (onL todos.length p.calls) ∧ New h2 k ki ml (cntL todos.length fun x => wsum (fG x) p.calls + (((ctn p.m.cs).take i).count x : Int)) ∧ s.1 = wsum fGt p.calls + (i : Int)) rfl ⟨nk, mk0, by rw [hmg]; exact (Int.add_zero _).symm⟩ ?_
  clear nk mk mk0
  rintro i ⟨(mr : Int), i', u3⟩ k go hi hc ⟨nk, mk, hmr⟩ hgo
  dsimp only at hc hmr; subst hc
  refine dcase (fun g => ?_) (fun g => ?_)
  · have g : (i : Int) < (re.len : Int) := g
    have hil : i < (ctn p.m.cs).length := by omega
    have hx : (ctn p.m.cs)[i]? = some (ctn p.m.cs)[i] := by simp
    have hmem := hvr _ (List.getElem_mem hil)
    have hv := pv.mem hmem
    obtain ⟨j, a, z1, z2, z3, z4⟩ := pv.vi.put hmem
    have htk : (ctn p.m.cs).take (i + 1) = (ctn p.m.cs).take i ++ [(ctn p.m.cs)[i]] := by rw [List.take_add_one, hx]; rfl
    generalize (ctn p.m.cs)[i] = t at *
    have hA := och j a z1 z2 z3
    rw [z4] at hA
    have hb0 := pv.be j a z1
    have bo : 0 ≤ t ∧ t < (ol.len : Int) := ⟨hv.1, by omega⟩
    have bm : 0 ≤ t ∧ t < (ml.len : Int) := ⟨hv.1, by omega⟩
    refine ⟨⟨Int.natCast_nonneg _, g⟩, (pre.le nk.le).at (i := ((i : Nat) : Int)) (Int.natCast_nonneg _) g rfl fun y hy => ?_⟩
    rw [Int.toNat_natCast, hx] at hy
    have hy := Option.some.inj hy
    subst hy
    refine dcase (fun e2 => absurd e2 (Int.not_lt.2 hv.1)) (fun _ => dcase (fun e2 => absurd e2 (Int.not_le.2 (show t < (nd.len : Int) by omega))) (fun _ => ⟨bo, nk.arr.at bo.1 bo.2 rfl fun y hy => ?_⟩))
    rw [hA] at hy
    have hy := Option.some.inj hy
    subst hy
    rw [decide_eq_false (show ¬ dBeg a + 1 = 0 by omega)]
    refine ⟨fun z => (by cases z), fun _ => ⟨bm, mk.arr.at bm.1 bm.2 rfl fun y hy => ⟨bm, ?_⟩⟩⟩
    rw [cntL_get hv.1 (by omega)] at hy
    have hy := Option.some.inj hy
    subst hy
    have b1 := hgb t
    have b2 := cle t i
    refine mk.set (i := t) bm.1 bm.2 rfl rfl fun k' n' x' => ?_
    refine hgo hil _ _ (w64_nat (n := (ctn p.m.cs).length) hil (by omega)) ⟨nk.ext x' (fun b q r => sep b r q) mk.new, ?_, ?_⟩
    · have : (fun x => wsum (fG x) p.calls + (((ctn p.m.cs).take (i + 1)).count x : Int)) = fun x => (wsum (fG x) p.calls + (((ctn p.m.cs).take i).count x : Int)) + if t = x then 1 else 0 := funext fun x => by
        rw [htk, List.count_append, List.count_singleton]
        by_cases q : t = x
        · rw [if_pos q, if_pos (by simpa using q)]; omega
        · rw [if_neg q, if_neg (by simpa using q)]; omega
      rw [this, ← cntL_set hv.1 (by omega)]
      have ew : w64 (wsum (fG t) p.calls + (((ctn p.m.cs).take i).count t : Int) + 1) = wsum (fG t) p.calls + (((ctn p.m.cs).take i).count t : Int) + 1 := by rw [w64_of] <;> omega
      rw [← ew]; exact n'
    · show w64 (mr + 1) = _
      rw [hmr, w64_of] <;> omega
  have g : ¬ (i : Int) < (re.len : Int) := g
  obtain rfl : i = (ctn p.m.cs).length := by omega
  rw [List.take_length] at mk
  clear hgo g
  -- once
  refine Loop.up todos.length (fun s => s.1) (fun i s k' => k' = k) rfl rfl ?_
  rintro i ⟨i', u4⟩ k' go4 hi hc rfl hgo
  dsimp only at hc; subst hc
  refine dcase (fun g => ?_) (fun g => ?_)
  · have g : (i : Int) < (nd.len : Int) := g
    have hil : i < todos.length := by omega
    refine ⟨⟨Int.natCast_nonneg _, show (i : Int) < (ml.len : Int) by omega⟩, mk.arr.at (i := ((i : Nat) : Int)) (Int.natCast_nonneg _) (by omega) rfl fun y hy => ?_⟩
    rw [cntL_get (Int.natCast_nonneg _) (by omega)] at hy
    have hy := Option.some.inj hy
    subst hy
    have h1 := pv.vi.cnt (i : Int)
    have h2 := pv.once (i : Int)
    unfold vs at h1
    rw [List.count_append] at h1
    refine dcase (fun e => ?_) (fun _ => hgo hil _ _ (w64_nat (n := todos.length) hil (by omega)) rfl)
    have e : (1 : Int) < wsum (fG (i : Int)) p.calls + ((ctn p.m.cs).count (i : Int) : Int) := e
    omega
  · have ht := pv.vi.tot
    unfold vs at ht
    rw [List.length_append] at ht
    have h1 := pv.h1
    refine dcase (fun e => hQ _ ((n1.le.trans hl2).trans nk.le)) (fun e => ?_)
    have e : ¬ mr = np := e
    show Q (decide (mr = w64 (np - lb))) k'
    have hh : (hand p.m.cs (p.act 0).1).length ≠ 0 := fun z => e (by omega)
    have lb1 : lb = 1 := by
      rcases hlb with ⟨_, q⟩ | q
      · obtain ⟨j, c, z1, z2, z3⟩ := pv.hd (fun z => hh (by rw [z]; rfl))
        exact absurd ⟨z2, z3⟩ (q j c (List.getElem?_eq_some_iff.1 z1).1 z1)
      · exact q
    rw [decide_eq_true]
    · exact hQ _ ((n1.le.trans hl2).trans nk.le)
    · rw [lb1, w64_of] <;> omega

end Go.Mx
