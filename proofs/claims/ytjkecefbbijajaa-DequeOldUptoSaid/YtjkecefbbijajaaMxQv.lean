/-
  DequeOld: the walk.
-/
import Derived.Test.YtjkecefbbijajaaMxQu
set_option linter.unusedVariables false
set_option linter.unusedSimpArgs false
set_option linter.unusedSectionVars false
namespace Go.Mx

/-! ### what holds at the end of a numbered play -/
structure PV (n : Nat) (tl : Nat) (p : PS) : Prop where
  vi : VI n p
  arg : ∀ (i : Nat) c, p.calls[i]? = some c → dKind c = 0 → 0 ≤ dArg c ∧ dArg c < (tl : Int)
  inj : ∀ (i j : Nat) a b, p.calls[i]? = some a → p.calls[j]? = some b → dKind a = 0 → dKind b = 0 → dArg a = dArg b → i = j
  en : ∀ (i : Nat) c, p.calls[i]? = some c → dCode c ≠ 0 → 0 ≤ dEnd c ∧ dEnd c < (n : Int) ∧ dBeg c ≤ dEnd c
  be : ∀ (i : Nat) c, p.calls[i]? = some c → 0 ≤ dBeg c
  st : ∀ (i j : Nat) a b, p.calls[i]? = some a → p.calls[j]? = some b → dCode a ≠ 0 → dCode b ≠ 0 → dEnd a = dEnd b → i = j
  hd : hand p.m.cs (p.act 0).1 ≠ [] → ∃ (i : Nat) (c : DCl), p.calls[i]? = some c ∧ dKind c = 1 ∧ dCode c = 0
  h1 : (hand p.m.cs (p.act 0).1).length ≤ 1
  k1 : ∀ (i : Nat) c, p.calls[i]? = some c → dKind c = 1 → dCode c = 0 → (p.act 0).1.kind = 2 ∧ (p.act 0).1.pc ≠ 0
theorem hand_cases (cs : List Int) (o : DOp) : (hand cs o).length ≤ 1 ∧ (hand cs o ≠ [] → o.kind = 2 ∧ o.pc ≠ 0) := by
  unfold hand
  refine pif (P := fun l : List Int => l.length ≤ 1 ∧ (l ≠ [] → o.kind = 2 ∧ o.pc ≠ 0)) (fun e => pif (P := fun l : List Int => l.length ≤ 1 ∧ (l ≠ [] → o.kind = 2 ∧ o.pc ≠ 0)) (fun _ => ⟨Nat.le_refl _, fun _ => ⟨e.1, by omega⟩⟩) (fun _ => ⟨Nat.zero_le _, fun z => absurd rfl z⟩)) (fun _ => pif (P := fun l : List Int => l.length ≤ 1 ∧ (l ≠ [] → o.kind = 2 ∧ o.pc ≠ 0)) (fun e => ⟨Nat.le_refl _, fun _ => ⟨e.1, by omega⟩⟩) (fun _ => ⟨Nat.zero_le _, fun z => absurd rfl z⟩))
theorem play_pv {low most thieves : Int} {todos : List DTd} {picks : List Int} (h : judgeE low most todos thieves picks = 0) : PV picks.length todos.length (playOf low most (numb todos) thieves picks) := by
  have hN := judge_numb h
  have pf := play_pf hN
  obtain ⟨j1, j2, j3, j4, j5, j6⟩ := judge_ok hN
  have vi := stN_vi (todos := todos) (picks := picks) j3 j4 j2 j6 (Nat.le_refl _)
  rw [stN_all] at vi
  generalize playOf low most (numb todos) thieves picks = p at *
  have hW : (whos thieves picks).length = picks.length := List.length_map ..
  have en : ∀ (i : Nat) c, p.calls[i]? = some c → dCode c ≠ 0 → ∃ e : Nat, dEnd c = (e : Int) ∧ dBeg c ≤ (e : Int) ∧ e < picks.length ∧ (whos thieves picks)[e]? = some (dWho c).toNat := fun i c hc h0 => by
    rcases pf.hi.c2 i c hc with ⟨_, z, _⟩ | ⟨e, y1, y2, y3, y4, _⟩
    · exact absurd z h0
    · exact ⟨e, y1, y2, y3, y4⟩
  have wh : ∀ (i : Nat) c, p.calls[i]? = some c → 0 ≤ dWho c := fun i c hc => by
    obtain ⟨w, b, q1, _⟩ := pf.hi.c1 i c hc; omega
  refine ⟨vi, fun i c hc hk => ?_, fun i j a b ha hb ka kb e => pf.hi.arg_inj ha hb ka kb e, fun i c hc h0 => ?_, fun i c hc => ?_, fun i j a b ha hb da db e => ?_, fun hne => ?_, (hand_cases _ _).1, fun i c hc hk h0 => ?_⟩
  · have := pf.hi.own_num hc (kind_own pf.hi hc hk) hk
    omega
  · obtain ⟨e, y1, y2, y3, _⟩ := en i c hc h0
    omega
  · obtain ⟨w, b, q1, q2, _⟩ := pf.hi.c1 i c hc
    omega
  · obtain ⟨e1, a1, a2, a3, a4⟩ := en i a ha da
    obtain ⟨e2, b1, b2, b3, b4⟩ := en j b hb db
    have ee : e1 = e2 := by omega
    subst ee
    rw [a4] at b4
    have hw : dWho a = dWho b := by
      have := Option.some.inj b4
      have := wh i a ha
      have := wh j b hb
      omega
    rcases Nat.lt_trichotomy i j with z | z | z
    · have := pf.hi.seq i j a b z ha hb hw; omega
    · exact z
    · have := pf.hi.seq j i b a z hb ha hw.symm; omega
  · obtain ⟨k2, pc⟩ := (hand_cases _ _).2 hne
    have h0 := pf.pi.pos
    have hr : 0 ≤ (p.act 0).2 := by
      rcases Int.lt_or_le (p.act 0).2 0 with z | z
      · exact absurd ((pf.pi.run 0 h0).1 z) pc
      · exact z
    obtain ⟨c, z1, z2, z3, z4, _⟩ := pf.ai.s0 0 h0 hr
    rcases pf.hi.c2 _ c z1 with ⟨_, y, _⟩ | ⟨e, y, _⟩
    · exact ⟨_, c, z1, by omega, y⟩
    · omega
  · have h0' := pf.pi.pos
    obtain ⟨w, b, q1, q2, q3, q4, q5, q6⟩ := pf.hi.c1 i c hc
    have w0 : w = 0 := by
      by_cases e : w = 0
      · exact e
      · have := q6 e; omega
    subst w0
    rcases pf.hi.c2 i c hc with ⟨_, _, _, y⟩ | ⟨e, _, _, _, _, y, _⟩
    · rw [q1] at y
      have y : (p.act 0).2 = (i : Int) := y
      obtain ⟨c', z1, z2, z3, z4, _⟩ := pf.ai.s0 0 h0' (by omega)
      rw [y, Int.toNat_natCast, hc] at z1
      cases z1
      exact ⟨by omega, fun e => by have := (pf.pi.run 0 h0').2 e; omega⟩
    · exact absurd h0 y
theorem PV.val {n tl : Nat} {p : PS} (h : PV n tl p) {i : Nat} {c : DCl} (hc : p.calls[i]? = some c) (h4 : dCode c = 4) : 0 ≤ dVal c ∧ dVal c < (tl : Int) := by
  obtain ⟨j, a, z1, z2, z3, z4, _⟩ := h.vi.gp i c hc h4
  have := h.arg j a z1 z2; omega
theorem PV.mem {n tl : Nat} {p : PS} (h : PV n tl p) {x : Int} (hx : x ∈ vs p) : 0 ≤ x ∧ x < (tl : Int) := by
  obtain ⟨j, a, z1, z2, z3, z4⟩ := h.vi.put hx
  have := h.arg j a z1 z2; omega

theorem wsum_le {f : DCl → Int} (hf : ∀ x, f x ≤ 1) : ∀ l : List DCl, wsum f l ≤ (l.length : Int)
  | [] => Int.le_refl _
  | a :: l => by
    have := wsum_le hf l
    have := hf a
    unfold wsum at *
    rw [List.map_cons, List.sum_cons, List.length_cons]; omega
theorem PV.vs_len {n tl : Nat} {p : PS} (h : PV n tl p) : (vs p).length ≤ p.calls.length := by
  have h1 := h.vi.tot
  have h2 := wsum_le (f := fUt) (fun x => by unfold fUt; split <;> decide) p.calls
  have h3 := wsum_nn (f := fGt) (l := p.calls) fun x _ => by unfold fGt; split <;> decide
  omega

/-! ### DequeOld -/
/-- What each pick brought the thieves, and one. -/
def oldF (l : List Int) (c : DCl) : List Int := if 0 < dWho c ∧ dCode c = 4 then l.set (dEnd c).toNat (dVal c + 1) else l
def oldL (n : Nat) (cs : List DCl) : List Int := cs.foldl oldF (List.replicate n 0)
theorem oldF_len (l : List Int) (c : DCl) : (oldF l c).length = l.length := by
  unfold oldF; split
  · exact List.length_set
  · rfl
theorem oldL_len (n : Nat) (cs : List DCl) : (oldL n cs).length = n := by
  unfold oldL
  have : ∀ (cs : List DCl) (l : List Int), (cs.foldl oldF l).length = l.length := fun cs => by
    induction cs with
    | nil => intro l; rfl
    | cons a cs ih => intro l; rw [List.foldl_cons, ih, oldF_len]
  rw [this, List.length_replicate]
theorem oldL_snoc (n : Nat) (cs : List DCl) (c : DCl) : oldL n (cs ++ [c]) = oldF (oldL n cs) c := by
  unfold oldL; rw [List.foldl_append]; rfl
theorem oldL_char (n : Nat) (cs : List DCl) : ∀ i, i ≤ cs.length → ∀ (m : Nat) v, (oldL n (cs.take i))[m]? = some v → v = 0 ∨ ∃ (j : Nat) (c : DCl), cs[j]? = some c ∧ 0 < dWho c ∧ dCode c = 4 ∧ (dEnd c).toNat = m ∧ v = dVal c + 1
  | 0, _, m, v, h => by
    have : (List.replicate n (0 : Int))[m]? = some v := h
    rw [List.getElem?_replicate] at this
    split at this
    · exact .inl (Option.some.inj this).symm
    · cases this
  | i + 1, hi, m, v, h => by
    have hc : cs[i]? = some cs[i] := by simp
    rw [List.take_add_one, hc] at h
    have h : (oldL n (cs.take i ++ [cs[i]]))[m]? = some v := h
    rw [oldL_snoc] at h
    unfold oldF at h
    by_cases e : 0 < dWho cs[i] ∧ dCode cs[i] = 4
    · rw [if_pos e] at h
      by_cases z : (dEnd cs[i]).toNat = m
      · subst z
        have hl := (List.getElem?_eq_some_iff.1 h).1
        rw [List.length_set] at hl
        rw [List.getElem?_set_self hl] at h
        exact .inr ⟨i, _, hc, e.1, e.2, rfl, (Option.some.inj h).symm⟩
      · rw [List.getElem?_set_ne z] at h
        exact oldL_char n cs i (by omega) m v h
    · rw [if_neg e] at h
      exact oldL_char n cs i (by omega) m v h

theorem dold_spec {low most thieves : Int} {td pkS : Sl} {h : Heap} {todos : List DTd} {picks : List Int} (ht : Arr h KTd td todos) (hp : Arr h ki pkS picks)
    {c1 : Int → Int → Sl → Int → Sl → Heap → (Bool → Heap → Prop) → Prop} {c2 : Sl → Heap → (Sl → Heap → Prop) → Prop} {c3 : Int → Int → Sl → Int → Sl → Heap → ((Den kapiDequeRun × (Int × Unit)) → Heap → Prop) → Prop} {c4 : Den kapiDequeRun → Sl → Int → Sl → Heap → (Bool → Heap → Prop) → Prop}
    (i1 : ∀ {a b s t u h Q} {ts : List DTd} {ps : List Int}, Arr h KTd s ts → Arr h ki u ps → Q false h → (judgeE a b ts t ps = 0 → Q true h) → c1 a b s t u h Q)
    (i2 : ∀ {s h Q} {ts : List DTd}, Arr h KTd s ts → ts.length ≤ 4096 → (∀ r h', New h h' KTd r (numb ts) → Q r h') → c2 s h Q)
    (i3 : ∀ {a b s t u h Q} {ts : List DTd} {ps : List Int}, Arr h KTd s ts → Arr h ki u ps → judgeE a b ts t ps = 0 → (∀ ca re lg h', PlayR h h' (playOf a b ts t ps) ca re lg → Q ((ca, (re, (lg, ()))), (0, ())) h') → c3 a b s t u h Q)
    (i4 : ∀ {r s t u h Q} {ts : List DTd} {ps : List Int} {a b : Int}, Arr h KCl r.1 (playOf a b ts t ps).calls → Arr h KTd s ts → Arr h ki u ps → judgeE a b ts t ps = 0 → Q true h → c4 r s t u h Q)
    {Q : Bool → Heap → Prop} (hQ : ∀ h', le h h' → Q true h') : law3_DequeOld.M c1 c2 c3 c4 low most td thieves pkS h Q := by
  refine i1 ht hp ⟨fun _ => hQ h (le.refl h), fun z => (by cases z)⟩ fun hj => ⟨fun z => (by cases z), fun _ => ?_⟩
  obtain ⟨j1, j2, j3, j4, j5, j6⟩ := judge_ok hj
  have hN := judge_numb hj
  refine i2 ht j1 fun nd h1 n1 => ?_
  refine i3 n1.arr (hp.le n1.le) hN fun ca re lg h2 pr => ?_
  have pv := play_pv hj
  have hl2 := pr.calls.le
  have hcl := pr.calls.len
  have hrl := pr.rest.len
  have hpl := hp.1
  have hal := (play_pf hN).hi.len_le
  refine ⟨fun z => absurd rfl (of_decide_eq_true z), fun _ => ?_⟩
  refine i4 pr.calls.arr (n1.arr.le hl2) ((hp.le n1.le).le hl2) hN ⟨fun z => (by cases z), fun _ => ?_⟩
  have hvr : ∀ x ∈ ctn (playOf low most (numb todos) thieves picks).m.cs, x ∈ vs (playOf low most (numb todos) thieves picks) := fun x hx => List.mem_append_left _ hx
  have hso : (ctn (playOf low most (numb todos) thieves picks).m.cs).Pairwise (· < ·) := (List.pairwise_append.1 pv.vi.ord).1
  have hvl : (ctn (playOf low most (numb todos) thieves picks).m.cs).length ≤ 1048576 := by
    have := pv.vs_len
    unfold vs at this
    rw [List.length_append] at this
    omega
  have pca := pr.calls.arr
  have pre := pr.rest.arr
  generalize playOf low most (numb todos) thieves picks = p at *
  have hcb : p.calls.length ≤ 1048576 := by omega
  refine make_new (k := ki) (by omega) (Int.le_refl _) (by omega) (by omega) fun ol h3 n3 l3 c3' a3 => ?_
  rw [show ((pkS.len : Int)).toNat = picks.length by omega] at n3
  refine Loop.up p.calls.length (fun s => s.1) (fun i s k => New h2 k ki ol (oldL picks.length (p.calls.take i))) rfl n3 ?_
  rintro i ⟨i', u⟩ k go hi hc nk hgo
  dsimp only at hc; subst hc
  have hol := nk.len
  rw [oldL_len] at hol
  refine dcase (fun g => ?_) (fun g => ?_)
  · have g : (i : Int) < (ca.len : Int) := g
    have hil : i < p.calls.length := by omega
    have hx : p.calls[i]? = some p.calls[i] := by simp
    obtain ⟨ac, hac⟩ := pca.addr (by omega)
    refine ⟨⟨Int.natCast_nonneg i, g⟩, ?_⟩
    rw [hac]
    simp only [deref]
    rw [Int.toNat_natCast]
    refine (pca.le nk.le).ldAt (k := KCl) hac hx rfl ?_
    have nxt : ∀ k', New h2 k' ki ol (oldF (oldL picks.length (p.calls.take i)) p.calls[i]) → go (w64 ((i : Int) + 1), ()) k' := fun k' n' => by
      refine hgo hil _ _ (w64_nat (n := p.calls.length) hil (by omega)) ?_
      show New h2 k' ki ol (oldL picks.length (p.calls.take (i + 1)))
      rw [List.take_add_one, hx]
      show New h2 k' ki ol (oldL picks.length (p.calls.take i ++ [p.calls[i]]))
      rw [oldL_snoc]; exact n'
    have no : ¬ (0 < dWho p.calls[i] ∧ dCode p.calls[i] = 4) → law3_DequeOld.j2 ol go ((i : Int), u) p.calls[i] (false, ()) k := fun e => ⟨fun z => (by cases z), fun _ => nxt k (by unfold oldF; rw [if_neg e]; exact nk)⟩
    refine dcase (fun e1 => ?_) (fun e1 => no (fun q => e1 q.1))
    by_cases e2 : dCode p.calls[i] = 4
    · show law3_DequeOld.j2 ol go ((i : Int), u) p.calls[i] (decide (dCode p.calls[i] = 4), ()) k
      rw [decide_eq_true e2]
      refine ⟨fun _ => ?_, fun z => (by cases z)⟩
      obtain ⟨y1, y2, y3⟩ := pv.en i _ hx (by omega)
      have hv := pv.val hx e2
      refine ⟨⟨y1, show dEnd p.calls[i] < (ol.len : Int) by omega⟩, ?_⟩
      refine nk.set (i := dEnd p.calls[i]) y1 (by omega) rfl rfl fun k' n' x' => ?_
      refine nxt k' ?_
      unfold oldF
      rw [if_pos ⟨e1, e2⟩]
      have ew : w64 (dVal p.calls[i] + 1) = dVal p.calls[i] + 1 := by rw [w64_of] <;> omega
      rw [← ew]; exact n'
    · show law3_DequeOld.j2 ol go ((i : Int), u) p.calls[i] (decide (dCode p.calls[i] = 4), ()) k
      rw [decide_eq_false e2]
      exact no (fun q => e2 q.2)
  have g : ¬ (i : Int) < (ca.len : Int) := g
  obtain rfl : i = p.calls.length := by omega
  have och := oldL_char picks.length p.calls p.calls.length (Nat.le_refl _)
  rw [List.take_length] at nk och
  clear hgo g
  -- the values that were stolen
  refine Loop.up picks.length (fun s => s.2.1) (fun i s k' => k' = k ∧ (s.1 = 0 ∨ ∃ (j : Nat) (c : DCl), p.calls[j]? = some c ∧ 0 < dWho c ∧ dCode c = 4 ∧ (dEnd c).toNat < i ∧ s.1 = dVal c + 1)) rfl ⟨rfl, .inl rfl⟩ ?_
  rintro i ⟨(la : Int), i', u2⟩ k' go2 hi hc ⟨rfl, hla⟩ hgo
  dsimp only at hc hla; subst hc
  refine dcase (fun g => ?_) (fun g => ?_)
  · have g : (i : Int) < (pkS.len : Int) := g
    have hil : i < picks.length := by omega
    obtain ⟨ao, hao⟩ := nk.arr.addr (by omega)
    have hx : (oldL picks.length p.calls)[i]? = some ((oldL picks.length p.calls)[i]'(by rw [oldL_len]; exact hil)) := by simp
    have ho := och i _ hx
    generalize (oldL picks.length p.calls)[i]'(by rw [oldL_len]; exact hil) = t at *
    have bd : (0 : Int) ≤ (i : Int) ∧ (i : Int) < (ol.len : Int) := ⟨Int.natCast_nonneg _, by omega⟩
    have rd : ∀ {K : Int → Prop}, K t → (deref ol.a fun a => ld ki k' (a.add (((i : Nat) : Int).toNat * 1)) K) := fun {K} hK => nk.arr.at (i := ((i : Nat) : Int)) bd.1 bd.2 rfl fun x hx' => by rw [Int.toNat_natCast, hx] at hx'; cases hx'; exact hK
    refine ⟨bd, rd ?_⟩
    refine dcase (fun e => ?_) (fun e => ⟨bd, rd ?_⟩)
    · refine hgo hil _ _ (w64_nat (n := picks.length) hil (by omega)) ⟨rfl, hla.imp id fun ⟨j, c, y1, y2, y3, y4, y5⟩ => ⟨j, c, y1, y2, y3, by omega, y5⟩⟩
    · have e : ¬ t = 0 := e
      rcases ho with z | ⟨j, c, y1, y2, y3, y4, y5⟩
      · exact absurd z e
      · refine dcase (fun f => ?_) (fun f => ⟨bd, rd ?_⟩)
        · exfalso
          have f : t ≤ la := f
          have hv := pv.val y1 y3
          rcases hla with z | ⟨j2, c2, x1, x2, x3, x4, x5⟩
          · have z : la = 0 := z
            omega
          · have x5 : la = dVal c2 + 1 := x5
            have e1 := pv.en j c y1 (by omega)
            have e2 := pv.en j2 c2 x1 (by omega)
            have := pv.vi.st2 j2 j c2 c x1 y1 (by omega) (by omega) x3 y3 (by omega)
            omega
        · exact hgo hil _ _ (w64_nat (n := picks.length) hil (by omega)) ⟨rfl, .inr ⟨j, c, y1, y2, y3, by omega, y5⟩⟩
  have g : ¬ (i : Int) < (pkS.len : Int) := g
  have hla : ∀ x ∈ vs p, la < x + 1 := fun x hx => by
    rcases hla with z | ⟨j2, c2, x1, x2, x3, x4, x5⟩
    · have z : la = 0 := z
      have := (pv.mem hx).1
      rw [z]; omega
    · rw [x5]
      have := pv.vi.st1 j2 c2 x1 (by omega) x3 x hx
      omega
  clear hgo g
  -- the rest
  refine Loop.up (ctn p.m.cs).length (fun s => s.2.1) (fun i s k'' => k'' = k' ∧ ∀ x ∈ (ctn p.m.cs).drop i, s.1 < x + 1) rfl ⟨rfl, fun x hx => hla x (hvr x (by simpa using hx))⟩ ?_
  rintro i ⟨(lb : Int), i', u3⟩ k'' go3 hi hc ⟨rfl, hlb⟩ hgo
  dsimp only at hc hlb; subst hc
  refine dcase (fun g => ?_) (fun g => hQ _ ((n1.le.trans hl2).trans nk.le))
  have g : (i : Int) < (re.len : Int) := g
  have hil : i < (ctn p.m.cs).length := by omega
  have hx : (ctn p.m.cs)[i]? = some (ctn p.m.cs)[i] := by simp
  have hdr : (ctn p.m.cs).drop i = (ctn p.m.cs)[i] :: (ctn p.m.cs).drop (i + 1) := List.drop_eq_getElem_cons hil
  have hmv := pv.mem (hvr _ (List.getElem_mem hil))
  have hsd := hso.drop (i := i)
  rw [hdr] at hlb hsd
  generalize (ctn p.m.cs)[i] = t at *
  have bd : (0 : Int) ≤ (i : Int) ∧ (i : Int) < (re.len : Int) := ⟨Int.natCast_nonneg _, g⟩
  have rd : ∀ {K : Int → Prop}, K t → (deref re.a fun a => ld ki k'' (a.add (((i : Nat) : Int).toNat * 1)) K) := fun {K} hK => (pre.le nk.le).at (i := ((i : Nat) : Int)) bd.1 bd.2 rfl fun x hx' => by rw [Int.toNat_natCast, hx] at hx'; cases hx'; exact hK
  have ew : w64 (t + 1) = t + 1 := by rw [w64_of] <;> omega
  refine ⟨bd, rd ?_⟩
  rw [ew]
  refine dcase (fun e => ?_) (fun _ => ⟨bd, rd ?_⟩)
  · have e : t + 1 ≤ lb := e
    have hl : lb < t + 1 := hlb t (List.mem_cons_self ..)
    omega
  · rw [ew]
    refine hgo hil _ _ (w64_nat (n := (ctn p.m.cs).length) hil (by omega)) ⟨rfl, fun x hx => ?_⟩
    have := (List.pairwise_cons.1 hsd).1 x hx
    show t + 1 < x + 1
    omega

end Go.Mx
