/-
  ExploreAlike: the walk.
-/
import Derived.Test.YtipihecaaakagaaMxKi
import Derived.Test.YtipihecaaakagaaMxKh
set_option linter.unusedVariables false
set_option linter.unusedSimpArgs false
set_option linter.unusedSectionVars false
namespace Go.Mx

section
variable {h0 h : Heap} {sc : Sc} {l : List Rc} {rl : Sl} {cB : Sc → Rc → Rc → Heap → (Bool → Heap → Prop) → Prop}
theorem first_spec (nl : Arr h kref22Act rl l) (hl : l.length ≤ 1000000) (w : Int) {bd : Rc → Rc → Bool}
    (iB : ∀ {a b : Rc} {h : Heap} {Q : Bool → Heap → Prop}, Q (bd a b) h → cB sc a b h Q) {Q : Int → Heap → Prop} (hQ : Q (match firstR bd w l with | none => -1 | some k => (k : Int)) h) : ref22_first.M cB sc rl w h Q := by
  have hll := nl.1
  refine Loop.up l.length (fun s => s.1) (fun i st k => k = h ∧ ∀ a ∈ l.take i, a.1 ≠ w) rfl ⟨rfl, fun a ha => (by cases ha)⟩ ?_
  rintro i ⟨i', u⟩ k go hi hcc ⟨rfl, hI⟩ hgo
  dsimp only at hcc; subst hcc
  refine dcs (fun e => ?_) (fun e => ?_)
  · have e : (i : Int) < (rl.len : Int) := e
    have hil : i < l.length := by omega
    refine ⟨⟨Int.natCast_nonneg i, e⟩, nl.part (kp := ki) (f := fun a : Rc => a.1) (Int.natCast_nonneg i) e (off := 0) rfl (fun x => ⟨[], (Kd.cells kref22Act x).drop 1, rfl, rfl⟩) fun y hy => ?_⟩
    rw [Int.toNat_natCast, List.getElem?_eq_getElem hil] at hy
    have hy := Option.some.inj hy
    subst hy
    refine dcs (fun e2 => hgo hil _ _ (w64_up' (n := l.length) hil (by omega)) ⟨rfl, ?_⟩) (fun e2 => ?_)
    · rw [take_succ' l hil]
      intro a ha
      rcases List.mem_append.1 ha with ha | ha
      · exact hI a ha
      · have : a = l[i] := by simpa using ha
        rw [this]; exact e2
    · have e2 : l[i].1 = w := Decidable.not_not.1 e2
      subst e2
      have hsp : l = l.take i ++ l[i] :: l.drop (i + 1) := by rw [← List.drop_eq_getElem_cons, List.take_append_drop]
      have hfr := firstR_at (bd := bd) (l1 := l.take i) (l2 := l.drop (i + 1)) (a := l[i]) hI
      rw [← hsp, List.length_take, Nat.min_eq_left (by omega)] at hfr
      rw [hfr] at hQ
      refine Loop.up i (fun s => s.1) (fun j st k' => k' = k ∧ ∀ a ∈ l.take j, bd a l[i] = false) rfl ⟨rfl, fun a ha => (by cases ha)⟩ ?_
      rintro j ⟨j', u2⟩ k' go2 hj hcj ⟨rfl, hJ⟩ hgo2
      dsimp only at hcj; subst hcj
      refine dcs (fun e3 => ?_) (fun e3 => ?_)
      · have e3 : (j : Int) < (i : Int) := e3
        have hji : j < i := by omega
        obtain ⟨al, hal⟩ := nl.addr (by omega)
        refine ⟨⟨Int.natCast_nonneg j, show (j : Int) < (rl.len : Int) by omega⟩, ?_⟩
        rw [hal]
        simp only [deref]
        refine ⟨⟨Int.natCast_nonneg i, e⟩, ?_⟩
        rw [Int.toNat_natCast, Int.toNat_natCast]
        refine nl.ldAt (k := kref22Act) hal (List.getElem?_eq_getElem (by omega)) rfl (nl.ldAt (k := kref22Act) hal (List.getElem?_eq_getElem hil) rfl (iB (bcs (fun z => ?_) (fun z => ?_))))
        · have : (l.take i).any (fun b => bd b l[i]) = true := by
            rw [List.any_eq_true]
            exact ⟨l[j], by rw [List.mem_take_iff_getElem]; exact ⟨j, by omega, rfl⟩, z⟩
          rw [if_pos this] at hQ
          exact hQ
        · refine hgo2 hji _ _ (w64_up' (n := i) hji (by omega)) ⟨rfl, ?_⟩
          rw [take_succ' l (by omega)]
          intro a ha
          rcases List.mem_append.1 ha with ha | ha
          · exact hJ a ha
          · have : a = l[j] := by simpa using ha
            rw [this]; exact z
      · have e3 : ¬ (j : Int) < (i : Int) := e3
        obtain rfl : j = i := by omega
        have : ¬ (l.take j).any (fun b => bd b l[j]) = true := by
          intro z
          obtain ⟨b, hb, q⟩ := List.any_eq_true.1 z
          rw [hJ b hb] at q; cases q
        rw [if_neg this] at hQ
        exact hQ
  · have e : ¬ (i : Int) < (rl.len : Int) := e
    rw [List.take_of_length_le (by omega)] at hI
    have hf : firstR bd w l = none := by
      unfold firstR
      have : l.findIdx? (fun a => decide (a.1 = w)) = none := by
        rw [List.findIdx?_eq_none_iff]
        intro a ha
        simpa using hI a ha
      rw [this]
    rw [hf] at hQ
    exact hQ
theorem without_spec (nl : Arr h kref22Act rl l) (hl : l.length ≤ 1000000) {at' : Nat} {Q : Sl → Heap → Prop} (hQ : ∀ t h', New h h' kref22Act t (l.eraseIdx at') → Q t h') : ref22_without.M rl (at' : Int) h Q := by
  have hll := nl.1
  refine Loop.up l.length (fun s => s.2.1) (fun i st k => New h k kref22Act st.1 ((l.take i).eraseIdx at')) rfl (New.none (le.refl _) _) ?_
  rintro i ⟨t, i', u⟩ k go hi hcc n hgo
  dsimp only at hcc n; subst hcc
  refine dcs (fun e => ?_) (fun e => ?_)
  · have e : (i : Int) < (rl.len : Int) := e
    have hil : i < l.length := by omega
    have htl : (l.take i).length = i := by rw [List.length_take]; omega
    have nx : ∀ t' k', New h k' kref22Act t' ((l.take (i + 1)).eraseIdx at') → ref22_without.j1 go (t, ((i : Int), u)) (t', ()) k' := fun t' k' q2 => hgo hil _ _ (w64_up' (n := l.length) hil (by omega)) q2
    refine dcs (fun e2 => ?_) (fun e2 => nx t k ?_)
    · have e2 : (i : Int) ≠ (at' : Int) := e2
      refine ⟨⟨Int.natCast_nonneg i, e⟩, (nl.le n.le).at (Int.natCast_nonneg i) e rfl fun y hy => ?_⟩
      rw [Int.toNat_natCast, List.getElem?_eq_getElem hil] at hy
      have hy := Option.some.inj hy
      subst hy
      have hnl := n.len
      have hel := List.length_eraseIdx_le (l.take i) at'
      refine n.app (k := kref22Act) (x := l[i]) rfl rfl (by omega) fun t2 h2 n2 => nx t2 h2 ?_
      rw [take_succ' l hil]
      by_cases c : at' < i
      · rw [List.eraseIdx_append_of_lt_length (by omega)]; exact n2
      · rw [List.eraseIdx_of_length_le (by omega)] at n2
        rw [List.eraseIdx_of_length_le (by rw [List.length_append, htl, List.length_singleton]; omega)]
        exact n2
    · have e2 : (i : Int) = (at' : Int) := Decidable.not_not.1 e2
      obtain rfl : i = at' := by omega
      rw [take_succ' l hil, List.eraseIdx_append_of_length_le (by omega), htl, Nat.sub_self]
      rw [List.eraseIdx_of_length_le (by omega)] at n
      simpa using n
  · have e : ¬ (i : Int) < (rl.len : Int) := e
    rw [List.take_of_length_le (by omega)] at n
    exact hQ t k n
theorem rsame_spec {bd : Rc → Rc → Bool} {p q : Sl} {qs : List Int} (hq : Arr h ki q qs) (hqn : qs.length ≤ 1000000) (hl : l.length ≤ 1000000)
    {cR : Sc → Sl → Heap → (Sl → Heap → Prop) → Prop} {cF : Sc → Sl → Int → Heap → (Int → Heap → Prop) → Prop} {cW : Sl → Int → Heap → (Sl → Heap → Prop) → Prop}
    (iR : ∀ {Q : Sl → Heap → Prop}, (∀ t h', New h h' kref22Act t l → Q t h') → cR sc p h Q)
    (iF : ∀ {h : Heap} {rl : Sl} {l : List Rc} {w : Int} {Q : Int → Heap → Prop}, Arr h kref22Act rl l → l.length ≤ 1000000 → Q (match firstR bd w l with | none => -1 | some k => (k : Int)) h → cF sc rl w h Q)
    (iW : ∀ {h : Heap} {rl : Sl} {l : List Rc} {k : Nat} {Q : Sl → Heap → Prop}, Arr h kref22Act rl l → l.length ≤ 1000000 → (∀ t h', New h h' kref22Act t (l.eraseIdx k) → Q t h') → cW rl (k : Int) h Q)
    {Q : Bool → Heap → Prop} (hQ : ∀ h', le h h' → Q (sameR bd l qs) h') : ref22_same.M cR cF cW sc p q h Q := by
  have hql := hq.1
  refine iR fun t h1 n1 => ?_
  refine Loop.up qs.length (fun s => s.2.1) (fun i st k => ∃ l', New h k kref22Act st.1 l' ∧ l'.length ≤ 1000000 ∧ sameR bd l qs = sameR bd l' (qs.drop i)) rfl ⟨l, n1, hl, rfl⟩ ?_
  rintro i ⟨t2, i', u⟩ k go hi hcc ⟨l', n, hl', hs⟩ hgo
  dsimp only at hcc n; subst hcc
  refine dcs (fun e => ?_) (fun e => ?_)
  · have e : (i : Int) < (q.len : Int) := e
    have hil : i < qs.length := by omega
    refine ⟨⟨Int.natCast_nonneg i, e⟩, (hq.le n.le).at (Int.natCast_nonneg i) e rfl fun w hw => ?_⟩
    rw [Int.toNat_natCast, List.getElem?_eq_getElem hil] at hw
    have hw := Option.some.inj hw
    subst hw
    rw [List.drop_eq_getElem_cons hil] at hs
    refine iF n.arr hl' ?_
    have hs : sameR bd l qs = match firstR bd qs[i] l' with
      | none => false
      | some k => sameR bd (l'.eraseIdx k) (qs.drop (i + 1)) := hs
    cases hf : firstR bd qs[i] l' with
    | none =>
      rw [hf] at hs
      refine dcs (fun _ => ?_) (fun z => absurd (show (-1 : Int) < 0 by decide) z)
      have hs : sameR bd l qs = false := hs
      rw [← hs]
      exact hQ k n.le
    | some m =>
      rw [hf] at hs
      refine dcs (fun z => absurd (show (m : Int) < 0 from z) (by omega)) (fun _ => ?_)
      refine iW n.arr hl' fun t3 h3 n3 => ?_
      have hel := List.length_eraseIdx_le l' m
      exact hgo hil _ _ (w64_up' (n := qs.length) hil (by omega)) ⟨_, n3.base n.le, by omega, hs⟩
  · have e : ¬ (i : Int) < (q.len : Int) := e
    rw [List.drop_of_length_le (by omega)] at hs
    have hs : sameR bd l qs = true := hs
    rw [← hs]
    exact hQ k n.le
end

theorem equal_spec {h : Heap} {a b : Sl} {xs ys : List Int} (ha : Arr h ki a xs) (hb : Arr h ki b ys) (hn : xs.length ≤ 1000000) {Q : Bool → Heap → Prop} (hQ : Q (decide (xs = ys)) h) : slices_Equal_int_int.M a b h Q := by
  have la := ha.1
  have lb := hb.1
  refine dcs (fun e => ?_) (fun e => ?_)
  · have e : (a.len : Int) ≠ (b.len : Int) := e
    rw [decide_eq_false (fun q => e (by rw [← la, ← lb, q]))] at hQ
    exact hQ
  · have e : (a.len : Int) = (b.len : Int) := Decidable.not_not.1 e
    refine Loop.up xs.length (fun s => s.1) (fun i st k => k = h ∧ xs.take i = ys.take i) rfl ⟨rfl, rfl⟩ ?_
    rintro i ⟨i', u⟩ k go hi hcc ⟨rfl, hI⟩ hgo
    dsimp only at hcc; subst hcc
    refine dcs (fun e2 => ?_) (fun e2 => ?_)
    · have e2 : (i : Int) < (a.len : Int) := e2
      have hix : i < xs.length := by omega
      have hiy : i < ys.length := by omega
      obtain ⟨aa, haa⟩ := ha.addr (by omega)
      obtain ⟨ab, hab⟩ := hb.addr (by omega)
      refine ⟨⟨Int.natCast_nonneg i, e2⟩, ?_⟩
      rw [haa]
      simp only [deref]
      refine ⟨⟨Int.natCast_nonneg i, show (i : Int) < (b.len : Int) by omega⟩, ?_⟩
      rw [hab]
      simp only [deref]
      rw [Int.toNat_natCast]
      refine ha.ldAt (k := ki) haa (List.getElem?_eq_getElem hix) rfl (hb.ldAt (k := ki) hab (List.getElem?_eq_getElem hiy) rfl (dcs (fun e3 => ?_) (fun e3 => ?_)))
      · have e3 : xs[i] ≠ ys[i] := e3
        rw [decide_eq_false (fun q => e3 (by subst q; rfl))] at hQ
        exact hQ
      · have e3 : xs[i] = ys[i] := Decidable.not_not.1 e3
        refine hgo hix _ _ (w64_up' (n := xs.length) hix (by omega)) ⟨rfl, ?_⟩
        rw [take_succ' xs hix, take_succ' ys hiy, hI, e3]
    · have e2 : ¬ (i : Int) < (a.len : Int) := e2
      rw [List.take_of_length_le (by omega), List.take_of_length_le (by omega)] at hI
      rw [decide_eq_true hI] at hQ
      exact hQ
theorem equalFunc_spec {h h1 h2 : Heap} {a b : Sl} {ea eb : List Sl} {xss yss : List (List Int)} (na : Nest h1 h ki a ea xss) (nb : Nest h2 h ki b eb yss) (hl : xss.length ≤ 1000000) (hr : ∀ xs ∈ xss, xs.length ≤ 1000000) {f : Value}
    {cf : Value → Sl → Sl → Heap → (Bool → Heap → Prop) → Prop} (i1 : ∀ {h : Heap} {a b : Sl} {xs ys : List Int} {Q : Bool → Heap → Prop}, Arr h ki a xs → Arr h ki b ys → xs.length ≤ 1000000 → Q (decide (xs = ys)) h → cf f a b h Q) {Q : Bool → Heap → Prop} (hQ : Q (decide (xss = yss)) h) : slices_EqualFunc_int_int_int_int.M cf a b f h Q := by
  have la := na.out.len
  have lb := nb.out.len
  have la2 := na.len
  have lb2 := nb.len
  refine dcs (fun e => ?_) (fun e => ?_)
  · have e : (a.len : Int) ≠ (b.len : Int) := e
    rw [decide_eq_false (fun q => e (by rw [← la, ← lb, la2, lb2, q]))] at hQ
    exact hQ
  · have e : (a.len : Int) = (b.len : Int) := Decidable.not_not.1 e
    refine Loop.up xss.length (fun s => s.1) (fun i st k => k = h ∧ xss.take i = yss.take i) rfl ⟨rfl, rfl⟩ ?_
    rintro i ⟨i', u⟩ k go hi hcc ⟨rfl, hI⟩ hgo
    dsimp only at hcc; subst hcc
    refine dcs (fun e2 => ?_) (fun e2 => ?_)
    · have e2 : (i : Int) < (a.len : Int) := e2
      have hix : i < xss.length := by omega
      have hiy : i < yss.length := by omega
      have xa : ea[i]? = some (ea[i]'(by omega)) := by simp
      have xb : eb[i]? = some (eb[i]'(by omega)) := by simp
      refine ⟨⟨Int.natCast_nonneg i, e2⟩, na.out.arr.at (Int.natCast_nonneg i) e2 rfl fun s1 hs1 => ?_⟩
      rw [Int.toNat_natCast, xa] at hs1
      have hs1 := Option.some.inj hs1
      subst hs1
      refine ⟨⟨Int.natCast_nonneg i, show (i : Int) < (b.len : Int) by omega⟩, nb.out.arr.at (Int.natCast_nonneg i) (show (i : Int) < (b.len : Int) by omega) rfl fun s2 hs2 => ?_⟩
      rw [Int.toNat_natCast, xb] at hs2
      have hs2 := Option.some.inj hs2
      subst hs2
      refine i1 (na.row i _ xss[i] xa (by simp)).arr (nb.row i _ yss[i] xb (by simp)).arr (hr _ (List.getElem_mem hix)) ⟨fun z => ?_, fun z => ?_⟩
      · have z : ¬ xss[i] = yss[i] := fun q => by rw [decide_eq_true q] at z; cases z
        rw [decide_eq_false (fun q => z (by subst q; rfl))] at hQ
        exact hQ
      · have z : xss[i] = yss[i] := Decidable.byContradiction fun q => by rw [decide_eq_false q] at z; cases z
        refine hgo hix _ _ (w64_up' (n := xss.length) hix (by omega)) ⟨rfl, ?_⟩
        rw [take_succ' xss hix, take_succ' yss hiy, hI, z]
    · have e2 : ¬ (i : Int) < (a.len : Int) := e2
      rw [List.take_of_length_le (by omega), List.take_of_length_le (by omega)] at hI
      rw [decide_eq_true hI] at hQ
      exact hQ

/-! ### the calls -/
/-- What Alike answers. -/
def AlR (sz : Int) (nb : Nat) (xss : List (List Ac)) (ps qs : List Int) (b : Bool) (e : Int) : Prop :=
  ∃ e0, Rdy sz nb xss ps e0 ∧ ((e0 ≠ 0 ∧ b = false ∧ e = e0) ∨ (e0 = 0 ∧ ¬ ScriptP (xss.map List.length) qs ∧ b = false ∧ e = 220) ∨ (e0 = 0 ∧ ScriptP (xss.map List.length) qs ∧ e = 0 ∧ (b = true ↔ Alk (bdE sz nb xss) (evL ps) (evL qs))))
theorem AlR.one {sz : Int} {nb : Nat} {xss : List (List Ac)} {ps qs : List Int} {b b' : Bool} {e e' : Int} (x : AlR sz nb xss ps qs b e) (y : AlR sz nb xss ps qs b' e') : b = b' ∧ e = e' := by
  obtain ⟨e0, x1, x2⟩ := x
  obtain ⟨e1, y1, y2⟩ := y
  obtain rfl := x1.one y1
  rcases x2 with ⟨a1, a2, a3⟩ | ⟨a1, a2, a3, a4⟩ | ⟨a1, a2, a3, a4⟩ <;> rcases y2 with ⟨b1, b2, b3⟩ | ⟨b1, b2, b3, b4⟩ | ⟨b1, b2, b3, b4⟩
  · exact ⟨a2.trans b2.symm, a3.trans b3.symm⟩
  · exact absurd b1 a1
  · exact absurd b1 a1
  · exact absurd a1 b1
  · exact ⟨a3.trans b3.symm, a4.trans b4.symm⟩
  · exact absurd b2 a2
  · exact absurd a1 b1
  · exact absurd a2 b2
  · exact ⟨by rw [Bool.eq_iff_iff, a4, b4], a3.trans b3.symm⟩

theorem alikeP_spec {s : Sc} {t u : Sl} {h : Heap} {bs ps qs : List Int} {xss : List (List Ac)} (r : ScR h s bs xss) (hs : Small bs xss) {c1 : Sc → Sl → Heap → (Int → Heap → Prop) → Prop} {c2 : Sc → Sl → Heap → (Bool → Heap → Prop) → Prop} {c3 : Sc → Sl → Heap → (Sl → Heap → Prop) → Prop} {c4 : Sl → Sl → Value → Heap → (Bool → Heap → Prop) → Prop}
    (i1 : ∀ {Q : Int → Heap → Prop}, (∀ e h', Rdy s.1 bs.length xss ps e → le h h' → Q e h') → c1 s t h Q)
    (i2 : ∀ {k : Heap} {Q : Bool → Heap → Prop}, le h k → (∀ b h', (b = true ↔ ScriptP (xss.map List.length) qs) → le k h' → Q b h') → c2 s u k Q)
    (i3 : ∀ {k : Heap} {ps : List Int} {t : Sl} {Q : Sl → Heap → Prop}, le h k → (Arr h ki t ps ∧ ps.length ≤ 1048576) → chkE s.1 bs.length xss = 0 → ScriptP (xss.map List.length) ps → (foaS s.1 bs.length xss ps).length ≤ 12 → (∀ c ∈ foaS s.1 bs.length xss ps, c.2 < 12) →
      (∀ o els (zss : List (List Int)) h', Nest k h' ki o els zss → zss.length = (formR (foaS s.1 bs.length xss ps)).length → (∀ (i : Nat) (z : List Int), zss[i]? = some z → z.Perm (((formR (foaS s.1 bs.length xss ps))[i]?).getD []) ∧ z.Pairwise (· ≤ ·)) → Q o h') → c3 s t k Q)
    (i4 : ∀ {h h1 h2 : Heap} {a b : Sl} {ea eb : List Sl} {xss yss : List (List Int)} {Q : Bool → Heap → Prop}, Nest h1 h ki a ea xss → Nest h2 h ki b eb yss → xss.length ≤ 1000000 → (∀ xs ∈ xss, xs.length ≤ 1000000) → Q (decide (xss = yss)) h → c4 a b (Value.func (.func 59) #[] #[]) h Q)
    (hp : Arr h ki t ps ∧ ps.length ≤ 1048576) (hq : Arr h ki u qs ∧ qs.length ≤ 1048576)
    {Q : (Bool × (Int × Unit)) → Heap → Prop} (hQ : ∀ b e h', AlR s.1 bs.length xss ps qs b e → le h h' → Q (b, (e, ())) h') : explore_Alike.M c1 c2 c3 c4 s t u h Q := by
  refine i1 fun e h1 hr l1 => dcs (fun d => hQ false e h1 ⟨e, hr, .inl ⟨d, rfl, rfl⟩⟩ l1) (fun d => ?_)
  have d : e = 0 := Decidable.not_not.1 d
  subst d
  obtain ⟨hc, hS⟩ := hr.ok
  refine i2 l1 fun b h2 hb l2 => ⟨fun z => ?_, fun z => ?_⟩
  · have z : ¬ ScriptP (xss.map List.length) qs := fun y => by rw [hb.2 y] at z; cases z
    exact hQ false 220 h2 ⟨0, hr, .inr (.inl ⟨rfl, z, rfl, rfl⟩)⟩ (l1.trans l2)
  · have hSq : ScriptP (xss.map List.length) qs := hb.1 (by cases b <;> first | rfl | cases z)
    have h10 := ten hs.2.1 hs.2.2 hc hS
    have h10q := ten hs.2.1 hs.2.2 hc hSq
    obtain ⟨f1, f2, f3⟩ := foaS_ok (sz := s.1) (len := bs.length) hS h10
    obtain ⟨g1, g2, g3⟩ := foaS_ok (sz := s.1) (len := bs.length) hSq h10q
    refine i3 (l1.trans l2) hp hc hS f1 f2 fun o els zss h3 n hl hz => ?_
    refine i3 ((l1.trans l2).trans n.le) hq hc hSq g1 g2 fun o2 els2 zss2 h4 n2 hl2 hz2 => ?_
    have e1 := rows_eq f3 hl hz
    have e2 := rows_eq g3 hl2 hz2
    have sm := foataP_small (len := bs.length) hs.2.1 hs.2.2 hr
    unfold foataP at sm
    rw [if_pos rfl, ← e1] at sm
    have hlr := formR_len _ 12 f2
    refine i4 (n.more n2.le) n2 (by omega) (fun xs hx => ?_) ?_
    · rw [e1] at hx
      obtain ⟨m, _, rfl⟩ := List.mem_map.1 hx
      have p := (refRow_perm f3 m).length_eq
      have q : (rawR (foaS s.1 bs.length xss ps) m).length ≤ (foaS s.1 bs.length xss ps).length := by unfold rawR; rw [List.length_map]; exact List.length_filter_le _ _
      omega
    · refine hQ _ 0 h4 ⟨0, hr, .inr (.inr ⟨rfl, hSq, rfl, ?_⟩)⟩ (((l1.trans l2).trans n.le).trans n2.le)
      rw [decide_eq_true_eq, e1, e2]
      exact form_alk hS hSq
theorem ralikeP_spec {s : Sc} {t u : Sl} {h : Heap} {bs ps qs : List Int} {xss : List (List Ac)} (r : ScR h s bs xss) (hs : Small bs xss) {c1 : Sc → Sl → Heap → (Int → Heap → Prop) → Prop} {c2 : Sc → Sl → Heap → (Bool → Heap → Prop) → Prop} {c3 : Sc → Sl → Sl → Heap → (Bool → Heap → Prop) → Prop}
    (i1 : ∀ {Q : Int → Heap → Prop}, (∀ e, Rdy s.1 bs.length xss ps e → Q e h) → c1 s t h Q)
    (i2 : ∀ {Q : Bool → Heap → Prop}, chkE s.1 bs.length xss = 0 → (∀ b, (b = true ↔ ScriptP (xss.map List.length) qs) → Q b h) → c2 s u h Q)
    (i3 : ∀ {Q : Bool → Heap → Prop}, chkE s.1 bs.length xss = 0 → ScriptP (xss.map List.length) ps → ScriptP (xss.map List.length) qs → (∀ h', le h h' → Q (sameR (bdA s.1 bs.length) (rowP xss ps ps.length) qs) h') → c3 s t u h Q)
    {Q : (Bool × (Int × Unit)) → Heap → Prop} (hQ : ∀ b e h', AlR s.1 bs.length xss ps qs b e → le h h' → Q (b, (e, ())) h') : ref22_Alike.M c1 c2 c3 s t u h Q := by
  refine i1 fun e hr => dcs (fun d => hQ false e h ⟨e, hr, .inl ⟨d, rfl, rfl⟩⟩ (le.refl h)) (fun d => ?_)
  have d : e = 0 := Decidable.not_not.1 d
  subst d
  obtain ⟨hc, hS⟩ := hr.ok
  refine i2 hc fun b hb => ⟨fun z => ?_, fun z => ?_⟩
  · have z : ¬ ScriptP (xss.map List.length) qs := fun y => by rw [hb.2 y] at z; cases z
    exact hQ false 220 h ⟨0, hr, .inr (.inl ⟨rfl, z, rfl, rfl⟩)⟩ (le.refl h)
  · have hSq : ScriptP (xss.map List.length) qs := hb.1 (by cases b <;> first | rfl | cases z)
    have s2 := hS.same2 hSq
    refine i3 hc hS hSq fun h' l => hQ _ 0 h' ⟨0, hr, .inr (.inr ⟨rfl, hSq, rfl, ?_⟩)⟩ l
    have := sameR_alk (sz := s.1) (len := bs.length) (xss := xss) (m := evL qs) (evL_nodup s2.p0) (fun e he => ((evL_mem s2.p0 e).1 he).1) s2.filt
    rw [evL_fst, ← evL_rows] at this
    exact this

theorem moved_spec2 {h0 h : Heap} {c : Sc} {cls : List Sl} {mk : Sl} {bs : List Int} {xss : List (List Ac)} (o : Scn h0 h c cls mk bs xss) (hs : Small bs xss) {Q : Unit → Heap → Prop}
    (hQ : ∀ h' bs' xss', Scn h0 h' c cls mk bs' xss' → bs.length = bs'.length → Like xss xss' → Ext (fpS c cls) h h' → Q () h') : law22_moved.M c h Q := by
  refine Loop.up c.2.1.len (fun s => s.1) (fun i s k => ∃ bs', Scn h0 k c cls mk bs' xss ∧ bs.length = bs'.length ∧ Ext (fpS c cls) h k) rfl ⟨bs, o, rfl, .refl _ _⟩ ?_
  rintro i ⟨j, u⟩ k go hi hc ⟨bs', ho, hl, hX⟩ hgo
  dsimp only at hc; subst hc
  have hbl : c.2.1.len = bs'.length := ho.beg.len.symm
  refine ⟨fun q => ?_, fun q => ?_⟩
  · have q : (i : Int) < (c.2.1.len : Int) := of_decide_eq_true q
    have q' : i < c.2.1.len := by omega
    refine ⟨⟨Int.natCast_nonneg i, q⟩, ho.beg.arr.at (Int.natCast_nonneg i) q rfl fun x hx => ?_⟩
    refine ⟨⟨Int.natCast_nonneg i, q⟩, ho.beg.set (Int.natCast_nonneg i) q rfl rfl fun h' b e => ?_⟩
    exact hgo q' _ _ (w64_up q' (by rw [hbl, ← hl]; exact hs.1)) ⟨_, ho.begin b e, by simp [hl], hX.trans (e.mono fun x q => .inl q)⟩
  clear q hgo hi hbl
  have hs : Small bs' xss := ⟨hl ▸ hs.1, hs.2⟩
  refine Loop.up c.2.2.1.len (fun s => s.1) (fun i s k => ∃ xss', Scn h0 k c cls mk bs' xss' ∧ Like xss xss' ∧ Ext (fpS c cls) h k) rfl ⟨xss, ho, .refl _, hX⟩ ?_
  rintro i ⟨j, u⟩ k go hi hc ⟨xs1, ho, hk, hX⟩ hgo
  dsimp only at hc; subst hc
  have hll : c.2.2.1.len = cls.length := ho.ls.len.symm
  refine ⟨fun q => ?_, fun q => ?_⟩
  · have q : (i : Int) < (c.2.2.1.len : Int) := of_decide_eq_true q
    have q' : i < c.2.2.1.len := by omega
    have hi1 : i < xs1.length := by rw [← ho.len]; omega
    have hcl : cls[i]? = some cls[i] := by simp
    obtain ⟨xs, hxs⟩ : ∃ xs, xss[i]? = some xs := ⟨xss[i]'(by rw [hk.len]; exact hi1), by simp⟩
    have hn : xs.length ≤ 1048576 := hs.at hxs
    refine Loop.up xs.length (fun s => s.1) (fun j s k => ∃ xss', Scn h0 k c cls mk bs' xss' ∧ Like xss xss' ∧ Ext (fpS c cls) h k) rfl ⟨xs1, ho, hk, hX⟩ ?_
    rintro j ⟨j', u'⟩ k2 go2 hj hc ⟨xs2, ho, hk, hX⟩ hgo2
    dsimp only at hc; subst hc
    have hi2 : i < xs2.length := by rw [← ho.len]; omega
    have hx2 : xs2[i]? = some xs2[i] := by simp
    have hrow := ho.row i _ _ hcl hx2
    have hxl : xs2[i].length = xs.length := (hk.at hxs hx2).symm
    have hlen : cls[i].len = xs.length := by rw [← hrow.len, hxl]
    have rd : ∀ {h : Heap} {ys : List (List Ac)} {K : Sl → Prop}, Scn h0 h c cls mk bs' ys → K cls[i] → (0 ≤ (i : Int) ∧ (i : Int) < (c.2.2.1.len : Int)) ∧ deref c.2.2.1.a fun a => ld (.sl : Kd) h (a.add ((i : Int).toNat * 1)) K := by
      intro h ys K o hK
      refine ⟨⟨Int.natCast_nonneg i, q⟩, o.ls.arr.at (Int.natCast_nonneg i) q rfl fun x hx => ?_⟩
      rw [Int.toNat_natCast, hcl] at hx
      cases hx
      exact hK
    refine rd ho ⟨fun e => ?_, fun e => ?_⟩
    · · have e : (j : Int) < (cls[i].len : Int) := of_decide_eq_true e
        have e' : j < xs.length := by omega
        refine rd ho (rd ho ⟨⟨Int.natCast_nonneg j, e⟩, ?_⟩)
        refine hrow.arr.part (kp := ki) (f := fun x => x.2.1) (Int.natCast_nonneg j) e rfl ac_kind fun x hx => ?_
        refine ⟨by decide, ⟨Int.natCast_nonneg j, e⟩, ?_⟩
        refine hrow.setPart (kp := ki) (Int.natCast_nonneg j) e hx (y' := (x.1, (Int.tmod (w64 ((x.2.1 : Int) + 1)) 5, x.2.2))) rfl (by decide) rfl rfl fun h' b ex => ?_
        have ho' := ho.rowed hcl b ex
        have hk' := hk.set (xs := xs2[i].set (j : Int).toNat (x.1, (Int.tmod (w64 ((x.2.1 : Int) + 1)) 5, x.2.2))) hx2 (by simp)
        refine rd ho' (rd ho' ⟨⟨Int.natCast_nonneg j, e⟩, ?_⟩)
        refine b.arr.part (kp := ki) (f := fun x => x.2.2.2.1) (Int.natCast_nonneg j) e rfl ac_val fun y hy => ?_
        refine ⟨⟨Int.natCast_nonneg j, e⟩, ?_⟩
        refine b.setPart (kp := ki) (Int.natCast_nonneg j) e hy (y' := (y.1, (y.2.1, (y.2.2.1, (w64 ((y.2.2.2.1 : Int) + 1), y.2.2.2.2))))) rfl (by decide) rfl rfl fun h2 b2 ex2 => ?_
        refine hgo2 e' _ _ (w64_up e' hn) ⟨_, ho'.rowed hcl b2 ex2, hk'.set (by rw [List.getElem?_set_self hi2]) (by simp), (hX.trans (ex.mono fun x q => .inr ⟨_, List.mem_of_getElem? hcl, q⟩)).trans (ex2.mono fun x q => .inr ⟨_, List.mem_of_getElem? hcl, q⟩)⟩
    · · have e : ¬ (j : Int) < (cls[i].len : Int) := of_decide_eq_false e
        exact hgo q' _ _ (w64_up q' (by rw [hll, ho.len, ← hk.len]; exact hs.2.1)) ⟨_, ho, hk, hX⟩
  · exact hQ _ _ _ ho hl hk hX

theorem exploreAlike_spec {s : Sc} {t u : Sl} {h0 : Heap} {bs ps qs : List Int} {xss : List (List Ac)} (r : ScR h0 s bs xss) (hs : Small bs xss) (hp : Arr h0 ki t ps) (hn : ps.length ≤ 1048576) (hq : Arr h0 ki u qs) (hqn : qs.length ≤ 1048576) {Q : Bool → Heap → Prop} (hQ : ∀ h', le h0 h' → Q true h')
    {c1 : Sc → Heap → (Sc → Heap → Prop) → Prop} {c2 : Sl → Heap → (Sl → Heap → Prop) → Prop} {c3 : Sc → Heap → (Unit → Heap → Prop) → Prop} {c4 c7 : Sc → Sl → Sl → Heap → ((Bool × (Int × Unit)) → Heap → Prop) → Prop} {c5 : Sc → Sc → Heap → (Unit → Heap → Prop) → Prop}
    {c6 : Sl → Sl → Heap → (Unit → Heap → Prop) → Prop} {c8 : Sc → Sc → Heap → (Bool → Heap → Prop) → Prop} {c9 : Sl → Sl → Heap → (Bool → Heap → Prop) → Prop}
    (i1 : ∀ {a h Q}, law22_copied.M a h Q → c1 a h Q) (i2 : ∀ {a h Q}, law22_turned.M a h Q → c2 a h Q) (i3 : ∀ {a h Q}, law22_moved.M a h Q → c3 a h Q)
    (i4 : ∀ {s : Sc} {t u : Sl} {h : Heap} {bs ps qs : List Int} {xss : List (List Ac)} {Q : (Bool × (Int × Unit)) → Heap → Prop}, ScR h s bs xss → Small bs xss → (Arr h ki t ps ∧ ps.length ≤ 1048576) → (Arr h ki u qs ∧ qs.length ≤ 1048576) → (∀ b e h', AlR s.1 bs.length xss ps qs b e → le h h' → Q (b, (e, ())) h') → c4 s t u h Q)
    (i5 : ∀ {a b h Q}, law22_back.M a b h Q → c5 a b h Q) (i6 : ∀ {a b h Q}, law22_written.M a b h Q → c6 a b h Q)
    (i7 : ∀ {s : Sc} {t u : Sl} {h : Heap} {bs ps qs : List Int} {xss : List (List Ac)} {Q : (Bool × (Int × Unit)) → Heap → Prop}, ScR h s bs xss → Small bs xss → (Arr h ki t ps ∧ ps.length ≤ 1048576) → (Arr h ki u qs ∧ qs.length ≤ 1048576) → (∀ b e h', AlR s.1 bs.length xss ps qs b e → le h h' → Q (b, (e, ())) h') → c7 s t u h Q)
    (i8 : ∀ {h : Heap} {a b : Sc} {cls : List Sl} {mk : Sl} {bs : List Int} {xss : List (List Ac)} {Q}, Scn h0 h a cls mk bs xss → ScR h0 b bs xss → Small bs xss → a.1 = b.1 → Q true h → c8 a b h Q)
    (i9 : ∀ {h0 h : Heap} {t s : Sl} {ps : List Int} {Q : Bool → Heap → Prop}, BayK h0 h ki t ps (-77) → Arr h ki s ps → ps.length ≤ 1048576 → Q true h → c9 t s h Q) :
    law22_ExploreAlike.M c1 c2 c3 c4 c5 c6 c7 c8 c9 s t u h0 Q := by
  refine i1 (copied_spec r hs fun c hA cls mk oA eA => ?_)
  refine i2 (turned_spec (hp.le oA.base) hn fun p h1 ps' bp hpl => ?_)
  have oB := oA.more bp.le
  refine i2 (turned_spec (hq.le oB.base) hqn fun q h2 qs' bq hql => ?_)
  have oC := oB.more bq.le
  have bpC := bp.more bq.le
  have pq : Apart p q := fun x a b => bp.own.live x a (bq.new x b)
  have pc : ∀ x, blkOf p x → ¬ fpS c cls x := fun x a b => oA.live (.inl b) (bp.new x a)
  have qc : ∀ x, blkOf q x → ¬ fpS c cls x := fun x a b => oB.live (.inl b) (bq.new x a)
  refine i3 (moved_spec2 oC hs fun h3 bs' xss' o3 el ek x3 => ?_)
  have bp3 := (bpC.base oA.base).ext x3 pc (fun x a => oC.fresh a)
  have bq3 := (bq.base oB.base).ext x3 qc (fun x a => oC.fresh a)
  refine i4 o3.read (o3.small hs el ek) ⟨bp3.arr, by omega⟩ ⟨bq3.arr, by omega⟩ fun b0 e0 h4 _ l4 => ?_
  have o4 := o3.more l4
  have bp4 := bp3.more l4
  have bq4 := bq3.more l4
  refine i5 (back_spec2 o4 r hs el ek fun h5 o5 x5 => ?_)
  have bp5 := bp4.ext x5 pc (fun x a => o4.fresh a)
  have bq5 := bq4.ext x5 qc (fun x a => o4.fresh a)
  refine i4 o5.read hs ⟨bp5.arr, by omega⟩ ⟨bq5.arr, by omega⟩ fun b1 e1 h6 _ l6 => ?_
  have o6 := o5.more l6
  have bp6 := bp5.more l6
  have bq6 := bq5.more l6
  refine i6 (written_spec bp6 hp hpl.symm hn fun h7 bp7 x7 => ?_)
  have lsP : ∀ x, blkOf c.2.2.1 x → ¬ blkOf p x := fun x a b => oA.live (.inr (.inl a)) (bp.new x b)
  have mkP : ∀ x, blkOf mk x → ¬ blkOf p x := fun x a b => oA.live (.inr (.inr a)) (bp.new x b)
  have lsQ : ∀ x, blkOf c.2.2.1 x → ¬ blkOf q x := fun x a b => oB.live (.inr (.inl a)) (bq.new x b)
  have mkQ : ∀ x, blkOf mk x → ¬ blkOf q x := fun x a b => oB.live (.inr (.inr a)) (bq.new x b)
  have o7 := o6.ext x7 (fun x a b => pc x b a) lsP mkP bp6.new
  have bq7 := bq6.ext x7 (fun x a b => pq x b a) bp6.new
  refine i6 (written_spec bq7 hq hql.symm hqn fun h8 bq8 x8 => ?_)
  have o8 := o7.ext x8 (fun x a b => qc x b a) lsQ mkQ bq7.new
  have bp8 := bp7.ext x8 (fun x a b => pq x a b) bq7.new
  refine i4 o8.read hs ⟨bp8.arr, hn⟩ ⟨bq8.arr, hqn⟩ fun b2 e2 h9 hr l9 => ?_
  have o9 := o8.more l9
  have bp9 := bp8.more l9
  have bq9 := bq8.more l9
  refine i7 (r.le o9.base) hs ⟨hp.le o9.base, hn⟩ ⟨hq.le o9.base, hqn⟩ fun b3 e3 hE hrw lE => ?_
  have ec : c.1 = s.1 := eA
  have hrw : AlR c.1 bs.length xss ps qs b3 e3 := by rw [ec]; exact hrw
  obtain ⟨rfl, rfl⟩ := hr.one hrw
  have oE := o9.more lE
  have bpE := bp9.more lE
  have bqE := bq9.more lE
  refine ⟨fun _ => dcs (fun _ => i8 oE r hs ec ⟨fun _ => i9 bpE (hp.le oE.base) hn ⟨fun _ => i9 bqE (hq.le oE.base) hqn (hQ _ oE.base), fun d => (by cases d)⟩, fun d => (by cases d)⟩) (fun d => absurd rfl d), fun d => ?_⟩
  have d : (b2 == b2) = false := d
  rw [beq_self_eq_true] at d; cases d
end Go.Mx
