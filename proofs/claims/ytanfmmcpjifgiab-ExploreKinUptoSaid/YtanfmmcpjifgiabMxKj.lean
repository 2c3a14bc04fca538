/-
  ExploreAlike: the walk.
-/
import Derived.Test.YtanfmmcpjifgiabMxKi
import Derived.Test.YtanfmmcpjifgiabMxKh
set_option linter.unusedVariables false
set_option linter.unusedSimpArgs false
set_option linter.unusedSectionVars false
namespace Go.Mx

section
variable {h0 h : Heap} {sc : Sc} {l : List Rc} {rl : Sl} {cB : Sc → Rc → Rc → Heap → (Bool → Heap → Prop) → Prop}
theorem first_spec (nl : Arr h kref22Act rl l) (hl : l.length ≤ 1000000) (w : Int) {bd : Rc → Rc → Bool}
    (iB : ∀ {a b : Rc} {h : Heap} {Q : Bool → Heap → Prop}, Q (bd a b) h → cB sc a b h Q) {Q : Int → Heap → Prop} (hQ : Q (match firstR bd w l with | none => -1 | some k => (k : Int)) h) : ref22_first.M cB sc rl w h Q := by
  have hll := nl.1
  refine Loop.up l.length (fun s => s.1) (fun i st k => k = h ∧ ∀ a ∈ l.take i, a.1 ≠ w) rfl ⟨rfl, fun a ha => (by cases ha)⟩ ?_
  rintro i ⟨i', u⟩ k go hi hcc ⟨rfl, hI⟩ hgo
  dsimp only at hcc; subst hcc
  refine dcs (fun e => ?_) (fun e => ?_)
  · have e : (i : Int) < (rl.len : Int) := e
    have hil : i < l.length := by omega
    refine ⟨⟨Int.natCast_nonneg i, e⟩, nl.part (kp := ki) (f := fun a : Rc => a.1) (Int.natCast_nonneg i) e (off := 0) rfl (fun x => ⟨[], (Kd.cells kref22Act x).drop 1, rfl, rfl⟩) fun y hy => ?_⟩
    rw [Int.toNat_natCast, List.getElem?_eq_getElem hil] at hy
    have hy := Option.some.inj hy
    subst hy
    refine dcs (fun e2 => hgo hil _ _ (w64_up' (n := l.length) hil (by omega)) ⟨rfl, ?_⟩) (fun e2 => ?_)
    · rw [take_succ' l hil]
      intro a ha
      rcases List.mem_append.1 ha with ha | ha
      · exact hI a ha
      · have : a = l[i] := by simpa using ha
        rw [this]; exact e2
    · have e2 : l[i].1 = w := Decidable.not_not.1 e2
      subst e2
      have hsp : l = l.take i ++ l[i] :: l.drop (i + 1) := by rw [← List.drop_eq_getElem_cons, List.take_append_drop]
      have hfr := firstR_at (bd := bd) (l1 := l.take i) (l2 := l.drop (i + 1)) (a := l[i]) hI
      rw [← hsp, List.length_take, Nat.min_eq_left (by omega)] at hfr
      rw [hfr] at hQ
      refine Loop.up i (fun s => s.1) (fun j st k' => k' = k ∧ ∀ a ∈ l.take j, bd a l[i] = false) rfl ⟨rfl, fun a ha => (by cases ha)⟩ ?_
      rintro j ⟨j', u2⟩ k' go2 hj hcj ⟨rfl, hJ⟩ hgo2
      dsimp only at hcj; subst hcj
      refine dcs (fun e3 => ?_) (fun e3 => ?_)
      · have e3 : (j : Int) < (i : Int) := e3
        have hji : j < i := by omega
        obtain ⟨al, hal⟩ := nl.addr (by omega)
        refine ⟨⟨Int.natCast_nonneg j, show (j : Int) < (rl.len : Int) by omega⟩, ?_⟩
        rw [hal]
        simp only [deref]
        refine ⟨⟨Int.natCast_nonneg i, e⟩, ?_⟩
        rw [Int.toNat_natCast, Int.toNat_natCast]
        refine nl.ldAt (k := kref22Act) hal (List.getElem?_eq_getElem (by omega)) rfl (nl.ldAt (k := kref22Act) hal (List.getElem?_eq_getElem hil) rfl (iB (bcs (fun z => ?_) (fun z => ?_))))
        · have : (l.take i).any (fun b => bd b l[i]) = true := by
            rw [List.any_eq_true]
            exact ⟨l[j], by rw [List.mem_take_iff_getElem]; exact ⟨j, by omega, rfl⟩, z⟩
          rw [if_pos this] at hQ
          exact hQ
        · refine hgo2 hji _ _ (w64_up' (n := i) hji (by omega)) ⟨rfl, ?_⟩
          rw [take_succ' l (by omega)]
          intro a ha
          rcases List.mem_append.1 ha with ha | ha
          · exact hJ a ha
          · have : a = l[j] := by simpa using ha
            rw [this]; exact z
      · have e3 : ¬ (j : Int) < (i : Int) := e3
        obtain rfl : j = i := by omega
        have : ¬ (l.take j).any (fun b => bd b l[j]) = true := by
          intro z
          obtain ⟨b, hb, q⟩ := List.any_eq_true.1 z
          rw [hJ b hb] at q; cases q
        rw [if_neg this] at hQ
        exact hQ
  · have e : ¬ (i : Int) < (rl.len : Int) := e
    rw [List.take_of_length_le (by omega)] at hI
    have hf : firstR bd w l = none := by
      unfold firstR
      have : l.findIdx? (fun a => decide (a.1 = w)) = none := by
        rw [List.findIdx?_eq_none_iff]
        intro a ha
        simpa using hI a ha
      rw [this]
    rw [hf] at hQ
    exact hQ
theorem without_spec (nl : Arr h kref22Act rl l) (hl : l.length ≤ 1000000) {at' : Nat} {Q : Sl → Heap → Prop} (hQ : ∀ t h', New h h' kref22Act t (l.eraseIdx at') → Q t h') : ref22_without.M rl (at' : Int) h Q := by
  have hll := nl.1
  refine Loop.up l.length (fun s => s.2.1) (fun i st k => New h k kref22Act st.1 ((l.take i).eraseIdx at')) rfl (New.none (le.refl _) _) ?_
  rintro i ⟨t, i', u⟩ k go hi hcc n hgo
  dsimp only at hcc n; subst hcc
  refine dcs (fun e => ?_) (fun e => ?_)
  · have e : (i : Int) < (rl.len : Int) := e
    have hil : i < l.length := by omega
    have htl : (l.take i).length = i := by rw [List.length_take]; omega
    have nx : ∀ t' k', New h k' kref22Act t' ((l.take (i + 1)).eraseIdx at') → ref22_without.j1 go (t, ((i : Int), u)) (t', ()) k' := fun t' k' q2 => hgo hil _ _ (w64_up' (n := l.length) hil (by omega)) q2
    refine dcs (fun e2 => ?_) (fun e2 => nx t k ?_)
    · have e2 : (i : Int) ≠ (at' : Int) := e2
      refine ⟨⟨Int.natCast_nonneg i, e⟩, (nl.le n.le).at (Int.natCast_nonneg i) e rfl fun y hy => ?_⟩
      rw [Int.toNat_natCast, List.getElem?_eq_getElem hil] at hy
      have hy := Option.some.inj hy
      subst hy
      have hnl := n.len
      have hel := List.length_eraseIdx_le (l.take i) at'
      refine n.app (k := kref22Act) (x := l[i]) rfl rfl (by omega) fun t2 h2 n2 => nx t2 h2 ?_
      rw [take_succ' l hil]
      by_cases c : at' < i
      · rw [List.eraseIdx_append_of_lt_length (by omega)]; exact n2
      · rw [List.eraseIdx_of_length_le (by omega)] at n2
        rw [List.eraseIdx_of_length_le (by rw [List.length_append, htl, List.length_singleton]; omega)]
        exact n2
    · have e2 : (i : Int) = (at' : Int) := Decidable.not_not.1 e2
      obtain rfl : i = at' := by omega
      rw [take_succ' l hil, List.eraseIdx_append_of_length_le (by omega), htl, Nat.sub_self]
      rw [List.eraseIdx_of_length_le (by omega)] at n
      simpa using n
  · have e : ¬ (i : Int) < (rl.len : Int) := e
    rw [List.take_of_length_le (by omega)] at n
    exact hQ t k n
theorem rsame_spec {bd : Rc → Rc → Bool} {p q : Sl} {qs : List Int} (hq : Arr h ki q qs) (hqn : qs.length ≤ 1000000) (hl : l.length ≤ 1000000)
    {cR : Sc → Sl → Heap → (Sl → Heap → Prop) → Prop} {cF : Sc → Sl → Int → Heap → (Int → Heap → Prop) → Prop} {cW : Sl → Int → Heap → (Sl → Heap → Prop) → Prop}
    (iR : ∀ {Q : Sl → Heap → Prop}, (∀ t h', New h h' kref22Act t l → Q t h') → cR sc p h Q)
    (iF : ∀ {h : Heap} {rl : Sl} {l : List Rc} {w : Int} {Q : Int → Heap → Prop}, Arr h kref22Act rl l → l.length ≤ 1000000 → Q (match firstR bd w l with | none => -1 | some k => (k : Int)) h → cF sc rl w h Q)
    (iW : ∀ {h : Heap} {rl : Sl} {l : List Rc} {k : Nat} {Q : Sl → Heap → Prop}, Arr h kref22Act rl l → l.length ≤ 1000000 → (∀ t h', New h h' kref22Act t (l.eraseIdx k) → Q t h') → cW rl (k : Int) h Q)
    {Q : Bool → Heap → Prop} (hQ : ∀ h', le h h' → Q (sameR bd l qs) h') : ref22_same.M cR cF cW sc p q h Q := by
  have hql := hq.1
  refine iR fun t h1 n1 => ?_
  refine Loop.up qs.length (fun s => s.2.1) (fun i st k => ∃ l', New h k kref22Act st.1 l' ∧ l'.length ≤ 1000000 ∧ sameR bd l qs = sameR bd l' (qs.drop i)) rfl ⟨l, n1, hl, rfl⟩ ?_
  rintro i ⟨t2, i', u⟩ k go hi hcc ⟨l', n, hl', hs⟩ hgo
  dsimp only at hcc n; subst hcc
  refine dcs (fun e => ?_) (fun e => ?_)
  · have e : (i : Int) < (q.len : Int) := e
    have hil : i < qs.length := by omega
    refine ⟨⟨Int.natCast_nonneg i, e⟩, (hq.le n.le).at (Int.natCast_nonneg i) e rfl fun w hw => ?_⟩
    rw [Int.toNat_natCast, List.getElem?_eq_getElem hil] at hw
    have hw := Option.some.inj hw
    subst hw
    rw [List.drop_eq_getElem_cons hil] at hs
    refine iF n.arr hl' ?_
    have hs : sameR bd l qs = match firstR bd qs[i] l' with
      | none => false
      | some k => sameR bd (l'.eraseIdx k) (qs.drop (i + 1)) := hs
    cases hf : firstR bd qs[i] l' with
    | none =>
      rw [hf] at hs
      refine dcs (fun _ => ?_) (fun z => absurd (show (-1 : Int) < 0 by decide) z)
      have hs : sameR bd l qs = false := hs
      rw [← hs]
      exact hQ k n.le
    | some m =>
      rw [hf] at hs
      refine dcs (fun z => absurd (show (m : Int) < 0 from z) (by omega)) (fun _ => ?_)
      refine iW n.arr hl' fun t3 h3 n3 => ?_
      have hel := List.length_eraseIdx_le l' m
      exact hgo hil _ _ (w64_up' (n := qs.length) hil (by omega)) ⟨_, n3.base n.le, by omega, hs⟩
  · have e : ¬ (i : Int) < (q.len : Int) := e
    rw [List.drop_of_length_le (by omega)] at hs
    have hs : sameR bd l qs = true := hs
    rw [← hs]
    exact hQ k n.le
end

/-- What Alike answers. -/
def AlR (sz : Int) (nb : Nat) (xss : List (List Ac)) (ps qs : List Int) (b : Bool) (e : Int) : Prop :=
  ∃ e0, Rdy sz nb xss ps e0 ∧ ((e0 ≠ 0 ∧ b = false ∧ e = e0) ∨ (e0 = 0 ∧ ¬ ScriptP (xss.map List.length) qs ∧ b = false ∧ e = 220) ∨ (e0 = 0 ∧ ScriptP (xss.map List.length) qs ∧ e = 0 ∧ (b = true ↔ Alk (bdE sz nb xss) (evL ps) (evL qs))))
theorem AlR.one {sz : Int} {nb : Nat} {xss : List (List Ac)} {ps qs : List Int} {b b' : Bool} {e e' : Int} (x : AlR sz nb xss ps qs b e) (y : AlR sz nb xss ps qs b' e') : b = b' ∧ e = e' := by
  obtain ⟨e0, x1, x2⟩ := x
  obtain ⟨e1, y1, y2⟩ := y
  obtain rfl := x1.one y1
  rcases x2 with ⟨a1, a2, a3⟩ | ⟨a1, a2, a3, a4⟩ | ⟨a1, a2, a3, a4⟩ <;> rcases y2 with ⟨b1, b2, b3⟩ | ⟨b1, b2, b3, b4⟩ | ⟨b1, b2, b3, b4⟩
  · exact ⟨a2.trans b2.symm, a3.trans b3.symm⟩
  · exact absurd b1 a1
  · exact absurd b1 a1
  · exact absurd a1 b1
  · exact ⟨a3.trans b3.symm, a4.trans b4.symm⟩
  · exact absurd b2 a2
  · exact absurd a1 b1
  · exact absurd a2 b2
  · exact ⟨by rw [Bool.eq_iff_iff, a4, b4], a3.trans b3.symm⟩

theorem moved_spec2 {h0 h : Heap} {c : Sc} {cls : List Sl} {mk : Sl} {bs : List Int} {xss : List (List Ac)} (o : Scn h0 h c cls mk bs xss) (hs : Small bs xss) {Q : Unit → Heap → Prop}
    (hQ : ∀ h' bs' xss', Scn h0 h' c cls mk bs' xss' → bs.length = bs'.length → Like xss xss' → Ext (fpS c cls) h h' → Q () h') : law22_moved.M c h Q := by
  refine Loop.up c.2.1.len (fun s => s.1) (fun i s k => ∃ bs', Scn h0 k c cls mk bs' xss ∧ bs.length = bs'.length ∧ Ext (fpS c cls) h k) rfl ⟨bs, o, rfl, .refl _ _⟩ ?_
  rintro i ⟨j, u⟩ k go hi hc ⟨bs', ho, hl, hX⟩ hgo
  dsimp only at hc; subst hc
  have hbl : c.2.1.len = bs'.length := ho.beg.len.symm
  refine ⟨fun q => ?_, fun q => ?_⟩
  · have q : (i : Int) < (c.2.1.len : Int) := of_decide_eq_true q
    have q' : i < c.2.1.len := by omega
    refine ⟨⟨Int.natCast_nonneg i, q⟩, ho.beg.arr.at (Int.natCast_nonneg i) q rfl fun x hx => ?_⟩
    refine ⟨⟨Int.natCast_nonneg i, q⟩, ho.beg.set (Int.natCast_nonneg i) q rfl rfl fun h' b e => ?_⟩
    exact hgo q' _ _ (w64_up q' (by rw [hbl, ← hl]; exact hs.1)) ⟨_, ho.begin b e, by simp [hl], hX.trans (e.mono fun x q => .inl q)⟩
  clear q hgo hi hbl
  have hs : Small bs' xss := ⟨hl ▸ hs.1, hs.2⟩
  refine Loop.up c.2.2.1.len (fun s => s.1) (fun i s k => ∃ xss', Scn h0 k c cls mk bs' xss' ∧ Like xss xss' ∧ Ext (fpS c cls) h k) rfl ⟨xss, ho, .refl _, hX⟩ ?_
  rintro i ⟨j, u⟩ k go hi hc ⟨xs1, ho, hk, hX⟩ hgo
  dsimp only at hc; subst hc
  have hll : c.2.2.1.len = cls.length := ho.ls.len.symm
  refine ⟨fun q => ?_, fun q => ?_⟩
  · have q : (i : Int) < (c.2.2.1.len : Int) := of_decide_eq_true q
    have q' : i < c.2.2.1.len := by omega
    have hi1 : i < xs1.length := by rw [← ho.len]; omega
    have hcl : cls[i]? = some cls[i] := by simp
    obtain ⟨xs, hxs⟩ : ∃ xs, xss[i]? = some xs := ⟨xss[i]'(by rw [hk.len]; exact hi1), by simp⟩
    have hn : xs.length ≤ 1048576 := hs.at hxs
    refine Loop.up xs.length (fun s => s.1) (fun j s k => ∃ xss', Scn h0 k c cls mk bs' xss' ∧ Like xss xss' ∧ Ext (fpS c cls) h k) rfl ⟨xs1, ho, hk, hX⟩ ?_
    rintro j ⟨j', u'⟩ k2 go2 hj hc ⟨xs2, ho, hk, hX⟩ hgo2
    dsimp only at hc; subst hc
    have hi2 : i < xs2.length := by rw [← ho.len]; omega
    have hx2 : xs2[i]? = some xs2[i] := by simp
    have hrow := ho.row i _ _ hcl hx2
    have hxl : xs2[i].length = xs.length := (hk.at hxs hx2).symm
    have hlen : cls[i].len = xs.length := by rw [← hrow.len, hxl]
    have rd : ∀ {h : Heap} {ys : List (List Ac)} {K : Sl → Prop}, Scn h0 h c cls mk bs' ys → K cls[i] → (0 ≤ (i : Int) ∧ (i : Int) < (c.2.2.1.len : Int)) ∧ deref c.2.2.1.a fun a => ld (.sl : Kd) h (a.add ((i : Int).toNat * 1)) K := by
      intro h ys K o hK
      refine ⟨⟨Int.natCast_nonneg i, q⟩, o.ls.arr.at (Int.natCast_nonneg i) q rfl fun x hx => ?_⟩
      rw [Int.toNat_natCast, hcl] at hx
      cases hx
      exact hK
    refine rd ho ⟨fun e => ?_, fun e => ?_⟩
    · · have e : (j : Int) < (cls[i].len : Int) := of_decide_eq_true e
        have e' : j < xs.length := by omega
        refine rd ho (rd ho ⟨⟨Int.natCast_nonneg j, e⟩, ?_⟩)
        refine hrow.arr.part (kp := ki) (f := fun x => x.2.1) (Int.natCast_nonneg j) e rfl ac_kind fun x hx => ?_
        refine ⟨by decide, ⟨Int.natCast_nonneg j, e⟩, ?_⟩
        refine hrow.setPart (kp := ki) (Int.natCast_nonneg j) e hx (y' := (x.1, (Int.tmod (w64 ((x.2.1 : Int) + 1)) 5, x.2.2))) rfl (by decide) rfl rfl fun h' b ex => ?_
        have ho' := ho.rowed hcl b ex
        have hk' := hk.set (xs := xs2[i].set (j : Int).toNat (x.1, (Int.tmod (w64 ((x.2.1 : Int) + 1)) 5, x.2.2))) hx2 (by simp)
        refine rd ho' (rd ho' ⟨⟨Int.natCast_nonneg j, e⟩, ?_⟩)
        refine b.arr.part (kp := ki) (f := fun x => x.2.2.2.1) (Int.natCast_nonneg j) e rfl ac_val fun y hy => ?_
        refine ⟨⟨Int.natCast_nonneg j, e⟩, ?_⟩
        refine b.setPart (kp := ki) (Int.natCast_nonneg j) e hy (y' := (y.1, (y.2.1, (y.2.2.1, (w64 ((y.2.2.2.1 : Int) + 1), y.2.2.2.2))))) rfl (by decide) rfl rfl fun h2 b2 ex2 => ?_
        refine hgo2 e' _ _ (w64_up e' hn) ⟨_, ho'.rowed hcl b2 ex2, hk'.set (by rw [List.getElem?_set_self hi2]) (by simp), (hX.trans (ex.mono fun x q => .inr ⟨_, List.mem_of_getElem? hcl, q⟩)).trans (ex2.mono fun x q => .inr ⟨_, List.mem_of_getElem? hcl, q⟩)⟩
    · · have e : ¬ (j : Int) < (cls[i].len : Int) := of_decide_eq_false e
        exact hgo q' _ _ (w64_up q' (by rw [hll, ho.len, ← hk.len]; exact hs.2.1)) ⟨_, ho, hk, hX⟩
  · exact hQ _ _ _ ho hl hk hX

end Go.Mx
