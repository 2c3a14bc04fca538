/-
  What moved, back, marked, sameCells and alike come to, of scenes.
-/
import Derived.Test.YtanfmmcpjifgiabMxEb
set_option linter.unusedVariables false
set_option linter.unusedSimpArgs false
namespace Go.Mx

/-- As many elements. -/
def Like {α : Type} (xss yss : List (List α)) : Prop := xss.map List.length = yss.map List.length
theorem Like.refl {α : Type} (xss : List (List α)) : Like xss xss := rfl
theorem Like.len {α : Type} {xss yss : List (List α)} (h : Like xss yss) : xss.length = yss.length := by
  have := congrArg List.length h
  simpa using this
theorem Like.at {α : Type} {xss yss : List (List α)} (h : Like xss yss) {i : Nat} {xs ys : List α} (a : xss[i]? = some xs) (b : yss[i]? = some ys) : xs.length = ys.length := by
  have : (xss.map List.length)[i]? = (yss.map List.length)[i]? := by rw [h]
  rw [List.getElem?_map, List.getElem?_map, a, b] at this
  exact Option.some.inj this
theorem Like.set {α : Type} {xss yss : List (List α)} (h : Like xss yss) {i : Nat} {xs ys : List α} (a : yss[i]? = some ys) (e : xs.length = ys.length) : Like xss (yss.set i xs) := by
  unfold Like at *
  rw [h]
  apply List.ext_getElem?
  intro j
  simp only [List.getElem?_map, List.getElem?_set]
  by_cases c : i = j
  · subst c
    rw [if_pos rfl, if_pos (List.getElem?_eq_some_iff.1 a).1, a]
    simp [e]
  · rw [if_neg c]

def Small (bs : List Int) (xss : List (List Ac)) : Prop := bs.length ≤ 1048576 ∧ xss.length ≤ 1048576 ∧ ∀ xs ∈ xss, xs.length ≤ 1048576
theorem Small.at {bs : List Int} {xss : List (List Ac)} (h : Small bs xss) {i : Nat} {xs : List Ac} (e : xss[i]? = some xs) : xs.length ≤ 1048576 := h.2.2 xs (List.mem_of_getElem? e)

theorem w64_up {i n : Nat} (h : i < n) (hn : n ≤ 1048576) : w64 ((i : Int) + 1) = ((i + 1 : Nat) : Int) := by rw [w64_of] <;> omega

/-- moved: whatever stands there then. -/
theorem moved_spec {h0 h : Heap} {c : Sc} {cls : List Sl} {mk : Sl} {bs : List Int} {xss : List (List Ac)} (o : Scn h0 h c cls mk bs xss) (hs : Small bs xss) {Q : Unit → Heap → Prop}
    (hQ : ∀ h' bs' xss', Scn h0 h' c cls mk bs' xss' → bs.length = bs'.length → Like xss xss' → Q () h') : law22_moved.M c h Q := by
  refine Loop.up c.2.1.len (fun s => s.1) (fun i s k => ∃ bs', Scn h0 k c cls mk bs' xss ∧ bs.length = bs'.length) rfl ⟨bs, o, rfl⟩ ?_
  rintro i ⟨j, u⟩ k go hi hc ⟨bs', ho, hl⟩ hgo
  dsimp only at hc; subst hc
  have hbl : c.2.1.len = bs'.length := ho.beg.len.symm
  refine ⟨fun q => ?_, fun q => ?_⟩
  · have q : (i : Int) < (c.2.1.len : Int) := of_decide_eq_true q
    have q' : i < c.2.1.len := by omega
    refine ⟨⟨Int.natCast_nonneg i, q⟩, ho.beg.arr.at (Int.natCast_nonneg i) q rfl fun x hx => ?_⟩
    refine ⟨⟨Int.natCast_nonneg i, q⟩, ho.beg.set (Int.natCast_nonneg i) q rfl rfl fun h' b e => ?_⟩
    exact hgo q' _ _ (w64_up q' (by rw [hbl, ← hl]; exact hs.1)) ⟨_, ho.begin b e, by simp [hl]⟩
  clear q hgo hi hbl
  have hs : Small bs' xss := ⟨hl ▸ hs.1, hs.2⟩
  refine Loop.up c.2.2.1.len (fun s => s.1) (fun i s k => ∃ xss', Scn h0 k c cls mk bs' xss' ∧ Like xss xss') rfl ⟨xss, ho, .refl _⟩ ?_
  rintro i ⟨j, u⟩ k go hi hc ⟨xs1, ho, hk⟩ hgo
  dsimp only at hc; subst hc
  have hll : c.2.2.1.len = cls.length := ho.ls.len.symm
  refine ⟨fun q => ?_, fun q => ?_⟩
  · have q : (i : Int) < (c.2.2.1.len : Int) := of_decide_eq_true q
    have q' : i < c.2.2.1.len := by omega
    have hi1 : i < xs1.length := by rw [← ho.len]; omega
    have hcl : cls[i]? = some cls[i] := by simp
    obtain ⟨xs, hxs⟩ : ∃ xs, xss[i]? = some xs := ⟨xss[i]'(by rw [hk.len]; exact hi1), by simp⟩
    have hn : xs.length ≤ 1048576 := hs.at hxs
    refine Loop.up xs.length (fun s => s.1) (fun j s k => ∃ xss', Scn h0 k c cls mk bs' xss' ∧ Like xss xss') rfl ⟨xs1, ho, hk⟩ ?_
    rintro j ⟨j', u'⟩ k2 go2 hj hc ⟨xs2, ho, hk⟩ hgo2
    dsimp only at hc; subst hc
    have hi2 : i < xs2.length := by rw [← ho.len]; omega
    have hx2 : xs2[i]? = some xs2[i] := by simp
    have hrow := ho.row i _ _ hcl hx2
    have hxl : xs2[i].length = xs.length := (hk.at hxs hx2).symm
    have hlen : cls[i].len = xs.length := by rw [← hrow.len, hxl]
    have rd : ∀ {h : Heap} {ys : List (List Ac)} {K : Sl → Prop}, Scn h0 h c cls mk bs' ys → K cls[i] → (0 ≤ (i : Int) ∧ (i : Int) < (c.2.2.1.len : Int)) ∧ deref c.2.2.1.a fun a => ld (.sl : Kd) h (a.add ((i : Int).toNat * 1)) K := by
      intro h ys K o hK
      refine ⟨⟨Int.natCast_nonneg i, q⟩, o.ls.arr.at (Int.natCast_nonneg i) q rfl fun x hx => ?_⟩
      rw [Int.toNat_natCast, hcl] at hx
      cases hx
      exact hK
    refine rd ho ⟨fun e => ?_, fun e => ?_⟩
    · · have e : (j : Int) < (cls[i].len : Int) := of_decide_eq_true e
        have e' : j < xs.length := by omega
        refine rd ho (rd ho ⟨⟨Int.natCast_nonneg j, e⟩, ?_⟩)
        refine hrow.arr.part (kp := ki) (f := fun x => x.2.1) (Int.natCast_nonneg j) e rfl ac_kind fun x hx => ?_
        refine ⟨by decide, ⟨Int.natCast_nonneg j, e⟩, ?_⟩
        refine hrow.setPart (kp := ki) (Int.natCast_nonneg j) e hx (y' := (x.1, (Int.tmod (w64 ((x.2.1 : Int) + 1)) 5, x.2.2))) rfl (by decide) rfl rfl fun h' b ex => ?_
        have ho' := ho.rowed hcl b ex
        have hk' := hk.set (xs := xs2[i].set (j : Int).toNat (x.1, (Int.tmod (w64 ((x.2.1 : Int) + 1)) 5, x.2.2))) hx2 (by simp)
        refine rd ho' (rd ho' ⟨⟨Int.natCast_nonneg j, e⟩, ?_⟩)
        refine b.arr.part (kp := ki) (f := fun x => x.2.2.2.1) (Int.natCast_nonneg j) e rfl ac_val fun y hy => ?_
        refine ⟨⟨Int.natCast_nonneg j, e⟩, ?_⟩
        refine b.setPart (kp := ki) (Int.natCast_nonneg j) e hy (y' := (y.1, (y.2.1, (y.2.2.1, (w64 ((y.2.2.2.1 : Int) + 1), y.2.2.2.2))))) rfl (by decide) rfl rfl fun h2 b2 ex2 => ?_
        refine hgo2 e' _ _ (w64_up e' hn) ⟨_, ho'.rowed hcl b2 ex2, hk'.set (by rw [List.getElem?_set_self hi2]) (by simp)⟩
    · · have e : ¬ (j : Int) < (cls[i].len : Int) := of_decide_eq_false e
        exact hgo q' _ _ (w64_up q' (by rw [hll, ho.len, ← hk.len]; exact hs.2.1)) ⟨_, ho, hk⟩
  · exact hQ _ _ _ ho hl hk


theorem mix_at {α : Type} {xs ys : List α} (e : xs.length = ys.length) {i : Nat} (h : i < xs.length) : (mix i xs ys)[i]? = ys[i]? := by
  unfold mix
  rw [List.getElem?_append_right (by simp; omega), List.getElem?_drop, List.length_take, Nat.min_eq_left (by omega), Nat.sub_self, Nat.add_zero]
def fpS (c : Sc) (cls : List Sl) : Nat → Prop := fun x => blkOf c.2.1 x ∨ ∃ sl ∈ cls, blkOf sl x
theorem back_spec2 {h0 h : Heap} {c s : Sc} {cls : List Sl} {mk : Sl} {bs bs' : List Int} {xss xss' : List (List Ac)} (o : Scn h0 h c cls mk bs' xss') (r : ScR h0 s bs xss) (hs : Small bs xss) (el : bs.length = bs'.length) (ek : Like xss xss')
    {Q : Unit → Heap → Prop} (hQ : ∀ h', Scn h0 h' c cls mk bs xss → Ext (fpS c cls) h h' → Q () h') : law22_back.M c s h Q := by
  obtain ⟨r1, sls, r2, r3, r4⟩ := r
  have hsb : s.2.1.len = bs.length := r1.1.symm
  refine Loop.up s.2.1.len (fun s => s.1) (fun i s k => Scn h0 k c cls mk (mix i bs bs') xss' ∧ Ext (fpS c cls) h k) rfl ⟨o, .refl _ _⟩ ?_
  rintro i ⟨j, u⟩ k go hi hc ⟨ho, hx⟩ hgo
  dsimp only at hc; subst hc
  refine ⟨fun q => ?_, fun q => ?_⟩
  · have q : (i : Int) < (s.2.1.len : Int) := of_decide_eq_true q
    have q' : i < s.2.1.len := by omega
    have hbl : c.2.1.len = bs.length := by rw [← ho.beg.len, mix_len el, el]
    refine ⟨⟨Int.natCast_nonneg i, q⟩, (r1.le ho.base).at (Int.natCast_nonneg i) q rfl fun x hx' => ?_⟩
    refine ⟨⟨Int.natCast_nonneg i, by omega⟩, ho.beg.set (Int.natCast_nonneg i) (by omega) rfl rfl fun h' b e => ?_⟩
    refine hgo q' _ _ (w64_up q' (by rw [hsb]; exact hs.1)) ⟨?_, hx.trans (e.mono fun x q => .inl q)⟩
    have := ho.begin b e
    rw [Int.toNat_natCast] at hx' this
    rwa [mix_set el hx'] at this
  have q : ¬ (i : Int) < (s.2.1.len : Int) := of_decide_eq_false q
  rw [mix_all (by omega) el] at ho
  clear q hgo hi el
  have hsl : s.2.2.1.len = xss.length := by rw [← r3, r2.1]
  refine Loop.up s.2.2.1.len (fun s => s.1) (fun i s k => Scn h0 k c cls mk bs (mix i xss xss') ∧ Ext (fpS c cls) h k) rfl ⟨ho, hx⟩ ?_
  rintro i ⟨j, u⟩ k go hi hc ⟨ho, hx⟩ hgo
  dsimp only at hc; subst hc
  refine ⟨fun q => ?_, fun q => ?_⟩
  · have q : (i : Int) < (s.2.2.1.len : Int) := of_decide_eq_true q
    have q' : i < s.2.2.1.len := by omega
    have hxi : i < xss.length := by omega
    have hyi : i < xss'.length := by rw [← ek.len]; exact hxi
    have hcl : c.2.2.1.len = xss.length := by rw [← ho.ls.len, ho.len, mix_len ek.len, ek.len]
    have hci : i < cls.length := by rw [ho.ls.len]; omega
    have hcl' : cls[i]? = some cls[i] := by simp
    have hsi : sls[i]? = some (sls[i]'(by omega)) := by simp
    have hxs : xss[i]? = some xss[i] := by simp
    have hys : xss'[i]? = some xss'[i] := by simp
    have hal : xss[i].length = xss'[i].length := ek.at hxs hys
    have hn : xss[i].length ≤ 1048576 := hs.at hxs
    have hmi : (mix i xss xss')[i]? = some xss'[i] := (mix_at ek.len hxi).trans hys
    have hmil : i < (mix i xss xss').length := by rw [mix_len ek.len]; exact hyi
    refine Loop.up xss[i].length (fun s => s.1) (fun j s k => Scn h0 k c cls mk bs ((mix i xss xss').set i (mix j xss[i] xss'[i])) ∧ Ext (fpS c cls) h k) rfl ⟨?_, hx⟩ ?_
    · rw [mix_zero]
      rwa [show (mix i xss xss').set i xss'[i] = mix i xss xss' from by
        apply List.ext_getElem?
        intro m
        rw [List.getElem?_set]
        by_cases e : i = m
        · subst e; rw [if_pos rfl, if_pos hmil, hmi]
        · rw [if_neg e]]
    rintro j ⟨j', u'⟩ k2 go2 hj hc ⟨ho, hx⟩ hgo2
    dsimp only at hc; subst hc
    have hrow := ho.row i _ _ hcl' (List.getElem?_set_self hmil)
    have hlen : cls[i].len = xss[i].length := by rw [← hrow.len, mix_len hal, hal]
    have hsr := (r4 i _ _ hsi hxs).le ho.base
    have hsll : (sls[i]'(by omega)).len = xss[i].length := hsr.1.symm
    have rc : ∀ {K : Sl → Prop}, K cls[i] → (0 ≤ (i : Int) ∧ (i : Int) < (c.2.2.1.len : Int)) ∧ deref c.2.2.1.a fun a => ld (.sl : Kd) k2 (a.add ((i : Int).toNat * 1)) K := by
      intro K hK
      refine ⟨⟨Int.natCast_nonneg i, by omega⟩, ho.ls.arr.at (Int.natCast_nonneg i) (by omega) rfl fun x hx => ?_⟩
      rw [Int.toNat_natCast, hcl'] at hx
      cases hx
      exact hK
    have rs : ∀ {K : Sl → Prop}, K (sls[i]'(by omega)) → (0 ≤ (i : Int) ∧ (i : Int) < (s.2.2.1.len : Int)) ∧ deref s.2.2.1.a fun a => ld (.sl : Kd) k2 (a.add ((i : Int).toNat * 1)) K := by
      intro K hK
      refine ⟨⟨Int.natCast_nonneg i, q⟩, (r2.le ho.base).at (Int.natCast_nonneg i) q rfl fun x hx => ?_⟩
      rw [Int.toNat_natCast, hsi] at hx
      cases hx
      exact hK
    refine rs ⟨fun e => ?_, fun e => ?_⟩
    · have e : (j : Int) < ((sls[i]'(by omega)).len : Int) := of_decide_eq_true e
      have e' : j < xss[i].length := by omega
      refine rc (rs ⟨⟨Int.natCast_nonneg j, e⟩, hsr.at (Int.natCast_nonneg j) e rfl fun x hx' => ?_⟩)
      refine ⟨⟨Int.natCast_nonneg j, by omega⟩, hrow.set (Int.natCast_nonneg j) (by omega) rfl rfl fun h' b ex => ?_⟩
      refine hgo2 e' _ _ (w64_up e' hn) ⟨?_, hx.trans (ex.mono fun x q => .inr ⟨_, List.mem_of_getElem? hcl', q⟩)⟩
      have := ho.rowed hcl' b ex
      rw [Int.toNat_natCast] at hx' this
      rw [List.set_set, mix_set hal hx'] at this
      exact this
    · have e : ¬ (j : Int) < ((sls[i]'(by omega)).len : Int) := of_decide_eq_false e
      rw [mix_all (by omega) hal, mix_set ek.len hxs] at ho
      exact hgo q' _ _ (w64_up q' (by rw [hsl]; exact hs.2.1)) ⟨ho, hx⟩
  · have q : ¬ (i : Int) < (s.2.2.1.len : Int) := of_decide_eq_false q
    rw [mix_all (by omega) ek.len] at ho
    exact hQ _ ho hx

theorem back_spec {h0 h : Heap} {c s : Sc} {cls : List Sl} {mk : Sl} {bs bs' : List Int} {xss xss' : List (List Ac)} (o : Scn h0 h c cls mk bs' xss') (r : ScR h0 s bs xss) (hs : Small bs xss) (el : bs.length = bs'.length) (ek : Like xss xss')
    {Q : Unit → Heap → Prop} (hQ : ∀ h', Scn h0 h' c cls mk bs xss → Q () h') : law22_back.M c s h Q := back_spec2 o r hs el ek fun h' a _ => hQ h' a

theorem sameCells_spec {a b : Sl} {h : Heap} {xs : List Int} (ha : Arr h ki a xs) (hb : Arr h ki b xs) (hn : xs.length ≤ 1048576) {Q : Bool → Heap → Prop} (hQ : Q true h) : law22_sameCells.M a b h Q := by
  have hl : a.len = b.len := by rw [← ha.1, ← hb.1]
  have hla : a.len = xs.length := ha.1.symm
  refine ⟨fun c => absurd (of_decide_eq_true c) (by omega), fun _ => ?_⟩
  refine Loop.up a.len (fun s => s.1) (fun i s h' => h' = h) rfl rfl ?_
  rintro i ⟨j, u⟩ h' go hi hc hN hgo
  dsimp only at hc; subst hc; subst hN
  refine ⟨fun c => ?_, fun c => hQ⟩
  have c : (i : Int) < (a.len : Int) := of_decide_eq_true c
  have c' : i < a.len := by omega
  refine ⟨⟨by omega, c⟩, ?_⟩
  obtain ⟨aa, an, am⟩ := a
  cases aa with
  | none => have := ha.2.2; dsimp only at this c'; omega
  | some aa =>
  refine ⟨⟨by omega, by omega⟩, ?_⟩
  obtain ⟨ba, bn, bm⟩ := b
  cases ba with
  | none => have := hb.2.2; dsimp only at this hl c'; omega
  | some ba =>
  have hlt : i < xs.length := by rw [ha.1]; exact c'
  refine ⟨xs[i], cellsAt_el ha.2.2 (by simp [hlt]), xs[i], cellsAt_el hb.2.2 (by simp [hlt]), fun d => absurd rfl (of_decide_eq_true d), fun d => ?_⟩
  exact hgo c' _ _ (w64_up hlt hn) rfl

theorem marked_spec {h0 h : Heap} {c : Sc} {cls : List Sl} {mk : Sl} {bs : List Int} {xss : List (List Ac)} (o : Scn h0 h c cls mk bs xss) (hs : Small bs xss) {Q : Bool → Heap → Prop} (hQ : Q true h) : law22_marked.M c h Q := by
  have hll : c.2.2.1.len = cls.length := o.ls.len.symm
  have hbl : c.2.1.len = bs.length := o.beg.len.symm
  have hs1 := hs.1
  have hs2 := hs.2.1
  have hcx := o.len
  have cap1 := o.beg.cap
  have cap2 := o.ls.cap
  refine Loop.up c.2.2.1.len (fun s => s.1) (fun i s k => k = h) rfl rfl ?_
  rintro i ⟨j, u⟩ k go hi hc rfl hgo
  dsimp only at hc; subst hc
  refine ⟨fun q => ?_, fun q => ?_⟩
  · have q : (i : Int) < (c.2.2.1.len : Int) := of_decide_eq_true q
    have q' : i < c.2.2.1.len := by omega
    have hci : i < cls.length := by omega
    have hcl : cls[i]? = some cls[i] := by simp
    have hxs : xss[i]? = some (xss[i]'(by omega)) := by simp
    have hrow := o.row i _ _ hcl hxs
    have hn := hs.at hxs
    have hlen := hrow.len
    have hcap := hrow.cap
    have rd : ∀ {K : Sl → Prop}, K cls[i] → (0 ≤ (i : Int) ∧ (i : Int) < (c.2.2.1.len : Int)) ∧ deref c.2.2.1.a fun a => ld (.sl : Kd) k (a.add ((i : Int).toNat * 1)) K := by
      intro K hK
      refine ⟨⟨Int.natCast_nonneg i, q⟩, o.ls.arr.at (Int.natCast_nonneg i) q rfl fun x hx => ?_⟩
      rw [Int.toNat_natCast, hcl] at hx
      cases hx
      exact hK
    have hw : w64 ((cls[i].len : Int) + 1) = ((cls[i].len + 1 : Nat) : Int) := by rw [w64_of] <;> omega
    refine rd (rd ?_)
    rw [hw]
    refine ⟨⟨by omega, by omega⟩, ?_⟩
    rw [Int.toNat_natCast]
    have hr := hrow.room (sz := 5)
    refine ⟨⟨by omega, by rw [cut_zero]; show (cls[i].len : Int) < ((cls[i].len + 1 : Nat) : Int); omega⟩, ?_⟩
    refine hr.part (kp := ki) (f := fun x => x.2.1) (i := (cls[i].len : Int)) (by omega) (by rw [cut_zero]; show (cls[i].len : Int) < ((cls[i].len + 1 : Nat) : Int); omega) rfl ac_kind fun x hx => ?_
    rw [Int.toNat_natCast, ← hlen, List.getElem?_append_right (Nat.le_refl _), Nat.sub_self] at hx
    cases hx
    refine ⟨fun e => absurd rfl (of_decide_eq_true e), fun e => ?_⟩
    exact hgo q' _ _ (w64_up q' (by omega)) rfl
  · have w1 : w64 ((c.2.1.len : Int) + 1) = ((c.2.1.len + 1 : Nat) : Int) := by rw [w64_of] <;> omega
    have w2 : w64 ((c.2.2.1.len : Int) + 1) = ((c.2.2.1.len + 1 : Nat) : Int) := by rw [w64_of] <;> omega
    rw [w1, w2]
    refine ⟨⟨by omega, by omega⟩, ⟨by omega, by omega⟩, ?_⟩
    rw [Int.toNat_natCast, Int.toNat_natCast]
    have hr1 := o.beg.room (sz := 1)
    have hr2 := o.ls.room (sz := 1)
    refine ⟨⟨by omega, by rw [cut_zero]; show (c.2.2.1.len : Int) < ((c.2.2.1.len + 1 : Nat) : Int); omega⟩, ?_⟩
    refine hr2.at (i := (c.2.2.1.len : Int)) (by omega) (by rw [cut_zero]; show (c.2.2.1.len : Int) < ((c.2.2.1.len + 1 : Nat) : Int); omega) rfl fun x hx => ?_
    rw [Int.toNat_natCast, ← o.ls.len, List.getElem?_append_right (Nat.le_refl _), Nat.sub_self] at hx
    cases hx
    refine ⟨⟨by omega, by rw [cut_zero]; show (c.2.1.len : Int) < ((c.2.1.len + 1 : Nat) : Int); omega⟩, ?_⟩
    refine hr1.at (i := (c.2.1.len : Int)) (by omega) (by rw [cut_zero]; show (c.2.1.len : Int) < ((c.2.1.len + 1 : Nat) : Int); omega) rfl fun x hx => ?_
    rw [Int.toNat_natCast, ← o.beg.len, List.getElem?_append_right (Nat.le_refl _), Nat.sub_self] at hx
    cases hx
    refine ⟨fun _ => ⟨fun _ => ?_, fun e => ?_⟩, fun e => absurd rfl (of_decide_eq_false e)⟩
    · have hm : mk.len = 1 := o.lone.len.symm
      refine ⟨⟨by omega, by omega⟩, ?_⟩
      refine o.lone.arr.part (kp := ki) (f := fun x => x.2.1) (i := 0) (by omega) (by omega) rfl ac_kind fun x hx => ?_
      cases hx
      exact hQ
    · have hm : mk.len = 1 := o.lone.len.symm
      exact absurd (by omega) (of_decide_eq_false e)

theorem alike_spec {h0 h : Heap} {c s : Sc} {cls : List Sl} {mk : Sl} {bs : List Int} {xss : List (List Ac)} (o : Scn h0 h c cls mk bs xss) (r : ScR h0 s bs xss) (hs : Small bs xss) (hz : c.1 = s.1)
    {c1 : Sc → Heap → (Bool → Heap → Prop) → Prop} {c2 : Sl → Sl → Heap → (Bool → Heap → Prop) → Prop} (i1 : ∀ {a h Q}, law22_marked.M a h Q → c1 a h Q) (i2 : ∀ {a b h Q}, law22_sameCells.M a b h Q → c2 a b h Q)
    {Q : Bool → Heap → Prop} (hQ : Q true h) : law22_alike.M c1 c2 c s h Q := by
  obtain ⟨r1, sls, r2, r3, r4⟩ := r.le o.base
  refine i1 (marked_spec (c := c) o hs ⟨fun e => (by cases e), fun _ => ⟨fun e => absurd hz (of_decide_eq_true e), fun _ => i2 (sameCells_spec o.beg.arr r1 hs.1 ⟨fun e => (by cases e), fun _ => ?_⟩)⟩⟩)
  have hll : c.2.2.1.len = xss.length := by rw [← o.ls.len, o.len]
  have hsl : s.2.2.1.len = xss.length := by rw [← r3, r2.1]
  refine ⟨fun e => absurd (of_decide_eq_true e) (by omega), fun _ => ?_⟩
  refine Loop.up c.2.2.1.len (fun s => s.1) (fun i s k => k = h) rfl rfl ?_
  rintro i ⟨j, u⟩ k go hi hc rfl hgo
  dsimp only at hc; subst hc
  refine ⟨fun q => ?_, fun q => hQ⟩
  have q : (i : Int) < (c.2.2.1.len : Int) := of_decide_eq_true q
  have q' : i < c.2.2.1.len := by omega
  have hci : i < cls.length := by rw [o.len]; omega
  have hcl : cls[i]? = some cls[i] := by simp
  have hsi : sls[i]? = some (sls[i]'(by omega)) := by simp
  have hxs : xss[i]? = some (xss[i]'(by omega)) := by simp
  have hrow := (o.row i _ _ hcl hxs).arr
  have hsr := r4 i _ _ hsi hxs
  have hn := hs.at hxs
  have hl1 : cls[i].len = (xss[i]'(by omega)).length := hrow.1.symm
  have hl2 : (sls[i]'(by omega)).len = (xss[i]'(by omega)).length := hsr.1.symm
  have rc : ∀ {K : Sl → Prop}, K cls[i] → (0 ≤ (i : Int) ∧ (i : Int) < (c.2.2.1.len : Int)) ∧ deref c.2.2.1.a fun a => ld (.sl : Kd) k (a.add ((i : Int).toNat * 1)) K := by
    intro K hK
    refine ⟨⟨Int.natCast_nonneg i, q⟩, o.ls.arr.at (Int.natCast_nonneg i) q rfl fun x hx => ?_⟩
    rw [Int.toNat_natCast, hcl] at hx
    cases hx
    exact hK
  have rs : ∀ {K : Sl → Prop}, K (sls[i]'(by omega)) → (0 ≤ (i : Int) ∧ (i : Int) < (s.2.2.1.len : Int)) ∧ deref s.2.2.1.a fun a => ld (.sl : Kd) k (a.add ((i : Int).toNat * 1)) K := by
    intro K hK
    refine ⟨⟨Int.natCast_nonneg i, by omega⟩, r2.at (Int.natCast_nonneg i) (by omega) rfl fun x hx => ?_⟩
    rw [Int.toNat_natCast, hsi] at hx
    cases hx
    exact hK
  refine rc (rs ⟨fun e => absurd (of_decide_eq_true e) (by omega), fun _ => ?_⟩)
  refine Loop.up cls[i].len (fun s => s.1) (fun j s k2 => k2 = k) rfl rfl ?_
  rintro j ⟨j', u'⟩ k2 go2 hj hc rfl hgo2
  dsimp only at hc; subst hc
  refine rc ⟨fun e => ?_, fun e => hgo q' _ _ (w64_up q' (by rw [hll]; exact hs.2.1)) rfl⟩
  have e : (j : Int) < (cls[i].len : Int) := of_decide_eq_true e
  have e' : j < cls[i].len := by omega
  refine rc ⟨⟨Int.natCast_nonneg j, e⟩, hrow.at (Int.natCast_nonneg j) e rfl fun x hx => ?_⟩
  refine rs ⟨⟨Int.natCast_nonneg j, by omega⟩, hsr.at (Int.natCast_nonneg j) (by omega) rfl fun y hy => ?_⟩
  rw [hx] at hy
  cases hy
  have he := eqK_refl kapiAct x rfl
  refine ⟨fun e => (by rw [he] at e; cases e), fun _ => ?_⟩
  exact hgo2 e' _ _ (w64_up e' (by rw [hl1]; exact hn)) rfl

end Go.Mx
