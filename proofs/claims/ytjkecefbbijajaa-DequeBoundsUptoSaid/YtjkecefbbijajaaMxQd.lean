/-
  The deque alone: what holds of its cells and its machines, whoever steps.
-/
import Derived.Test.YtjkecefbbijajaaMxQc
import Derived.Test.YtjkecefbbijajaaMxDn
set_option linter.unusedVariables false
set_option linter.unusedSimpArgs false
namespace Go.Mx

/-! ### cells -/
def gt (cs : List Int) (x : Int) : Int := cs[x.toNat]?.getD 0
theorem gt_set {cs : List Int} {x v y : Int} (hx : 0 ≤ x) (hl : x < (cs.length : Int)) (hy : 0 ≤ y) : gt (cs.set x.toNat v) y = if y = x then v else gt cs y := by
  unfold gt
  by_cases e : y = x
  · subst e
    rw [if_pos rfl, List.getElem?_set_self (by omega)]; rfl
  · rw [if_neg e, List.getElem?_set_ne (by omega)]
theorem gt_set_ne {cs : List Int} {x v y : Int} (hx : 0 ≤ x) (hy : 0 ≤ y) (e : y ≠ x) : gt (cs.set x.toNat v) y = gt cs y := by
  unfold gt
  rw [List.getElem?_set_ne (by omega)]
theorem gt_app (cs : List Int) (n : Nat) (y : Int) : gt (cs ++ List.replicate n 0) y = gt cs y := by
  unfold gt
  by_cases h : y.toNat < cs.length
  · rw [List.getElem?_append_left h]
  · rw [List.getElem?_append_right (by omega), List.getElem?_eq_none (l := cs) (by omega)]
    cases e : (List.replicate n (0 : Int))[y.toNat - cs.length]? with
    | none => rfl
    | some v =>
      have := List.mem_of_getElem? e
      rw [List.mem_replicate] at this
      rw [this.2]; rfl
theorem at_gt (s : AS) (a : Int) : s.at' a = gt s.cs a := rfl

def pl (a c i : Int) : Int := a + 1 + i % c
theorem pl_range {a c i : Int} (hc : 1 ≤ c) : a + 1 ≤ pl a c i ∧ pl a c i ≤ a + c := by
  have h1 := Int.emod_nonneg i (b := c) (by omega)
  have h2 := Int.emod_lt_of_pos i (b := c) (by omega)
  unfold pl
  omega
theorem mod_ne {c i j : Int} (h1 : i < j) (h2 : j - i < c) : i % c ≠ j % c := by
  intro e
  have a := Int.emod_def i c
  have b := Int.emod_def j c
  have h : j - i = c * (j / c - i / c) := by rw [Int.mul_sub]; omega
  generalize j / c - i / c = q at h
  rcases Int.lt_or_le 0 q with p | p
  · have : c * 1 ≤ c * q := Int.mul_le_mul_of_nonneg_left (by omega) (by omega)
    omega
  · have : c * q ≤ c * 0 := Int.mul_le_mul_of_nonneg_left p (by omega)
    omega
theorem pl_ne {a c i j : Int} (h1 : i < j) (h2 : j - i < c) : pl a c i ≠ pl a c j := by
  have := mod_ne h1 h2
  unfold pl
  omega
theorem pl_ne' {a c i j : Int} (h0 : i ≠ j) (h1 : j - i < c) (h2 : i - j < c) : pl a c i ≠ pl a c j := by
  rcases Int.lt_or_lt_of_ne h0 with h | h
  · exact pl_ne h h1
  · exact (pl_ne h h2).symm
theorem placeD_pl {a c i : Int} (ha : 0 ≤ a) (ha2 : a ≤ 1000000000) (hc : 1 ≤ c) (hc2 : c ≤ 1000000000) (hi : 0 ≤ i) : placeD a c i = pl a c i := by
  have h1 := Int.emod_nonneg i (b := c) (by omega)
  have h2 := Int.emod_lt_of_pos i (b := c) (by omega)
  have e : Int.tmod i c = i % c := Int.tmod_eq_emod_of_nonneg hi
  unfold placeD pl
  rw [e, if_neg (by omega)]
  have w : w64 (a + 1) = a + 1 := by rw [w64_of] <;> omega
  rw [w, w64_of] <;> omega

/-! ### what holds -/
/-- A pop has lowered BOTTOM, and may still lose its element to a thief. -/
def lowered (own : DOp) : Prop := own.kind = 2 ∧ (own.pc = 2 ∨ ((own.pc = 4 ∨ own.pc = 12 ∨ own.pc = 13) ∧ own.t = own.b) ∨ (own.pc = 11 ∧ own.i ≠ 0))
instance (own : DOp) : Decidable (lowered own) := by unfold lowered; infer_instance
/-- Where the elements end that a thief may still get. -/
def Bl (cs : List Int) (own : DOp) : Int := if lowered own then own.b + 1 else gt cs 1
/-- How many cells the owner has reserved for a buffer that is not in use yet. -/
def newer (own : DOp) : Int := if own.kind = 1 ∧ 6 ≤ own.pc ∧ own.pc ≤ 9 then 1 + own.c2 else 0
abbrev cA (cs : List Int) : Int := gt cs 2
abbrev cC (cs : List Int) : Int := gt cs (gt cs 2)
abbrev cE (cs : List Int) (i : Int) : Int := gt cs (pl (cA cs) (cC cs) i)
/-- Of the cells. -/
structure DG (most sz N : Int) (cs : List Int) (own : DOp) : Prop where
  mx : most ≤ 4096
  t0 : 0 ≤ gt cs 0
  tb : gt cs 0 ≤ Bl cs own
  fit : Bl cs own - gt cs 0 ≤ cC cs
  bn : Bl cs own ≤ N
  nn : N ≤ 1000000000
  a3 : 3 ≤ cA cs
  c1 : 1 ≤ cC cs
  cm : cC cs ≤ most
  len : (cs.length : Int) = cA cs + cC cs + 1 + newer own
  szb : sz ≤ 1048576
  le : (cs.length : Int) ≤ sz
  room : ∃ k : Nat, most - cC cs ≤ (k : Int) ∧ cellsGo most k (cA cs + cC cs + 1) (cC cs) = sz

/-- Of the owner's machine. -/
inductive OwnS (most : Int) (cs : List Int) (o : DOp) : Prop
  | idle (p : o.pc = 0)
  | pu1 (k : o.kind = 1) (p : o.pc = 1)
  | pu2 (k : o.kind = 1) (p : o.pc = 2) (b : o.b = gt cs 1)
  | pu3 (k : o.kind = 1) (p : o.pc = 3) (b : o.b = gt cs 1) (t0 : 0 ≤ o.t) (t : o.t ≤ gt cs 0) (f : o.b - o.t ≤ cC cs)
  | pu4 (k : o.kind = 1) (p : o.pc = 4) (b : o.b = gt cs 1) (t0 : 0 ≤ o.t) (t : o.t ≤ gt cs 0) (f : o.b - o.t ≤ cC cs) (a : o.a = cA cs)
  | pu5 (k : o.kind = 1) (p : o.pc = 5) (b : o.b = gt cs 1) (t0 : 0 ≤ o.t) (t : o.t ≤ gt cs 0) (f : o.b - o.t = cC cs) (a : o.a = cA cs) (c : o.c = cC cs) (lt : cC cs < most) (c2 : o.c2 = if most < 2 * cC cs then most else 2 * cC cs)
  | pu6 (k : o.kind = 1) (p : o.pc = 6) (b : o.b = gt cs 1) (t0 : 0 ≤ o.t) (t : o.t ≤ gt cs 0) (f : o.b - o.t = cC cs) (a : o.a = cA cs) (c : o.c = cC cs) (lt : cC cs < most) (c2 : o.c2 = if most < 2 * cC cs then most else 2 * cC cs) (a2 : o.a2 = cA cs + cC cs + 1)
  | pu7 (k : o.kind = 1) (p : o.pc = 7) (b : o.b = gt cs 1) (t0 : 0 ≤ o.t) (t : o.t ≤ gt cs 0) (f : o.b - o.t = cC cs) (a : o.a = cA cs) (c : o.c = cC cs) (lt : cC cs < most) (c2 : o.c2 = if most < 2 * cC cs then most else 2 * cC cs) (a2 : o.a2 = cA cs + cC cs + 1)
      (hd : gt cs o.a2 = o.c2) (i1 : o.t ≤ o.i) (i2 : o.i < o.b) (cp : ∀ j, o.t ≤ j → j < o.i → gt cs (pl o.a2 o.c2 j) = cE cs j)
  | pu8 (k : o.kind = 1) (p : o.pc = 8) (b : o.b = gt cs 1) (t0 : 0 ≤ o.t) (t : o.t ≤ gt cs 0) (f : o.b - o.t = cC cs) (a : o.a = cA cs) (c : o.c = cC cs) (lt : cC cs < most) (c2 : o.c2 = if most < 2 * cC cs then most else 2 * cC cs) (a2 : o.a2 = cA cs + cC cs + 1)
      (hd : gt cs o.a2 = o.c2) (i1 : o.t ≤ o.i) (i2 : o.i < o.b) (cp : ∀ j, o.t ≤ j → j < o.i → gt cs (pl o.a2 o.c2 j) = cE cs j) (x : o.x = cE cs o.i)
  | pu9 (k : o.kind = 1) (p : o.pc = 9) (b : o.b = gt cs 1) (t0 : 0 ≤ o.t) (t : o.t ≤ gt cs 0) (f : o.b - o.t = cC cs) (a : o.a = cA cs) (c : o.c = cC cs) (lt : cC cs < most) (c2 : o.c2 = if most < 2 * cC cs then most else 2 * cC cs) (a2 : o.a2 = cA cs + cC cs + 1)
      (hd : gt cs o.a2 = o.c2) (cp : ∀ j, o.t ≤ j → j < o.b → gt cs (pl o.a2 o.c2 j) = cE cs j)
  | pu10 (k : o.kind = 1) (p : o.pc = 10) (b : o.b = gt cs 1) (t0 : 0 ≤ o.t) (t : o.t ≤ gt cs 0) (f : o.b - o.t < cC cs) (a : o.a = cA cs) (c : o.c = cC cs)
  | pu11 (k : o.kind = 1) (p : o.pc = 11) (b : o.b = gt cs 1) (t0 : 0 ≤ o.t) (t : o.t ≤ gt cs 0) (f : o.b - o.t < cC cs) (a : o.a = cA cs) (c : o.c = cC cs) (e : cE cs o.b = o.v)
  | po1 (k : o.kind = 2) (p : o.pc = 1) (i : o.i = 0) (w : o.won = false)
  | po3 (k : o.kind = 2) (p : o.pc = 3) (i : o.i = 0) (w : o.won = false) (b : o.b = gt cs 1 - 1)
  | po11 (k : o.kind = 2) (p : o.pc = 11) (i : o.i = 0) (w : o.won = false) (b : o.b = gt cs 1 - 1) (a : o.a = cA cs)
  | po2 (k : o.kind = 2) (p : o.pc = 2) (i : o.i = 0) (w : o.won = false) (b : o.b = gt cs 1) (a : o.a = cA cs)
  | po4 (k : o.kind = 2) (p : o.pc = 4) (i : o.i = 1) (w : o.won = false) (b : o.b = gt cs 1) (a : o.a = cA cs) (t0 : 0 ≤ o.t) (t : o.t ≤ gt cs 0) (tb : o.t ≤ o.b)
  | po12 (k : o.kind = 2) (p : o.pc = 12) (i : o.i = 1) (w : o.won = false) (b : o.b = gt cs 1) (a : o.a = cA cs) (t0 : 0 ≤ o.t) (t : o.t ≤ gt cs 0) (tb : o.t ≤ o.b) (c : o.c = cC cs)
  | po13 (k : o.kind = 2) (p : o.pc = 13) (i : o.i = 1) (w : o.won = false) (b : o.b = gt cs 1) (t0 : 0 ≤ o.t) (t : o.t ≤ gt cs 0) (tb : o.t = o.b) (x : o.x = cE cs o.b)
  | pe (k : o.kind = 2) (p : o.pc = 11) (i : o.i = 1) (w : o.won = false) (b : o.b = gt cs 1) (t : o.t = o.b + 1) (tt : gt cs 0 = o.b + 1)
  | pf (k : o.kind = 2) (p : o.pc = 11) (i : o.i = 1) (b : o.b = gt cs 1) (t : o.t = o.b) (tt : gt cs 0 = o.b + 1)

/-- A thief may have the element. -/
def Av (cs : List Int) (own : DOp) (t : Int) : Prop := t < gt cs 1 ∨ (gt cs 1 = t ∧ lowered own ∧ own.b = t ∧ own.pc ≠ 11)
/-- A buffer that is, or was, in use. -/
def Buf (cs : List Int) (a : Int) : Prop := 3 ≤ a ∧ 1 ≤ gt cs a ∧ gt cs a ≤ 4096 ∧ (a = cA cs ∨ a + gt cs a + 1 ≤ cA cs)
/-- Of a thief's machine. -/
inductive ThS (cs : List Int) (own th : DOp) : Prop
  | idle (p : th.pc = 0)
  | st2 (k : th.kind = 3) (p : th.pc = 2)
  | st1 (k : th.kind = 3) (p : th.pc = 1) (t0 : 0 ≤ th.t) (t : th.t ≤ gt cs 0)
  | st3 (k : th.kind = 3) (p : th.pc = 3) (t0 : 0 ≤ th.t) (t : th.t ≤ gt cs 0) (av : th.t = gt cs 0 → Av cs own th.t)
  | st4 (k : th.kind = 3) (p : th.pc = 4) (t0 : 0 ≤ th.t) (t : th.t ≤ gt cs 0) (av : th.t = gt cs 0 → Av cs own th.t) (bf : Buf cs th.a) (e : th.t = gt cs 0 → gt cs (pl th.a (gt cs th.a) th.t) = cE cs th.t)
  | st12 (k : th.kind = 3) (p : th.pc = 12) (t0 : 0 ≤ th.t) (t : th.t ≤ gt cs 0) (av : th.t = gt cs 0 → Av cs own th.t) (bf : Buf cs th.a) (c : th.c = gt cs th.a) (e : th.t = gt cs 0 → gt cs (pl th.a (gt cs th.a) th.t) = cE cs th.t)
  | st13 (k : th.kind = 3) (p : th.pc = 13) (t0 : 0 ≤ th.t) (t : th.t ≤ gt cs 0) (av : th.t = gt cs 0 → Av cs own th.t) (x : th.t = gt cs 0 → th.x = cE cs th.t)
  | lk2 (k : th.kind = 4) (p : th.pc = 2)
  | lk1 (k : th.kind = 4) (p : th.pc = 1) (t0 : 0 ≤ th.t) (t : th.t ≤ gt cs 0)
/-- Whose machine it is. -/
def Mach (most : Int) (o : DOp) : Prop := o.pc ≠ 0 → o.base = 0 ∧ o.most = most


/-! ### how it is kept -/
theorem DG.dep {most sz N cs own} (g : DG most sz N cs own) (hn : 0 ≤ newer own) {x : Int} (h0 : 0 ≤ x) (h : x ≤ cA cs + cC cs) : 0 ≤ x ∧ x < (cs.length : Int) := by
  have := g.len
  omega
theorem ThS.keep {cs cs' : List Int} {own own' th : DOp} (h : ThS cs own th) (hT : gt cs' 0 = gt cs 0) (hAv : Av cs own (gt cs 0) → Av cs' own' (gt cs 0))
    (hB : ∀ a, Buf cs a → Buf cs' a ∧ gt cs' a = gt cs a ∧ (Av cs own (gt cs 0) → gt cs (pl a (gt cs a) (gt cs 0)) = cE cs (gt cs 0) → gt cs' (pl a (gt cs a) (gt cs 0)) = cE cs' (gt cs 0))) (hE : Av cs own (gt cs 0) → cE cs' (gt cs 0) = cE cs (gt cs 0)) : ThS cs' own' th := by
  have av : ∀ {t : Int}, (t = gt cs 0 → Av cs own t) → t = gt cs' 0 → Av cs' own' t := fun {t} h e => by
    rw [hT] at e
    have := h e
    rw [e] at this ⊢
    exact hAv this
  cases h with
  | idle p => exact .idle p
  | st2 k p => exact .st2 k p
  | st1 k p t0 t => exact .st1 k p t0 (by rw [hT]; exact t)
  | st3 k p t0 t v => exact .st3 k p t0 (by rw [hT]; exact t) (av v)
  | st4 k p t0 t v bf e =>
    obtain ⟨h1, h2, h3⟩ := hB _ bf
    refine .st4 k p t0 (by rw [hT]; exact t) (av v) h1 fun q => ?_
    rw [hT] at q
    have v := v q
    have e := e q
    rw [q] at v e ⊢
    rw [h2]
    exact h3 v e
  | st12 k p t0 t v bf c e =>
    obtain ⟨h1, h2, h3⟩ := hB _ bf
    refine .st12 k p t0 (by rw [hT]; exact t) (av v) h1 (by rw [h2]; exact c) fun q => ?_
    rw [hT] at q
    have v := v q
    have e := e q
    rw [q] at v e ⊢
    rw [h2]
    exact h3 v e
  | st13 k p t0 t v x =>
    refine .st13 k p t0 (by rw [hT]; exact t) (av v) fun q => ?_
    rw [hT] at q
    have v := v q
    have x := x q
    rw [q] at v x ⊢
    rw [hE v]
    exact x
  | lk2 k p => exact .lk2 k p
  | lk1 k p t0 t => exact .lk1 k p t0 (by rw [hT]; exact t)
/-- TOP has risen. -/
theorem ThS.bump {cs cs' : List Int} {own own' th : DOp} (h : ThS cs own th) (hT : gt cs' 0 = gt cs 0 + 1) (hB : ∀ a, Buf cs a → Buf cs' a ∧ gt cs' a = gt cs a) : ThS cs' own' th := by
  cases h with
  | idle p => exact .idle p
  | st2 k p => exact .st2 k p
  | st1 k p t0 t => exact .st1 k p t0 (by omega)
  | st3 k p t0 t v => exact .st3 k p t0 (by omega) (fun q => by omega)
  | st4 k p t0 t v bf e => exact .st4 k p t0 (by omega) (fun q => by omega) (hB _ bf).1 (fun q => by omega)
  | st12 k p t0 t v bf c e => exact .st12 k p t0 (by omega) (fun q => by omega) (hB _ bf).1 (by rw [(hB _ bf).2]; exact c) (fun q => by omega)
  | st13 k p t0 t v x => exact .st13 k p t0 (by omega) (fun q => by omega) (fun q => by omega)
  | lk2 k p => exact .lk2 k p
  | lk1 k p t0 t => exact .lk1 k p t0 (by omega)
/-- The cells are as they were. -/
theorem ThS.own {cs : List Int} {own own' th : DOp} (h : ThS cs own th) (hAv : Av cs own (gt cs 0) → Av cs own' (gt cs 0)) : ThS cs own' th :=
  h.keep rfl hAv (fun a hb => ⟨hb, rfl, fun _ e => e⟩) (fun _ => rfl)

/-- Cells behind the buffer in use have changed, no other. -/
def Far (cs cs' : List Int) : Prop := ∀ x, 0 ≤ x → x ≤ cA cs + cC cs → gt cs' x = gt cs x
theorem Far.a {cs cs' : List Int} (f : Far cs cs') (h3 : 3 ≤ cA cs) (h1 : 1 ≤ cC cs) : cA cs' = cA cs := f 2 (by omega) (by omega)
theorem Far.c {cs cs' : List Int} (f : Far cs cs') (h3 : 3 ≤ cA cs) (h1 : 1 ≤ cC cs) : cC cs' = cC cs := by
  show gt cs' (cA cs') = _
  rw [f.a h3 h1]
  exact f _ (by omega) (by omega)
theorem Far.e {cs cs' : List Int} (f : Far cs cs') (h3 : 3 ≤ cA cs) (h1 : 1 ≤ cC cs) (i : Int) : cE cs' i = cE cs i := by
  show gt cs' (pl (cA cs') (cC cs') i) = _
  have := pl_range (a := cA cs) (i := i) h1
  rw [f.a h3 h1, f.c h3 h1]
  exact f _ (by omega) (by omega)
theorem Buf.room {cs : List Int} {a : Int} (b : Buf cs a) (h3 : 3 ≤ cA cs) (h1 : 1 ≤ cC cs) : a + gt cs a ≤ cA cs + cC cs := by
  obtain ⟨b1, b2, b3, b4⟩ := b
  rcases b4 with e | e
  · rw [e]; exact Int.le_refl _
  · omega
theorem ThS.far {cs cs' : List Int} {own own' th : DOp} (h : ThS cs own th) (f : Far cs cs') (h3 : 3 ≤ cA cs) (h1 : 1 ≤ cC cs) (hAv : Av cs own (gt cs 0) → Av cs own' (gt cs 0)) : ThS cs' own' th := by
  have e0 : gt cs' 0 = gt cs 0 := f 0 (by omega) (by omega)
  have e1 : gt cs' 1 = gt cs 1 := f 1 (by omega) (by omega)
  refine h.keep e0 (fun q => ?_) (fun a hb => ?_) (fun _ => f.e h3 h1 _)
  · have := hAv q
    unfold Av at this ⊢
    rw [e1]; exact this
  · have hr := hb.room h3 h1
    obtain ⟨b1, b2, b3, b4⟩ := hb
    have ea : gt cs' a = gt cs a := f a (by omega) (by omega)
    refine ⟨⟨b1, by omega, by omega, ?_⟩, ea, fun _ q => ?_⟩
    · rw [f.a h3 h1, ea]; exact b4
    · have := pl_range (a := a) (i := gt cs 0) b2
      rw [f _ (by omega) (by omega), f.e h3 h1, q]

/-! ### what it holds -/
def ctn (cs : List Int) : List Int := (List.range (gt cs 1 - gt cs 0).toNat).map fun (k : Nat) => cE cs (gt cs 0 + (k : Int))
/-- What a pop has in its hand. -/
def hand (cs : List Int) (own : DOp) : List Int :=
  if own.kind = 2 ∧ (own.pc = 2 ∨ own.pc = 4 ∨ own.pc = 12 ∨ own.pc = 13) then (if gt cs 0 ≤ own.b then [cE cs own.b] else [])
  else if own.kind = 2 ∧ own.pc = 11 ∧ own.i ≠ 0 ∧ own.won = true then [own.x] else []
theorem ctn_same {cs cs' : List Int} (h0 : gt cs' 0 = gt cs 0) (h1 : gt cs' 1 = gt cs 1) (he : ∀ i, gt cs 0 ≤ i → i < gt cs 1 → cE cs' i = cE cs i) : ctn cs' = ctn cs := by
  unfold ctn
  rw [h0, h1]
  refine List.map_congr_left fun k hk => ?_
  have := List.mem_range.1 hk
  exact he _ (by omega) (by omega)
theorem ctn_push {cs cs' : List Int} (h0 : gt cs' 0 = gt cs 0) (h1 : gt cs' 1 = gt cs 1 + 1) (hl : gt cs 0 ≤ gt cs 1) (he : ∀ i, gt cs 0 ≤ i → i < gt cs 1 → cE cs' i = cE cs i) : ctn cs' = ctn cs ++ [cE cs' (gt cs 1)] := by
  unfold ctn
  rw [h0, h1]
  have e : (gt cs 1 + 1 - gt cs 0).toNat = (gt cs 1 - gt cs 0).toNat + 1 := by omega
  rw [e, List.range_succ, List.map_append, List.map_cons, List.map_nil]
  congr 1
  · refine List.map_congr_left fun k hk => ?_
    have := List.mem_range.1 hk
    exact he _ (by omega) (by omega)
  · rw [show gt cs 0 + (((gt cs 1 - gt cs 0).toNat : Nat) : Int) = gt cs 1 from by omega]
theorem ctn_low {cs cs' : List Int} (h0 : gt cs' 0 = gt cs 0) (h1 : gt cs' 1 = gt cs 1 - 1) (hl : gt cs 0 < gt cs 1) (he : ∀ i, gt cs 0 ≤ i → i < gt cs 1 → cE cs' i = cE cs i) : ctn cs = ctn cs' ++ [cE cs (gt cs 1 - 1)] := by
  unfold ctn
  rw [h0, h1]
  have e : (gt cs 1 - gt cs 0).toNat = (gt cs 1 - 1 - gt cs 0).toNat + 1 := by omega
  rw [e, List.range_succ, List.map_append, List.map_cons, List.map_nil]
  congr 1
  · refine List.map_congr_left fun k hk => ?_
    have := List.mem_range.1 hk
    exact (he _ (by omega) (by omega)).symm
  · rw [show gt cs 0 + (((gt cs 1 - 1 - gt cs 0).toNat : Nat) : Int) = gt cs 1 - 1 from by omega]
theorem ctn_take {cs cs' : List Int} (h0 : gt cs' 0 = gt cs 0 + 1) (h1 : gt cs' 1 = gt cs 1) (hl : gt cs 0 < gt cs 1) (he : ∀ i, gt cs 0 ≤ i → i < gt cs 1 → cE cs' i = cE cs i) : ctn cs = cE cs (gt cs 0) :: ctn cs' := by
  unfold ctn
  rw [h0, h1]
  have e : (gt cs 1 - gt cs 0).toNat = (gt cs 1 - (gt cs 0 + 1)).toNat + 1 := by omega
  rw [e, List.range_succ_eq_map, List.map_cons, List.map_map]
  congr 1
  · rw [show gt cs 0 + ((0 : Nat) : Int) = gt cs 0 from by omega]
  · refine List.map_congr_left fun k hk => ?_
    have := List.mem_range.1 hk
    show cE cs (gt cs 0 + ((k + 1 : Nat) : Int)) = cE cs' (gt cs 0 + 1 + (k : Int))
    rw [he _ (by omega) (by omega)]
    congr 1
    omega
theorem ctn_nil {cs : List Int} (h : gt cs 1 ≤ gt cs 0) : ctn cs = [] := by
  unfold ctn
  rw [show (gt cs 1 - gt cs 0).toNat = 0 from by omega]; rfl

end Go.Mx
