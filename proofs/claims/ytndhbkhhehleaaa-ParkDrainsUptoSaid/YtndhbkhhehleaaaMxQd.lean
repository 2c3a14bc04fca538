/-
  The deque alone: what holds of its cells and its machines, whoever steps.
  The deque alone: a step of the owner's machine.
  The deque alone: a step of a pop.
  The deque alone: a step of a thief's machine.
-/
import Derived.Test.YtndhbkhhehleaaaMxQc
import Derived.Test.YtndhbkhhehleaaaMxDn
set_option linter.unusedVariables false
set_option linter.unusedSimpArgs false
set_option linter.unusedSectionVars false
namespace Go.Mx

def gt (cs : List Int) (x : Int) : Int := cs[x.toNat]?.getD 0
theorem gt_set {cs : List Int} {x v y : Int} (hx : 0 ≤ x) (hl : x < (cs.length : Int)) (hy : 0 ≤ y) : gt (cs.set x.toNat v) y = if y = x then v else gt cs y := by
  unfold gt
  by_cases e : y = x
  · subst e
    rw [if_pos rfl, List.getElem?_set_self (by omega)]; rfl
  · rw [if_neg e, List.getElem?_set_ne (by omega)]
theorem gt_set_ne {cs : List Int} {x v y : Int} (hx : 0 ≤ x) (hy : 0 ≤ y) (e : y ≠ x) : gt (cs.set x.toNat v) y = gt cs y := by
  unfold gt
  rw [List.getElem?_set_ne (by omega)]
theorem gt_app (cs : List Int) (n : Nat) (y : Int) : gt (cs ++ List.replicate n 0) y = gt cs y := by
  unfold gt
  by_cases h : y.toNat < cs.length
  · rw [List.getElem?_append_left h]
  · rw [List.getElem?_append_right (by omega), List.getElem?_eq_none (l := cs) (by omega)]
    cases e : (List.replicate n (0 : Int))[y.toNat - cs.length]? with
    | none => rfl
    | some v =>
      have := List.mem_of_getElem? e
      rw [List.mem_replicate] at this
      rw [this.2]; rfl
def pl (a c i : Int) : Int := a + 1 + i % c
theorem pl_range {a c i : Int} (hc : 1 ≤ c) : a + 1 ≤ pl a c i ∧ pl a c i ≤ a + c := by
  have h1 := Int.emod_nonneg i (b := c) (by omega)
  have h2 := Int.emod_lt_of_pos i (b := c) (by omega)
  unfold pl
  omega
theorem mod_ne {c i j : Int} (h1 : i < j) (h2 : j - i < c) : i % c ≠ j % c := by
  intro e
  have a := Int.emod_def i c
  have b := Int.emod_def j c
  have h : j - i = c * (j / c - i / c) := by rw [Int.mul_sub]; omega
  generalize j / c - i / c = q at h
  rcases Int.lt_or_le 0 q with p | p
  · have : c * 1 ≤ c * q := Int.mul_le_mul_of_nonneg_left (by omega) (by omega)
    omega
  · have : c * q ≤ c * 0 := Int.mul_le_mul_of_nonneg_left p (by omega)
    omega
theorem pl_ne {a c i j : Int} (h1 : i < j) (h2 : j - i < c) : pl a c i ≠ pl a c j := by
  have := mod_ne h1 h2
  unfold pl
  omega
theorem placeD_pl {a c i : Int} (ha : 0 ≤ a) (ha2 : a ≤ 1000000000) (hc : 1 ≤ c) (hc2 : c ≤ 1000000000) (hi : 0 ≤ i) : placeD a c i = pl a c i := by
  have h1 := Int.emod_nonneg i (b := c) (by omega)
  have h2 := Int.emod_lt_of_pos i (b := c) (by omega)
  have e : Int.tmod i c = i % c := Int.tmod_eq_emod_of_nonneg hi
  unfold placeD pl
  rw [e, if_neg (by omega)]
  have w : w64 (a + 1) = a + 1 := by rw [w64_of] <;> omega
  rw [w, w64_of] <;> omega

def lowered (own : DOp) : Prop := own.kind = 2 ∧ (own.pc = 2 ∨ ((own.pc = 4 ∨ own.pc = 12 ∨ own.pc = 13) ∧ own.t = own.b) ∨ (own.pc = 11 ∧ own.i ≠ 0))
instance (own : DOp) : Decidable (lowered own) := by unfold lowered; infer_instance
def Bl (cs : List Int) (own : DOp) : Int := if lowered own then own.b + 1 else gt cs 1
def newer (own : DOp) : Int := if own.kind = 1 ∧ 6 ≤ own.pc ∧ own.pc ≤ 9 then 1 + own.c2 else 0
abbrev cA (cs : List Int) : Int := gt cs 2
abbrev cC (cs : List Int) : Int := gt cs (gt cs 2)
abbrev cE (cs : List Int) (i : Int) : Int := gt cs (pl (cA cs) (cC cs) i)
structure DG (most sz N : Int) (cs : List Int) (own : DOp) : Prop where
  mx : most ≤ 4096
  t0 : 0 ≤ gt cs 0
  tb : gt cs 0 ≤ Bl cs own
  fit : Bl cs own - gt cs 0 ≤ cC cs
  bn : Bl cs own ≤ N
  nn : N ≤ 1000000000
  a3 : 3 ≤ cA cs
  c1 : 1 ≤ cC cs
  cm : cC cs ≤ most
  len : (cs.length : Int) = cA cs + cC cs + 1 + newer own
  szb : sz ≤ 1048576
  le : (cs.length : Int) ≤ sz
  room : ∃ k : Nat, most - cC cs ≤ (k : Int) ∧ cellsGo most k (cA cs + cC cs + 1) (cC cs) = sz

inductive OwnS (most : Int) (cs : List Int) (o : DOp) : Prop
  | idle (p : o.pc = 0)
  | pu1 (k : o.kind = 1) (p : o.pc = 1)
  | pu2 (k : o.kind = 1) (p : o.pc = 2) (b : o.b = gt cs 1)
  | pu3 (k : o.kind = 1) (p : o.pc = 3) (b : o.b = gt cs 1) (t0 : 0 ≤ o.t) (t : o.t ≤ gt cs 0) (f : o.b - o.t ≤ cC cs)
  | pu4 (k : o.kind = 1) (p : o.pc = 4) (b : o.b = gt cs 1) (t0 : 0 ≤ o.t) (t : o.t ≤ gt cs 0) (f : o.b - o.t ≤ cC cs) (a : o.a = cA cs)
  | pu5 (k : o.kind = 1) (p : o.pc = 5) (b : o.b = gt cs 1) (t0 : 0 ≤ o.t) (t : o.t ≤ gt cs 0) (f : o.b - o.t = cC cs) (a : o.a = cA cs) (c : o.c = cC cs) (lt : cC cs < most) (c2 : o.c2 = if most < 2 * cC cs then most else 2 * cC cs)
  | pu6 (k : o.kind = 1) (p : o.pc = 6) (b : o.b = gt cs 1) (t0 : 0 ≤ o.t) (t : o.t ≤ gt cs 0) (f : o.b - o.t = cC cs) (a : o.a = cA cs) (c : o.c = cC cs) (lt : cC cs < most) (c2 : o.c2 = if most < 2 * cC cs then most else 2 * cC cs) (a2 : o.a2 = cA cs + cC cs + 1)
  | pu7 (k : o.kind = 1) (p : o.pc = 7) (b : o.b = gt cs 1) (t0 : 0 ≤ o.t) (t : o.t ≤ gt cs 0) (f : o.b - o.t = cC cs) (a : o.a = cA cs) (c : o.c = cC cs) (lt : cC cs < most) (c2 : o.c2 = if most < 2 * cC cs then most else 2 * cC cs) (a2 : o.a2 = cA cs + cC cs + 1)
      (hd : gt cs o.a2 = o.c2) (i1 : o.t ≤ o.i) (i2 : o.i < o.b) (cp : ∀ j, o.t ≤ j → j < o.i → gt cs (pl o.a2 o.c2 j) = cE cs j)
  | pu8 (k : o.kind = 1) (p : o.pc = 8) (b : o.b = gt cs 1) (t0 : 0 ≤ o.t) (t : o.t ≤ gt cs 0) (f : o.b - o.t = cC cs) (a : o.a = cA cs) (c : o.c = cC cs) (lt : cC cs < most) (c2 : o.c2 = if most < 2 * cC cs then most else 2 * cC cs) (a2 : o.a2 = cA cs + cC cs + 1)
      (hd : gt cs o.a2 = o.c2) (i1 : o.t ≤ o.i) (i2 : o.i < o.b) (cp : ∀ j, o.t ≤ j → j < o.i → gt cs (pl o.a2 o.c2 j) = cE cs j) (x : o.x = cE cs o.i)
  | pu9 (k : o.kind = 1) (p : o.pc = 9) (b : o.b = gt cs 1) (t0 : 0 ≤ o.t) (t : o.t ≤ gt cs 0) (f : o.b - o.t = cC cs) (a : o.a = cA cs) (c : o.c = cC cs) (lt : cC cs < most) (c2 : o.c2 = if most < 2 * cC cs then most else 2 * cC cs) (a2 : o.a2 = cA cs + cC cs + 1)
      (hd : gt cs o.a2 = o.c2) (cp : ∀ j, o.t ≤ j → j < o.b → gt cs (pl o.a2 o.c2 j) = cE cs j)
  | pu10 (k : o.kind = 1) (p : o.pc = 10) (b : o.b = gt cs 1) (t0 : 0 ≤ o.t) (t : o.t ≤ gt cs 0) (f : o.b - o.t < cC cs) (a : o.a = cA cs) (c : o.c = cC cs)
  | pu11 (k : o.kind = 1) (p : o.pc = 11) (b : o.b = gt cs 1) (t0 : 0 ≤ o.t) (t : o.t ≤ gt cs 0) (f : o.b - o.t < cC cs) (a : o.a = cA cs) (c : o.c = cC cs) (e : cE cs o.b = o.v)
  | po1 (k : o.kind = 2) (p : o.pc = 1) (i : o.i = 0) (w : o.won = false)
  | po3 (k : o.kind = 2) (p : o.pc = 3) (i : o.i = 0) (w : o.won = false) (b : o.b = gt cs 1 - 1)
  | po11 (k : o.kind = 2) (p : o.pc = 11) (i : o.i = 0) (w : o.won = false) (b : o.b = gt cs 1 - 1) (a : o.a = cA cs)
  | po2 (k : o.kind = 2) (p : o.pc = 2) (i : o.i = 0) (w : o.won = false) (b : o.b = gt cs 1) (a : o.a = cA cs)
  | po4 (k : o.kind = 2) (p : o.pc = 4) (i : o.i = 1) (w : o.won = false) (b : o.b = gt cs 1) (a : o.a = cA cs) (t0 : 0 ≤ o.t) (t : o.t ≤ gt cs 0) (tb : o.t ≤ o.b)
  | po12 (k : o.kind = 2) (p : o.pc = 12) (i : o.i = 1) (w : o.won = false) (b : o.b = gt cs 1) (a : o.a = cA cs) (t0 : 0 ≤ o.t) (t : o.t ≤ gt cs 0) (tb : o.t ≤ o.b) (c : o.c = cC cs)
  | po13 (k : o.kind = 2) (p : o.pc = 13) (i : o.i = 1) (w : o.won = false) (b : o.b = gt cs 1) (t0 : 0 ≤ o.t) (t : o.t ≤ gt cs 0) (tb : o.t = o.b) (x : o.x = cE cs o.b)
  | pe (k : o.kind = 2) (p : o.pc = 11) (i : o.i = 1) (w : o.won = false) (b : o.b = gt cs 1) (t : o.t = o.b + 1) (tt : gt cs 0 = o.b + 1)
  | pf (k : o.kind = 2) (p : o.pc = 11) (i : o.i = 1) (b : o.b = gt cs 1) (t : o.t = o.b) (tt : gt cs 0 = o.b + 1)

def Av (cs : List Int) (own : DOp) (t : Int) : Prop := t < gt cs 1 ∨ (gt cs 1 = t ∧ lowered own ∧ own.b = t ∧ own.pc ≠ 11)
def Buf (cs : List Int) (a : Int) : Prop := 3 ≤ a ∧ 1 ≤ gt cs a ∧ gt cs a ≤ 4096 ∧ (a = cA cs ∨ a + gt cs a + 1 ≤ cA cs)
inductive ThS (cs : List Int) (own th : DOp) : Prop
  | idle (p : th.pc = 0)
  | st2 (k : th.kind = 3) (p : th.pc = 2)
  | st1 (k : th.kind = 3) (p : th.pc = 1) (t0 : 0 ≤ th.t) (t : th.t ≤ gt cs 0)
  | st3 (k : th.kind = 3) (p : th.pc = 3) (t0 : 0 ≤ th.t) (t : th.t ≤ gt cs 0) (av : th.t = gt cs 0 → Av cs own th.t)
  | st4 (k : th.kind = 3) (p : th.pc = 4) (t0 : 0 ≤ th.t) (t : th.t ≤ gt cs 0) (av : th.t = gt cs 0 → Av cs own th.t) (bf : Buf cs th.a) (e : th.t = gt cs 0 → gt cs (pl th.a (gt cs th.a) th.t) = cE cs th.t)
  | st12 (k : th.kind = 3) (p : th.pc = 12) (t0 : 0 ≤ th.t) (t : th.t ≤ gt cs 0) (av : th.t = gt cs 0 → Av cs own th.t) (bf : Buf cs th.a) (c : th.c = gt cs th.a) (e : th.t = gt cs 0 → gt cs (pl th.a (gt cs th.a) th.t) = cE cs th.t)
  | st13 (k : th.kind = 3) (p : th.pc = 13) (t0 : 0 ≤ th.t) (t : th.t ≤ gt cs 0) (av : th.t = gt cs 0 → Av cs own th.t) (x : th.t = gt cs 0 → th.x = cE cs th.t)
  | lk2 (k : th.kind = 4) (p : th.pc = 2)
  | lk1 (k : th.kind = 4) (p : th.pc = 1) (t0 : 0 ≤ th.t) (t : th.t ≤ gt cs 0)
def Mach (most : Int) (o : DOp) : Prop := o.pc ≠ 0 → o.base = 0 ∧ o.most = most

theorem DG.dep {most sz N cs own} (g : DG most sz N cs own) (hn : 0 ≤ newer own) {x : Int} (h0 : 0 ≤ x) (h : x ≤ cA cs + cC cs) : 0 ≤ x ∧ x < (cs.length : Int) := by
  have := g.len
  omega
theorem ThS.keep {cs cs' : List Int} {own own' th : DOp} (h : ThS cs own th) (hT : gt cs' 0 = gt cs 0) (hAv : Av cs own (gt cs 0) → Av cs' own' (gt cs 0))
    (hB : ∀ a, Buf cs a → Buf cs' a ∧ gt cs' a = gt cs a ∧ (Av cs own (gt cs 0) → gt cs (pl a (gt cs a) (gt cs 0)) = cE cs (gt cs 0) → gt cs' (pl a (gt cs a) (gt cs 0)) = cE cs' (gt cs 0))) (hE : Av cs own (gt cs 0) → cE cs' (gt cs 0) = cE cs (gt cs 0)) : ThS cs' own' th := by
  have av : ∀ {t : Int}, (t = gt cs 0 → Av cs own t) → t = gt cs' 0 → Av cs' own' t := fun {t} h e => by
    rw [hT] at e
    have := h e
    rw [e] at this ⊢
    exact hAv this
  cases h with
  | idle p => exact .idle p
  | st2 k p => exact .st2 k p
  | st1 k p t0 t => exact .st1 k p t0 (by rw [hT]; exact t)
  | st3 k p t0 t v => exact .st3 k p t0 (by rw [hT]; exact t) (av v)
  | st4 k p t0 t v bf e =>
    obtain ⟨h1, h2, h3⟩ := hB _ bf
    refine .st4 k p t0 (by rw [hT]; exact t) (av v) h1 fun q => ?_
    rw [hT] at q
    have v := v q
    have e := e q
    rw [q] at v e ⊢
    rw [h2]
    exact h3 v e
  | st12 k p t0 t v bf c e =>
    obtain ⟨h1, h2, h3⟩ := hB _ bf
    refine .st12 k p t0 (by rw [hT]; exact t) (av v) h1 (by rw [h2]; exact c) fun q => ?_
    rw [hT] at q
    have v := v q
    have e := e q
    rw [q] at v e ⊢
    rw [h2]
    exact h3 v e
  | st13 k p t0 t v x =>
    refine .st13 k p t0 (by rw [hT]; exact t) (av v) fun q => ?_
    rw [hT] at q
    have v := v q
    have x := x q
    rw [q] at v x ⊢
    rw [hE v]
    exact x
  | lk2 k p => exact .lk2 k p
  | lk1 k p t0 t => exact .lk1 k p t0 (by rw [hT]; exact t)
theorem ThS.bump {cs cs' : List Int} {own own' th : DOp} (h : ThS cs own th) (hT : gt cs' 0 = gt cs 0 + 1) (hB : ∀ a, Buf cs a → Buf cs' a ∧ gt cs' a = gt cs a) : ThS cs' own' th := by
  cases h with
  | idle p => exact .idle p
  | st2 k p => exact .st2 k p
  | st1 k p t0 t => exact .st1 k p t0 (by omega)
  | st3 k p t0 t v => exact .st3 k p t0 (by omega) (fun q => by omega)
  | st4 k p t0 t v bf e => exact .st4 k p t0 (by omega) (fun q => by omega) (hB _ bf).1 (fun q => by omega)
  | st12 k p t0 t v bf c e => exact .st12 k p t0 (by omega) (fun q => by omega) (hB _ bf).1 (by rw [(hB _ bf).2]; exact c) (fun q => by omega)
  | st13 k p t0 t v x => exact .st13 k p t0 (by omega) (fun q => by omega) (fun q => by omega)
  | lk2 k p => exact .lk2 k p
  | lk1 k p t0 t => exact .lk1 k p t0 (by omega)
theorem ThS.own {cs : List Int} {own own' th : DOp} (h : ThS cs own th) (hAv : Av cs own (gt cs 0) → Av cs own' (gt cs 0)) : ThS cs own' th :=
  h.keep rfl hAv (fun a hb => ⟨hb, rfl, fun _ e => e⟩) (fun _ => rfl)

def Far (cs cs' : List Int) : Prop := ∀ x, 0 ≤ x → x ≤ cA cs + cC cs → gt cs' x = gt cs x
theorem Far.a {cs cs' : List Int} (f : Far cs cs') (h3 : 3 ≤ cA cs) (h1 : 1 ≤ cC cs) : cA cs' = cA cs := f 2 (by omega) (by omega)
theorem Far.c {cs cs' : List Int} (f : Far cs cs') (h3 : 3 ≤ cA cs) (h1 : 1 ≤ cC cs) : cC cs' = cC cs := by
  show gt cs' (cA cs') = _
  rw [f.a h3 h1]
  exact f _ (by omega) (by omega)
theorem Far.e {cs cs' : List Int} (f : Far cs cs') (h3 : 3 ≤ cA cs) (h1 : 1 ≤ cC cs) (i : Int) : cE cs' i = cE cs i := by
  show gt cs' (pl (cA cs') (cC cs') i) = _
  have := pl_range (a := cA cs) (i := i) h1
  rw [f.a h3 h1, f.c h3 h1]
  exact f _ (by omega) (by omega)
theorem Buf.room {cs : List Int} {a : Int} (b : Buf cs a) (h3 : 3 ≤ cA cs) (h1 : 1 ≤ cC cs) : a + gt cs a ≤ cA cs + cC cs := by
  obtain ⟨b1, b2, b3, b4⟩ := b
  rcases b4 with e | e
  · rw [e]; exact Int.le_refl _
  · omega
theorem ThS.far {cs cs' : List Int} {own own' th : DOp} (h : ThS cs own th) (f : Far cs cs') (h3 : 3 ≤ cA cs) (h1 : 1 ≤ cC cs) (hAv : Av cs own (gt cs 0) → Av cs own' (gt cs 0)) : ThS cs' own' th := by
  have e0 : gt cs' 0 = gt cs 0 := f 0 (by omega) (by omega)
  have e1 : gt cs' 1 = gt cs 1 := f 1 (by omega) (by omega)
  refine h.keep e0 (fun q => ?_) (fun a hb => ?_) (fun _ => f.e h3 h1 _)
  · have := hAv q
    unfold Av at this ⊢
    rw [e1]; exact this
  · have hr := hb.room h3 h1
    obtain ⟨b1, b2, b3, b4⟩ := hb
    have ea : gt cs' a = gt cs a := f a (by omega) (by omega)
    refine ⟨⟨b1, by omega, by omega, ?_⟩, ea, fun _ q => ?_⟩
    · rw [f.a h3 h1, ea]; exact b4
    · have := pl_range (a := a) (i := gt cs 0) b2
      rw [f _ (by omega) (by omega), f.e h3 h1, q]

def ctn (cs : List Int) : List Int := (List.range (gt cs 1 - gt cs 0).toNat).map fun (k : Nat) => cE cs (gt cs 0 + (k : Int))
def hand (cs : List Int) (own : DOp) : List Int :=
  if own.kind = 2 ∧ (own.pc = 2 ∨ own.pc = 4 ∨ own.pc = 12 ∨ own.pc = 13) then (if gt cs 0 ≤ own.b then [cE cs own.b] else [])
  else if own.kind = 2 ∧ own.pc = 11 ∧ own.i ≠ 0 ∧ own.won = true then [own.x] else []
theorem ctn_same {cs cs' : List Int} (h0 : gt cs' 0 = gt cs 0) (h1 : gt cs' 1 = gt cs 1) (he : ∀ i, gt cs 0 ≤ i → i < gt cs 1 → cE cs' i = cE cs i) : ctn cs' = ctn cs := by
  unfold ctn
  rw [h0, h1]
  refine List.map_congr_left fun k hk => ?_
  have := List.mem_range.1 hk
  exact he _ (by omega) (by omega)
theorem ctn_push {cs cs' : List Int} (h0 : gt cs' 0 = gt cs 0) (h1 : gt cs' 1 = gt cs 1 + 1) (hl : gt cs 0 ≤ gt cs 1) (he : ∀ i, gt cs 0 ≤ i → i < gt cs 1 → cE cs' i = cE cs i) : ctn cs' = ctn cs ++ [cE cs' (gt cs 1)] := by
  unfold ctn
  rw [h0, h1]
  have e : (gt cs 1 + 1 - gt cs 0).toNat = (gt cs 1 - gt cs 0).toNat + 1 := by omega
  rw [e, List.range_succ, List.map_append, List.map_cons, List.map_nil]
  congr 1
  · refine List.map_congr_left fun k hk => ?_
    have := List.mem_range.1 hk
    exact he _ (by omega) (by omega)
  · rw [show gt cs 0 + (((gt cs 1 - gt cs 0).toNat : Nat) : Int) = gt cs 1 from by omega]
theorem ctn_low {cs cs' : List Int} (h0 : gt cs' 0 = gt cs 0) (h1 : gt cs' 1 = gt cs 1 - 1) (hl : gt cs 0 < gt cs 1) (he : ∀ i, gt cs 0 ≤ i → i < gt cs 1 → cE cs' i = cE cs i) : ctn cs = ctn cs' ++ [cE cs (gt cs 1 - 1)] := by
  unfold ctn
  rw [h0, h1]
  have e : (gt cs 1 - gt cs 0).toNat = (gt cs 1 - 1 - gt cs 0).toNat + 1 := by omega
  rw [e, List.range_succ, List.map_append, List.map_cons, List.map_nil]
  congr 1
  · refine List.map_congr_left fun k hk => ?_
    have := List.mem_range.1 hk
    exact (he _ (by omega) (by omega)).symm
  · rw [show gt cs 0 + (((gt cs 1 - 1 - gt cs 0).toNat : Nat) : Int) = gt cs 1 - 1 from by omega]
theorem ctn_take {cs cs' : List Int} (h0 : gt cs' 0 = gt cs 0 + 1) (h1 : gt cs' 1 = gt cs 1) (hl : gt cs 0 < gt cs 1) (he : ∀ i, gt cs 0 ≤ i → i < gt cs 1 → cE cs' i = cE cs i) : ctn cs = cE cs (gt cs 0) :: ctn cs' := by
  unfold ctn
  rw [h0, h1]
  have e : (gt cs 1 - gt cs 0).toNat = (gt cs 1 - (gt cs 0 + 1)).toNat + 1 := by omega
  rw [e, List.range_succ_eq_map, List.map_cons, List.map_map]
  congr 1
  · rw [show gt cs 0 + ((0 : Nat) : Int) = gt cs 0 from by omega]
  · refine List.map_congr_left fun k hk => ?_
    have := List.mem_range.1 hk
    show cE cs (gt cs 0 + ((k + 1 : Nat) : Int)) = cE cs' (gt cs 0 + 1 + (k : Int))
    rw [he _ (by omega) (by omega)]
    congr 1
    omega
theorem ctn_nil {cs : List Int} (h : gt cs 1 ≤ gt cs 0) : ctn cs = [] := by
  unfold ctn
  rw [show (gt cs 1 - gt cs 0).toNat = 0 from by omega]; rfl

end Go.Mx

namespace Go.Mx

def acc (s : AS) (k a x y : Int) (ok : Bool) : Acc := (s.who, (k, (a, (x, (y, (ok, ()))))))
theorem ld_ok {s : AS} {a : Int} (h : 0 ≤ a ∧ a < (s.cs.length : Int)) : arenaI s (.ld a) = (some (gt s.cs a), s.log (acc s 0 a (gt s.cs a) 0 true)) := if_pos h
theorem st_ok {s : AS} {a v : Int} (h : 0 ≤ a ∧ a < (s.cs.length : Int)) : arenaI s (.st a v) = (some 0, AS.log { s with cs := s.cs.set a.toNat v } (acc s 1 a v 0 true)) := if_pos h
theorem cas_ok {s : AS} {a x y : Int} (h : 0 ≤ a ∧ a < (s.cs.length : Int)) (e : gt s.cs a = x) : arenaI s (.cas a x y) = (some 1, AS.log { s with cs := s.cs.set a.toNat y } (acc s 2 a x y true)) := by
  have : arenaI s (.cas a x y) = (some (if s.at' a = x then 1 else 0), AS.log { s with cs := if s.at' a = x then s.cs.set a.toNat y else s.cs } (s.who, (2, (a, (x, (y, (decide (s.at' a = x), ()))))))) := if_pos h
  rw [this, show s.at' a = x from e, if_pos rfl, if_pos rfl]
  simp [acc]
theorem cas_no {s : AS} {a x y : Int} (h : 0 ≤ a ∧ a < (s.cs.length : Int)) (e : gt s.cs a ≠ x) : arenaI s (.cas a x y) = (some 0, AS.log s (acc s 2 a x y false)) := by
  have : arenaI s (.cas a x y) = (some (if s.at' a = x then 1 else 0), AS.log { s with cs := if s.at' a = x then s.cs.set a.toNat y else s.cs } (s.who, (2, (a, (x, (y, (decide (s.at' a = x), ()))))))) := if_pos h
  have e : ¬ s.at' a = x := e
  rw [this, if_neg e, if_neg e, decide_eq_false e]
  rfl
theorem rs_ok {s : AS} {n : Int} (h1 : 1 ≤ n) (h2 : n ≤ s.sz - (s.cs.length : Int)) : arenaI s (.rs n) = (some (s.cs.length : Int), AS.log { s with cs := s.cs ++ List.replicate n.toNat 0 } (acc s 4 (s.cs.length : Int) n 0 true)) := by
  show (if n < 1 then _ else if s.sz - (s.cs.length : Int) < n then _ else _) = _
  rw [if_neg (by omega), if_neg (by omega)]; rfl
theorem not_zero {o : DOp} (p : o.pc ≠ 0) : o ≠ DOp.zero := fun e => p (by rw [e]; rfl)
theorem step_some {s s' : AS} {o : DOp} {g : Int} (p : o.pc ≠ 0) (h : arenaI s o.req = (some g, s')) : stepD arenaI s o = (s', o.after g) := by
  unfold stepD
  rw [if_neg (not_zero p), if_neg p, h]

section
variable {o : DOp} (b : o.base = 0)
include b
theorem req1 (p : o.pc = 1) : o.req = .ld 1 := by unfold DOp.req; rw [if_pos p, b]; rfl
theorem req2 (p : o.pc = 2) : o.req = .ld 0 := by unfold DOp.req; rw [p, b]; rfl
theorem req3 (p : o.pc = 3) : o.req = .ld 2 := by unfold DOp.req; rw [p, b]; rfl
theorem req4 (p : o.pc = 4) : o.req = .ld o.a := by unfold DOp.req; rw [p]; rfl
theorem req5 (p : o.pc = 5) : o.req = .rs (w64 (1 + o.c2)) := by unfold DOp.req; rw [p]; rfl
theorem req6 (p : o.pc = 6) : o.req = .st o.a2 o.c2 := by unfold DOp.req; rw [p]; rfl
theorem req7 (p : o.pc = 7) : o.req = .ld (placeD o.a o.c o.i) := by unfold DOp.req; rw [p]; rfl
theorem req8 (p : o.pc = 8) : o.req = .st (placeD o.a2 o.c2 o.i) o.x := by unfold DOp.req; rw [p]; rfl
theorem req9 (p : o.pc = 9) : o.req = .st 2 o.a2 := by unfold DOp.req; rw [p, b]; rfl
theorem req10 (p : o.pc = 10) : o.req = .st (placeD o.a o.c o.b) o.v := by unfold DOp.req; rw [p]; rfl
theorem req11 (p : o.pc = 11) : o.req = .st 1 o.next := by unfold DOp.req; rw [p, b]; rfl
theorem req12 (p : o.pc = 12) : o.req = .ld (placeD o.a o.c (if o.kind = 2 then o.b else o.t)) := by unfold DOp.req; rw [p]; rfl
theorem req13 (p : o.pc = 13) : o.req = .cas 0 o.t (w64 (o.t + 1)) := by unfold DOp.req; rw [p, b]; rfl
end

theorem DG.own {most sz N : Int} {cs : List Int} {own own' : DOp} (g : DG most sz N cs own) (hb : Bl cs own' = Bl cs own) (hn : newer own' = newer own) (nn : N + 1 ≤ 1000000000) : DG most sz (N + 1) cs own' := by
  obtain ⟨g1, g2, g3, g4, g5, g6, g7, g8, g9, g10, g11, g12, g13⟩ := g
  exact ⟨g1, g2, by rw [hb]; exact g3, by rw [hb]; exact g4, by rw [hb]; omega, nn, g7, g8, g9, by rw [hn]; exact g10, g11, g12, g13⟩

inductive OEff (cs : List Int) (own : DOp) (cs' : List Int) (own' : DOp) : Prop
  | same (p : own'.pc ≠ 0) (c : ctn cs' = ctn cs) (h : hand cs' own' = hand cs own) (t : gt cs' 0 = gt cs 0)
  | push (k : own.kind = 1) (p : own'.pc = 0) (co : own'.code = 2) (va : own'.value = 0) (c : ctn cs' = ctn cs ++ [own.v]) (h : hand cs own = []) (h' : hand cs' own' = []) (t : gt cs' 0 = gt cs 0) (fb : own.b - own.t < own.most) (p11 : own.pc = 11)
  | full (k : own.kind = 1) (p : own'.pc = 0) (co : own'.code = 3) (va : own'.value = 0) (c : ctn cs' = ctn cs) (h : hand cs own = []) (h' : hand cs' own' = []) (t : gt cs' 0 = gt cs 0) (fb : own.b - own.t = own.most) (fc : cC cs = own.most) (bb : own.b = gt cs 1) (t0 : 0 ≤ own.t) (p4 : own.pc = 4)
  | low (k : own.kind = 2) (p : own'.pc ≠ 0) (h : hand cs own = []) (c : ctn cs = ctn cs' ++ hand cs' own') (t : gt cs' 0 = gt cs 0)
  | got (k : own.kind = 2) (p : own'.pc = 0) (co : own'.code = 4) (c : ctn cs' = ctn cs) (h : hand cs own = [own'.value]) (h' : hand cs' own' = []) (t : gt cs' 0 = gt cs 0) (tb : own.t < own.b ∧ own.pc = 12 ∨ own.t = own.b ∧ own.pc = 11 ∧ own.i = 1 ∧ own.won = true)
  | empty (k : own.kind = 2) (p : own'.pc = 0) (co : own'.code = 5) (va : own'.value = 0) (c : ctn cs' = ctn cs) (h : hand cs own = []) (h' : hand cs' own' = []) (t : gt cs' 0 = gt cs 0) (tb : own.t = own.b + 1 ∨ own.t = own.b ∧ own.won = false) (p11 : own.pc = 11) (i1 : own.i = 1)
  | won (k : own.kind = 2) (p : own'.pc ≠ 0) (c : ctn cs' = ctn cs) (h : hand cs' own' = hand cs own) (t : gt cs' 0 = gt cs 0 + 1)
structure OwnR (most sz N : Int) (s : AS) (own : DOp) (s' : AS) (o' : DOp) : Prop where
  dg : DG most sz (N + 1) s'.cs o'
  os : OwnS most s'.cs o'
  th : ∀ th, ThS s.cs own th → ThS s'.cs o' th
  eff : OEff s.cs own s'.cs o'
  cc : cC s'.cs = if own.kind = 1 ∧ own.pc = 9 then own.c2 else cC s.cs
  bl : Bl s'.cs o' ≤ Bl s.cs own ∨ (own.kind = 1 ∧ own.pc = 11 ∧ Bl s'.cs o' ≤ Bl s.cs own + 1)

theorem Bl_up {cs : List Int} {o : DOp} (h : ¬ lowered o) : Bl cs o = gt cs 1 := if_neg h
theorem Bl_lo {cs : List Int} {o : DOp} (h : lowered o) : Bl cs o = o.b + 1 := if_pos h
theorem low1 {o : DOp} (k : o.kind = 1) : ¬ lowered o := fun h => by have := h.1; omega
theorem lowp {o : DOp} (h : o.pc = 0 ∨ o.pc = 1 ∨ o.pc = 3 ∨ (o.pc = 11 ∧ o.i = 0)) : ¬ lowered o := fun q => by
  obtain ⟨_, q | q | q⟩ := q <;> omega
theorem new0 {o : DOp} (h : o.kind ≠ 1 ∨ o.pc < 6 ∨ 9 < o.pc) : newer o = 0 := by
  unfold newer; exact if_neg (by omega)
theorem hand1 {cs : List Int} {o : DOp} (k : o.kind = 1) : hand cs o = [] := by
  unfold hand; rw [if_neg (by omega), if_neg (by omega)]
theorem handp {cs : List Int} {o : DOp} (h : o.pc = 0 ∨ o.pc = 1 ∨ o.pc = 3 ∨ (o.pc = 11 ∧ o.i = 0)) : hand cs o = [] := by
  unfold hand; rw [if_neg (by omega), if_neg (by omega)]
theorem hand2 {cs : List Int} {o : DOp} (k : o.kind = 2) (p : o.pc = 2 ∨ o.pc = 4 ∨ o.pc = 12 ∨ o.pc = 13) : hand cs o = if gt cs 0 ≤ o.b then [cE cs o.b] else [] := by
  unfold hand; rw [if_pos ⟨k, p⟩]
theorem hand11 {cs : List Int} {o : DOp} (k : o.kind = 2) (p : o.pc = 11) (i : o.i = 1) : hand cs o = if o.won = true then [o.x] else [] := by
  unfold hand
  rw [if_neg (by omega)]
  by_cases w : o.won = true
  · rw [if_pos w, if_pos ⟨k, p, by omega, w⟩]
  · rw [if_neg w, if_neg (fun q => w q.2.2.2)]

theorem own_read {most sz N : Int} {s s' : AS} {own o' : DOp} (g : DG most sz N s.cs own) (nn : N + 1 ≤ 1000000000) (hc : s'.cs = s.cs) (hb : Bl s.cs o' ≤ Bl s.cs own) (ht : gt s.cs 0 ≤ Bl s.cs o') (hv : Av s.cs own (gt s.cs 0) → Av s.cs o' (gt s.cs 0)) (hn : newer o' = newer own) (os : OwnS most s.cs o') (p : o'.pc ≠ 0) (hh : hand s.cs o' = hand s.cs own) (n9 : ¬ (own.kind = 1 ∧ own.pc = 9)) : OwnR most sz N s own s' o' := by
  refine ⟨?_, by rw [hc]; exact os, fun th h => ?_, ?_, by rw [hc, if_neg n9], by rw [hc]; exact .inl hb⟩ <;> rw [hc]
  · obtain ⟨g1, g2, g3, g4, g5, g6, g7, g8, g9, g10, g11, g12, g13⟩ := g
    exact ⟨g1, g2, ht, by omega, by omega, nn, g7, g8, g9, by rw [hn]; exact g10, g11, g12, g13⟩
  · exact h.own hv
  · exact .same p rfl hh rfl

theorem far_step {most sz N : Int} {s s' : AS} {own o' : DOp} (g : DG most sz N s.cs own) (nn : N + 1 ≤ 1000000000) (k : own.kind = 1) (k' : o'.kind = 1) (p : o'.pc ≠ 0) (ff : Far s.cs s'.cs) (hl : (s'.cs.length : Int) = (s.cs.length : Int) + (newer o' - newer own)) (hle : (s'.cs.length : Int) ≤ sz)
    (os : OwnS most s'.cs o') (n9 : own.pc ≠ 9) : OwnR most sz N s own s' o' := by
  obtain ⟨g1, g2, g3, g4, g5, g6, g7, g8, g9, g10, g11, g12, g13⟩ := g
  have hB : Bl s.cs own = gt s.cs 1 := Bl_up (low1 k)
  rw [hB] at g3 g4 g5
  have e0 : gt s'.cs 0 = gt s.cs 0 := ff 0 (by omega) (by omega)
  have e1 : gt s'.cs 1 = gt s.cs 1 := ff 1 (by omega) (by omega)
  have eA := ff.a g7 g8
  have eC := ff.c g7 g8
  have hB' : Bl s'.cs o' = gt s.cs 1 := by rw [Bl_up (low1 k')]; exact e1
  refine ⟨⟨g1, by rw [e0]; exact g2, by rw [hB', e0]; exact g3, by rw [hB', e0, eC]; exact g4, by rw [hB']; omega, nn, by rw [eA]; exact g7, by rw [eC]; exact g8, by rw [eC]; exact g9, by rw [eA, eC]; omega, g11, hle, by rw [eA, eC]; exact g13⟩, os, fun th h => h.far ff g7 g8 fun v => ?_,
    .same p (ctn_same e0 e1 fun i _ _ => ff.e g7 g8 i) (by rw [hand1 k, hand1 k']) e0, by rw [eC, if_neg (fun q => n9 q.2)], .inl (by rw [hB', hB]; exact Int.le_refl _)⟩
  rcases v with v | ⟨_, v, _⟩
  · exact .inl v
  · exact absurd v (low1 k)

theorem own_push {most sz N : Int} {s : AS} {own : DOp} (g : DG most sz N s.cs own) (nn : N + 1 ≤ 1000000000) (hs : s.sz = sz) (hm : Mach most own) (ho : OwnS most s.cs own) (k : own.kind = 1) (pp : own.pc ≠ 0) :
    ∃ v s', arenaI s own.req = (some v, s') ∧ OwnR most sz N s own s' (own.after v) := by
  obtain ⟨hb0, hmo⟩ := hm pp
  have g' := g
  obtain ⟨g1, g2, g3, g4, g5, g6, g7, g8, g9, g10, g11, g12, g13⟩ := g'
  have hB : Bl s.cs own = gt s.cs 1 := Bl_up (low1 k)
  rw [hB] at g3 g4 g5
  have rd : ∀ {s' : AS} {o' : DOp}, s'.cs = s.cs → o'.kind = 1 → newer o' = newer own → OwnS most s.cs o' → o'.pc ≠ 0 → own.pc ≠ 9 → OwnR most sz N s own s' o' := fun {s' o'} hc k' hn os p n9 =>
    own_read g nn hc (by rw [hB, Bl_up (low1 k')]; exact Int.le_refl _) (by rw [Bl_up (low1 k')]; exact g3) (fun v => v.elim .inl fun v => absurd v.2.1 (low1 k)) hn os p (by rw [hand1 k, hand1 k']) (fun q => n9 q.2)
  cases ho with
  | idle p => exact absurd p pp
  | po1 k' | po3 k' | po11 k' | po2 k' | po4 k' | po12 k' | po13 k' | pe k' | pf k' => omega
  | pu1 _ p =>
    have d := g.dep (x := 1) (by rw [new0 (by omega)]; decide) (by omega) (by omega)
    refine ⟨_, _, by rw [req1 hb0 p]; exact ld_ok d, ?_⟩
    rw [show own.after (gt s.cs 1) = { own with b := gt s.cs 1, pc := 2 } from by simp [DOp.after, DOp.pushed, k, p]]
    exact rd rfl k (by rw [new0 (.inr (by simp)), new0 (by omega)]) (.pu2 k rfl rfl) (by simp) (by omega)
  | pu2 _ p b =>
    have d := g.dep (x := 0) (by rw [new0 (by omega)]; decide) (by omega) (by omega)
    refine ⟨_, _, by rw [req2 hb0 p]; exact ld_ok d, ?_⟩
    rw [show own.after (gt s.cs 0) = { own with t := gt s.cs 0, pc := 3 } from by simp [DOp.after, DOp.pushed, k, p]]
    exact rd rfl k (by rw [new0 (.inr (by simp)), new0 (by omega)]) (.pu3 k rfl b g2 (Int.le_refl _) (by dsimp only; omega)) (by simp) (by omega)
  | pu3 _ p b t0 t f =>
    have d := g.dep (x := 2) (by rw [new0 (by omega)]; decide) (by omega) (by omega)
    refine ⟨_, _, by rw [req3 hb0 p]; exact ld_ok d, ?_⟩
    rw [show own.after (gt s.cs 2) = { own with a := gt s.cs 2, pc := 4 } from by simp [DOp.after, DOp.pushed, k, p]]
    exact rd rfl k (by rw [new0 (.inr (by simp)), new0 (by omega)]) (.pu4 k rfl b t0 t f rfl) (by simp) (by omega)
  | pu4 _ p b t0 t f a =>
    have d := g.dep (x := own.a) (by rw [new0 (by omega)]; decide) (by omega) (by omega)
    refine ⟨_, _, by rw [req4 hb0 p]; exact ld_ok d, ?_⟩
    have hc : gt s.cs own.a = cC s.cs := by rw [a]
    rw [hc]
    have wd : w64 (own.b - own.t) = own.b - own.t := by rw [w64_of] <;> omega
    by_cases q : own.b - own.t < cC s.cs
    · rw [show own.after (cC s.cs) = { own with c := cC s.cs, pc := 10 } from by simp only [DOp.after, DOp.pushed, k, p, if_true]; rw [if_neg (by decide), if_neg (by decide), if_neg (by decide), if_neg (by omega), wd, if_pos q]]
      exact rd rfl k (by rw [new0 (.inr (by simp)), new0 (by omega)]) (.pu10 k rfl b t0 t q a rfl) (by simp) (by omega)
    · by_cases r : own.most ≤ cC s.cs
      · rw [show own.after (cC s.cs) = DOp.over { own with c := cC s.cs, pc := 10 } 3 0 from by simp only [DOp.after, DOp.pushed, k, p, if_true]; rw [if_neg (by decide), if_neg (by decide), if_neg (by decide), if_neg (by omega), wd, if_neg q, if_pos r]]
        refine ⟨?_, .idle rfl, fun th h => h.own fun v => ?_, .full k rfl rfl rfl rfl (hand1 k) (handp (.inl rfl)) rfl (by omega) (by omega) b t0 p, (if_neg (by omega)).symm, .inl (by rw [hB]; exact Int.le_of_eq (Bl_up (lowp (.inl rfl))))⟩
        · have hn0 : newer own = 0 := new0 (by omega)
          exact g.own (by rw [hB]; exact Bl_up (lowp (.inl rfl))) (by rw [hn0]; exact new0 (.inr (.inl (show (0 : Int) < 6 by decide)))) nn
        · rcases v with v | ⟨_, v, _⟩
          · exact .inl v
          · exact absurd v (low1 k)
      · have w2 : w64 (2 * cC s.cs) = 2 * cC s.cs := by rw [w64_of] <;> omega
        rw [show own.after (cC s.cs) = { own with c := cC s.cs, c2 := if own.most < 2 * cC s.cs then own.most else 2 * cC s.cs, pc := 5 } from by
          simp only [DOp.after, DOp.pushed, k, p, if_true]; rw [if_neg (by decide), if_neg (by decide), if_neg (by decide), if_neg (by omega), wd, if_neg q, if_neg r, w2]]
        exact rd rfl k (by rw [new0 (.inr (by simp)), new0 (by omega)]) (.pu5 k rfl b t0 t (by dsimp only; omega) a rfl (by omega) (by rw [hmo])) (by simp) (by omega)
  | pu5 _ p b t0 t f a c lt c2 =>
    have hn0 : newer own = 0 := new0 (by omega)
    rw [hn0] at g10
    have hc2 : 1 ≤ own.c2 ∧ own.c2 ≤ most ∧ cC s.cs < own.c2 := by rw [c2]; split <;> omega
    have w1 : w64 (1 + own.c2) = 1 + own.c2 := by rw [w64_of] <;> omega
    obtain ⟨kk, k1, k2⟩ := g13
    have hroom : (s.cs.length : Int) + 1 + own.c2 ≤ sz ∧ ∃ k : Nat, most - own.c2 ≤ (k : Int) ∧ cellsGo most k ((s.cs.length : Int) + 1 + own.c2) own.c2 = sz := by
      obtain ⟨kk, rfl⟩ : ∃ j, kk = j + 1 := ⟨kk - 1, by omega⟩
      rw [cellsGo, if_pos lt] at k2
      have e1 : cA s.cs + cC s.cs + 1 + 1 + own.c2 = (s.cs.length : Int) + 1 + own.c2 := by omega
      rw [← c2, e1] at k2
      refine ⟨?_, kk, by omega, k2⟩
      have := cellsGo_ge most kk ((s.cs.length : Int) + 1 + own.c2) own.c2 (by omega)
      omega
    refine ⟨_, _, by rw [req5 hb0 p, w1]; exact rs_ok (by omega) (by omega), ?_⟩
    rw [show own.after (s.cs.length : Int) = { own with a2 := (s.cs.length : Int), pc := 6 } from by simp [DOp.after, DOp.pushed, k, p]]
    have far : ∀ x, gt (s.cs ++ List.replicate (1 + own.c2).toNat 0) x = gt s.cs x := fun x => gt_app _ _ _
    have ff : Far s.cs (s.cs ++ List.replicate (1 + own.c2).toNat 0) := fun x _ _ => far x
    have hlen : ((s.cs ++ List.replicate (1 + own.c2).toNat (0 : Int)).length : Int) = (s.cs.length : Int) + 1 + own.c2 := by rw [List.length_append, List.length_replicate]; omega
    have eA := ff.a g7 g8
    have eC := ff.c g7 g8
    refine far_step g nn k k (by simp) ff ?_ (by show ((s.cs ++ _).length : Int) ≤ sz; rw [hlen]; omega) (.pu6 k rfl ?_ t0 ?_ ?_ ?_ ?_ ?_ ?_ ?_) (by omega)
    · show ((s.cs ++ _).length : Int) = _
      rw [hlen, hn0]
      unfold newer
      rw [if_pos ⟨k, by simp⟩]
      dsimp only; omega
    · show own.b = gt (s.cs ++ _) 1; rw [far]; exact b
    · show own.t ≤ gt (s.cs ++ _) 0; rw [far]; exact t
    · show _ = cC (s.cs ++ _); rw [eC]; exact f
    · show _ = cA (s.cs ++ _); rw [eA]; exact a
    · show _ = cC (s.cs ++ _); rw [eC]; exact c
    · show cC (s.cs ++ _) < most; rw [eC]; exact lt
    · show own.c2 = if most < 2 * cC (s.cs ++ _) then most else 2 * cC (s.cs ++ _); rw [eC]; exact c2
    · show (s.cs.length : Int) = cA (s.cs ++ _) + cC (s.cs ++ _) + 1; rw [eA, eC]; omega
  | pu6 _ p b t0 t f a c lt c2 a2 =>
    have hn0 : newer own = 1 + own.c2 := by unfold newer; rw [if_pos ⟨k, by omega, by omega⟩]
    rw [hn0] at g10
    have hc2 : 1 ≤ own.c2 ∧ own.c2 ≤ most ∧ cC s.cs < own.c2 := by rw [c2]; split <;> omega
    refine ⟨_, _, by rw [req6 hb0 p]; exact st_ok ⟨by omega, by omega⟩, ?_⟩
    rw [show own.after 0 = { own with i := own.t, pc := 7 } from by simp [DOp.after, DOp.pushed, k, p]]
    have far : ∀ x, 0 ≤ x → x ≠ own.a2 → gt (s.cs.set own.a2.toNat own.c2) x = gt s.cs x := fun x h0 hx => gt_set_ne (by omega) h0 hx
    have ff : Far s.cs (s.cs.set own.a2.toNat own.c2) := fun x h0 hx => far x h0 (by omega)
    have eA := ff.a g7 g8
    have eC := ff.c g7 g8
    refine far_step g nn k k (by simp) ff ?_ (by show ((s.cs.set _ _).length : Int) ≤ sz; rw [List.length_set]; exact g12) (.pu7 k rfl ?_ t0 ?_ ?_ ?_ ?_ ?_ ?_ ?_ ?_ (Int.le_refl _) (by dsimp only; omega) (fun j h1 h2 => by dsimp only at h1 h2; omega)) (by omega)
    · show ((s.cs.set _ _).length : Int) = _
      rw [hn0, List.length_set]
      unfold newer
      rw [if_pos ⟨k, by simp⟩]
      dsimp only; omega
    · show own.b = gt (s.cs.set _ _) 1; rw [far 1 (by omega) (by omega)]; exact b
    · show own.t ≤ gt (s.cs.set _ _) 0; rw [far 0 (by omega) (by omega)]; exact t
    · show _ = cC (s.cs.set _ _); rw [eC]; exact f
    · show _ = cA (s.cs.set _ _); rw [eA]; exact a
    · show _ = cC (s.cs.set _ _); rw [eC]; exact c
    · show cC (s.cs.set _ _) < most; rw [eC]; exact lt
    · show own.c2 = if most < 2 * cC (s.cs.set _ _) then most else 2 * cC (s.cs.set _ _); rw [eC]; exact c2
    · show own.a2 = cA (s.cs.set _ _) + cC (s.cs.set _ _) + 1; rw [eA, eC]; exact a2
    · show gt (s.cs.set _ _) own.a2 = own.c2; rw [gt_set (by omega) (by omega) (by omega), if_pos rfl]
  | pu7 _ p b t0 t f a c lt c2 a2 hd i1 i2 cp =>
    have hn0 : newer own = 1 + own.c2 := by unfold newer; rw [if_pos ⟨k, by omega, by omega⟩]
    have hc2 : 1 ≤ own.c2 ∧ own.c2 ≤ most ∧ cC s.cs < own.c2 := by rw [c2]; split <;> omega
    have hpl : placeD own.a own.c own.i = pl (cA s.cs) (cC s.cs) own.i := by rw [a, c]; exact placeD_pl (by omega) (by omega) (by omega) (by omega) (by omega)
    have hr := pl_range (a := cA s.cs) (i := own.i) g8
    refine ⟨_, _, by rw [req7 hb0 p, hpl]; exact ld_ok (g.dep (by omega) (by omega) (by omega)), ?_⟩
    rw [show own.after (gt s.cs (pl (cA s.cs) (cC s.cs) own.i)) = { own with x := cE s.cs own.i, pc := 8 } from by simp [DOp.after, DOp.pushed, k, p]]
    exact rd rfl k (by rw [hn0]; unfold newer; rw [if_pos ⟨k, by simp⟩]) (.pu8 k rfl b t0 t f a c lt c2 a2 hd i1 i2 cp rfl) (by simp) (by omega)
  | pu8 _ p b t0 t f a c lt c2 a2 hd i1 i2 cp x =>
    have hn0 : newer own = 1 + own.c2 := by unfold newer; rw [if_pos ⟨k, by omega, by omega⟩]
    have hc2 : 1 ≤ own.c2 ∧ own.c2 ≤ most ∧ cC s.cs < own.c2 := by rw [c2]; split <;> omega
    rw [hn0] at g10
    have hpl : placeD own.a2 own.c2 own.i = pl own.a2 own.c2 own.i := placeD_pl (by omega) (by omega) (by omega) (by omega) (by omega)
    have hr := pl_range (a := own.a2) (i := own.i) hc2.1
    refine ⟨_, _, by rw [req8 hb0 p, hpl]; exact st_ok ⟨by omega, by omega⟩, ?_⟩
    have far : ∀ y, 0 ≤ y → y ≠ pl own.a2 own.c2 own.i → gt (s.cs.set (pl own.a2 own.c2 own.i).toNat own.x) y = gt s.cs y := fun y h0 hx => gt_set_ne (by omega) h0 hx
    have ff : Far s.cs (s.cs.set (pl own.a2 own.c2 own.i).toNat own.x) := fun y h0 hx => far y h0 (by omega)
    have eA := ff.a g7 g8
    have eC := ff.c g7 g8
    have wi : w64 (own.i + 1) = own.i + 1 := by rw [w64_of] <;> omega
    have cp' : ∀ j, own.t ≤ j → j < own.i + 1 → gt (s.cs.set (pl own.a2 own.c2 own.i).toNat own.x) (pl own.a2 own.c2 j) = cE (s.cs.set (pl own.a2 own.c2 own.i).toNat own.x) j := fun j h1 h2 => by
      rw [ff.e g7 g8]
      have hrj := pl_range (a := own.a2) (i := j) hc2.1
      by_cases e : j = own.i
      · rw [e, gt_set (by omega) (by omega) (by omega), if_pos rfl]; exact x
      · rw [far _ (by omega) (pl_ne (by omega) (by omega))]
        exact cp j h1 (by omega)
    have b' : own.b = gt (s.cs.set (pl own.a2 own.c2 own.i).toNat own.x) 1 := by rw [far 1 (by omega) (by omega)]; exact b
    have t' : own.t ≤ gt (s.cs.set (pl own.a2 own.c2 own.i).toNat own.x) 0 := by rw [far 0 (by omega) (by omega)]; exact t
    have f' : own.b - own.t = cC (s.cs.set (pl own.a2 own.c2 own.i).toNat own.x) := by rw [eC]; exact f
    have a' : own.a = cA (s.cs.set (pl own.a2 own.c2 own.i).toNat own.x) := by rw [eA]; exact a
    have c' : own.c = cC (s.cs.set (pl own.a2 own.c2 own.i).toNat own.x) := by rw [eC]; exact c
    have lt' : cC (s.cs.set (pl own.a2 own.c2 own.i).toNat own.x) < most := by rw [eC]; exact lt
    have c2' : own.c2 = if most < 2 * cC (s.cs.set (pl own.a2 own.c2 own.i).toNat own.x) then most else 2 * cC (s.cs.set (pl own.a2 own.c2 own.i).toNat own.x) := by rw [eC]; exact c2
    have a2' : own.a2 = cA (s.cs.set (pl own.a2 own.c2 own.i).toNat own.x) + cC (s.cs.set (pl own.a2 own.c2 own.i).toNat own.x) + 1 := by rw [eA, eC]; exact a2
    have hd' : gt (s.cs.set (pl own.a2 own.c2 own.i).toNat own.x) own.a2 = own.c2 := by rw [far _ (by omega) (by omega)]; exact hd
    have hln : (((s.cs.set (pl own.a2 own.c2 own.i).toNat own.x).length : Nat) : Int) = (s.cs.length : Int) := by rw [List.length_set]
    by_cases q : own.i + 1 = own.b
    · rw [show own.after 0 = { own with i := own.i + 1, pc := 9 } from by simp only [DOp.after, DOp.pushed, k, p, wi, if_true]; rw [if_neg (by decide), if_neg (by decide), if_neg (by decide), if_neg (by decide), if_neg (by decide), if_neg (by decide), if_neg (by decide), if_pos q]]
      refine far_step g nn k k (by simp) ff ?_ (by show ((s.cs.set _ _).length : Int) ≤ sz; rw [hln]; exact g12) (.pu9 k rfl b' t0 t' f' a' c' lt' c2' a2' hd' fun j h1 h2 => cp' j h1 (by have h2 : j < own.b := h2; omega)) (by omega)
      show ((s.cs.set _ _).length : Int) = _
      rw [hn0, hln]
      unfold newer
      rw [if_pos ⟨k, by simp⟩]
      dsimp only; omega
    · rw [show own.after 0 = { own with i := own.i + 1, pc := 7 } from by simp only [DOp.after, DOp.pushed, k, p, wi, if_true]; rw [if_neg (by decide), if_neg (by decide), if_neg (by decide), if_neg (by decide), if_neg (by decide), if_neg (by decide), if_neg (by decide), if_neg q]]
      refine far_step g nn k k (by simp) ff ?_ (by show ((s.cs.set _ _).length : Int) ≤ sz; rw [hln]; exact g12) (.pu7 k rfl b' t0 t' f' a' c' lt' c2' a2' hd' (by dsimp only; omega) (by dsimp only; omega) cp') (by omega)
      show ((s.cs.set _ _).length : Int) = _
      rw [hn0, hln]
      unfold newer
      rw [if_pos ⟨k, by simp⟩]
      dsimp only; omega
  | pu9 _ p b t0 t f a c lt c2 a2 hd cp =>
    have hn0 : newer own = 1 + own.c2 := by unfold newer; rw [if_pos ⟨k, by omega, by omega⟩]
    have hc2 : 1 ≤ own.c2 ∧ own.c2 ≤ most ∧ cC s.cs < own.c2 := by rw [c2]; split <;> omega
    rw [hn0] at g10
    refine ⟨_, _, by rw [req9 hb0 p]; exact st_ok (s := s) (a := 2) (v := own.a2) ⟨by omega, by omega⟩, ?_⟩
    rw [show own.after 0 = { own with a := own.a2, c := own.c2, pc := 10 } from by simp [DOp.after, DOp.pushed, k, p]]
    have far : ∀ y, 0 ≤ y → y ≠ 2 → gt (s.cs.set (2 : Int).toNat own.a2) y = gt s.cs y := fun y h0 hx => gt_set_ne (by omega) h0 hx
    have eA : cA (s.cs.set (2 : Int).toNat own.a2) = own.a2 := by show gt (s.cs.set (2 : Int).toNat own.a2) 2 = _; rw [gt_set (by omega) (by omega) (by omega), if_pos rfl]
    have eC : cC (s.cs.set (2 : Int).toNat own.a2) = own.c2 := by show gt _ (cA _) = _; rw [eA, far _ (by omega) (by omega)]; exact hd
    have e0 := far 0 (by omega) (by omega)
    have e1 := far 1 (by omega) (by omega)
    have eE : ∀ j, own.t ≤ j → j < own.b → cE (s.cs.set (2 : Int).toNat own.a2) j = cE s.cs j := fun j h1 h2 => by
      show gt _ (pl (cA _) (cC _) j) = _
      have := pl_range (a := own.a2) (i := j) hc2.1
      rw [eA, eC, far _ (by omega) (by omega)]
      exact cp j h1 h2
    have hbl : Bl (s.cs.set (2 : Int).toNat own.a2) { own with a := own.a2, c := own.c2, pc := 10 } = gt s.cs 1 := (Bl_up (low1 (o := { own with a := own.a2, c := own.c2, pc := 10 }) k)).trans e1
    have hnw : newer { own with a := own.a2, c := own.c2, pc := 10 } = 0 := new0 (.inr (.inr (by simp)))
    obtain ⟨kk, k1, k2⟩ := g13
    refine ⟨⟨g1, by show 0 ≤ gt (s.cs.set _ _) 0; rw [e0]; exact g2, by show gt (s.cs.set _ _) 0 ≤ Bl (s.cs.set _ _) _; rw [hbl, e0]; exact g3, by show Bl (s.cs.set _ _) _ - gt (s.cs.set _ _) 0 ≤ cC (s.cs.set _ _); rw [hbl, e0, eC]; omega, by show Bl (s.cs.set _ _) _ ≤ _; rw [hbl]; omega, nn,
      by show 3 ≤ cA (s.cs.set _ _); rw [eA]; omega, by show 1 ≤ cC (s.cs.set _ _); rw [eC]; omega, by show cC (s.cs.set _ _) ≤ most; rw [eC]; omega, ?_, g11, by show ((s.cs.set _ _).length : Int) ≤ sz; rw [List.length_set]; exact g12, ?_⟩, .pu10 k rfl (by show own.b = gt (s.cs.set _ _) 1; rw [e1]; exact b) t0 (by show own.t ≤ gt (s.cs.set _ _) 0; rw [e0]; exact t) (by show own.b - own.t < cC (s.cs.set _ _); rw [eC]; omega) (by show own.a2 = cA (s.cs.set _ _); rw [eA]) (by show own.c2 = cC (s.cs.set _ _); rw [eC]), fun th h => ?_, .same (by simp) (ctn_same e0 e1 fun i h1 h2 => eE i (by omega) (by omega)) (by rw [hand1 k]; exact hand1 k) e0, by show cC (s.cs.set _ _) = _; rw [eC, if_pos ⟨k, p⟩], .inl (by rw [hB]; exact Int.le_of_eq hbl)⟩
    · show ((s.cs.set _ _).length : Int) = cA (s.cs.set _ _) + cC (s.cs.set _ _) + 1 + newer _
      rw [hnw, eA, eC, List.length_set]; omega
    · show ∃ k : Nat, most - cC (s.cs.set _ _) ≤ (k : Int) ∧ cellsGo most k (cA (s.cs.set _ _) + cC (s.cs.set _ _) + 1) (cC (s.cs.set _ _)) = sz
      rw [eA, eC]
      obtain ⟨kk, rfl⟩ : ∃ j, kk = j + 1 := ⟨kk - 1, by omega⟩
      rw [cellsGo, if_pos lt, ← c2] at k2
      exact ⟨kk, by omega, by rw [← k2]; congr 1; omega⟩
    · refine h.keep e0 (fun v => ?_) (fun y hb => ?_) (fun v => ?_)
      · rcases v with v | ⟨_, v, _⟩
        · exact .inl (by show _ < gt (s.cs.set _ _) 1; rw [e1]; exact v)
        · exact absurd v (low1 k)
      · have hr := hb.room g7 g8
        obtain ⟨b1, b2, b3, b4⟩ := hb
        have ey : gt (s.cs.set (2 : Int).toNat own.a2) y = gt s.cs y := far y (by omega) (by omega)
        refine ⟨⟨b1, by show 1 ≤ gt (s.cs.set _ _) y; rw [ey]; exact b2, by show gt (s.cs.set _ _) y ≤ 4096; rw [ey]; exact b3, .inr ?_⟩, ey, fun v q => ?_⟩
        · show y + gt (s.cs.set _ _) y + 1 ≤ cA (s.cs.set _ _); rw [ey, eA]; omega
        · have := pl_range (a := y) (i := gt s.cs 0) b2
          rcases v with v | ⟨_, v, _⟩
          · show gt (s.cs.set _ _) _ = cE (s.cs.set _ _) _
            rw [far _ (by omega) (by omega), eE _ t (by omega), q]
          · exact absurd v (low1 k)
      · rcases v with v | ⟨_, v, _⟩
        · exact eE _ t (by omega)
        · exact absurd v (low1 k)
  | pu10 _ p b t0 t f a c =>
    have hn0 : newer own = 0 := new0 (by omega)
    rw [hn0] at g10
    have hpl : placeD own.a own.c own.b = pl (cA s.cs) (cC s.cs) own.b := by rw [a, c]; exact placeD_pl (by omega) (by omega) (by omega) (by omega) (by omega)
    have hr := pl_range (a := cA s.cs) (i := own.b) g8
    refine ⟨_, _, by rw [req10 hb0 p, hpl]; exact st_ok ⟨by omega, by omega⟩, ?_⟩
    rw [show own.after 0 = { own with pc := 11 } from by simp [DOp.after, DOp.pushed, k, p]]
    have far : ∀ y, 0 ≤ y → y ≠ pl (cA s.cs) (cC s.cs) own.b → gt (s.cs.set (pl (cA s.cs) (cC s.cs) own.b).toNat own.v) y = gt s.cs y := fun y h0 hx => gt_set_ne (by omega) h0 hx
    have e0 := far 0 (by omega) (by omega)
    have e1 := far 1 (by omega) (by omega)
    have eA : cA (s.cs.set (pl (cA s.cs) (cC s.cs) own.b).toNat own.v) = cA s.cs := far 2 (by omega) (by omega)
    have eC : cC (s.cs.set (pl (cA s.cs) (cC s.cs) own.b).toNat own.v) = cC s.cs := by show gt _ (cA _) = _; rw [eA]; exact far _ (by omega) (by omega)
    have eE : ∀ j, gt s.cs 0 ≤ j → j < gt s.cs 1 → cE (s.cs.set (pl (cA s.cs) (cC s.cs) own.b).toNat own.v) j = cE s.cs j := fun j h1 h2 => by
      show gt _ (pl (cA _) (cC _) j) = _
      have := pl_range (a := cA s.cs) (i := j) g8
      rw [eA, eC]
      exact far _ (by omega) (pl_ne (by omega) (by omega))
    have hbl : Bl (s.cs.set (pl (cA s.cs) (cC s.cs) own.b).toNat own.v) { own with pc := 11 } = gt s.cs 1 := (Bl_up (low1 (o := { own with pc := 11 }) k)).trans e1
    have hnw : newer { own with pc := 11 } = 0 := new0 (.inr (.inr (by simp)))
    refine ⟨⟨g1, by show 0 ≤ gt (s.cs.set _ _) 0; rw [e0]; exact g2, by show gt (s.cs.set _ _) 0 ≤ Bl (s.cs.set _ _) _; rw [hbl, e0]; exact g3, by show Bl (s.cs.set _ _) _ - gt (s.cs.set _ _) 0 ≤ cC (s.cs.set _ _); rw [hbl, e0, eC]; omega, by show Bl (s.cs.set _ _) _ ≤ _; rw [hbl]; omega, nn,
      by show 3 ≤ cA (s.cs.set _ _); rw [eA]; omega, by show 1 ≤ cC (s.cs.set _ _); rw [eC]; omega, by show cC (s.cs.set _ _) ≤ most; rw [eC]; omega, ?_, g11, by show ((s.cs.set _ _).length : Int) ≤ sz; rw [List.length_set]; exact g12, by show ∃ k : Nat, most - cC (s.cs.set _ _) ≤ (k : Int) ∧ cellsGo most k (cA (s.cs.set _ _) + cC (s.cs.set _ _) + 1) (cC (s.cs.set _ _)) = sz; rw [eA, eC]; exact g13⟩,
      .pu11 k rfl (by show own.b = gt (s.cs.set _ _) 1; rw [e1]; exact b) t0 (by show own.t ≤ gt (s.cs.set _ _) 0; rw [e0]; exact t) (by show own.b - own.t < cC (s.cs.set _ _); rw [eC]; exact f) (by show own.a = cA (s.cs.set _ _); rw [eA]; exact a) (by show own.c = cC (s.cs.set _ _); rw [eC]; exact c) ?_, fun th h => ?_, .same (by simp) (ctn_same e0 e1 eE) (by rw [hand1 k]; exact hand1 k) e0, by show cC (s.cs.set _ _) = _; rw [eC, if_neg (by omega)], .inl (by rw [hB]; exact Int.le_of_eq hbl)⟩
    · show ((s.cs.set _ _).length : Int) = cA (s.cs.set _ _) + cC (s.cs.set _ _) + 1 + newer _
      rw [hnw, eA, eC, List.length_set]; omega
    · show gt (s.cs.set _ _) (pl (cA (s.cs.set _ _)) (cC (s.cs.set _ _)) own.b) = own.v
      rw [eA, eC, gt_set (by omega) (by omega) (by omega), if_pos rfl]
    · refine h.keep e0 (fun v => ?_) (fun y hb => ?_) (fun v => ?_)
      · rcases v with v | ⟨_, v, _⟩
        · exact .inl (by show _ < gt (s.cs.set _ _) 1; rw [e1]; exact v)
        · exact absurd v (low1 k)
      · have hrm := hb.room g7 g8
        have hb' := hb
        obtain ⟨b1, b2, b3, b4⟩ := hb
        have ey : gt (s.cs.set (pl (cA s.cs) (cC s.cs) own.b).toNat own.v) y = gt s.cs y := far y (by omega) (by rcases b4 with e | e <;> omega)
        refine ⟨⟨b1, by show 1 ≤ gt (s.cs.set _ _) y; rw [ey]; exact b2, by show gt (s.cs.set _ _) y ≤ 4096; rw [ey]; exact b3, ?_⟩, ey, fun v q => ?_⟩
        · show y = cA (s.cs.set _ _) ∨ y + gt (s.cs.set _ _) y + 1 ≤ cA (s.cs.set _ _); rw [ey, eA]; exact b4
        · have := pl_range (a := y) (i := gt s.cs 0) b2
          rcases v with v | ⟨_, v, _⟩
          · show gt (s.cs.set _ _) _ = cE (s.cs.set _ _) _
            rw [eE _ (Int.le_refl _) v, ← q]
            refine far _ (by omega) ?_
            rcases b4 with e | e
            · subst e; exact pl_ne (by omega) (show own.b - gt s.cs 0 < cC s.cs by omega)
            · omega
          · exact absurd v (low1 k)
      · rcases v with v | ⟨_, v, _⟩
        · exact eE _ (Int.le_refl _) v
        · exact absurd v (low1 k)
  | pu11 _ p b t0 t f a c e =>
    have hn0 : newer own = 0 := new0 (by omega)
    rw [hn0] at g10
    have wb : w64 (own.b + 1) = own.b + 1 := by rw [w64_of] <;> omega
    have hnx : own.next = own.b + 1 := by unfold DOp.next; rw [if_pos k, wb]
    refine ⟨_, _, by rw [req11 hb0 p, hnx]; exact st_ok (s := s) (a := 1) ⟨by omega, by omega⟩, ?_⟩
    rw [show own.after 0 = own.over 2 0 from by simp [DOp.after, DOp.pushed, k, p]]
    have far : ∀ y, 0 ≤ y → y ≠ 1 → gt (s.cs.set (1 : Int).toNat (own.b + 1)) y = gt s.cs y := fun y h0 hx => gt_set_ne (by omega) h0 hx
    have e0 := far 0 (by omega) (by omega)
    have e1 : gt (s.cs.set (1 : Int).toNat (own.b + 1)) 1 = gt s.cs 1 + 1 := by rw [gt_set (by omega) (by omega) (by omega), if_pos rfl]; omega
    have eA : cA (s.cs.set (1 : Int).toNat (own.b + 1)) = cA s.cs := far 2 (by omega) (by omega)
    have eC : cC (s.cs.set (1 : Int).toNat (own.b + 1)) = cC s.cs := by show gt _ (cA _) = _; rw [eA]; exact far _ (by omega) (by omega)
    have eE : ∀ j, cE (s.cs.set (1 : Int).toNat (own.b + 1)) j = cE s.cs j := fun j => by
      show gt _ (pl (cA _) (cC _) j) = _
      have := pl_range (a := cA s.cs) (i := j) g8
      rw [eA, eC]
      exact far _ (by omega) (by omega)
    have hbl : Bl (s.cs.set (1 : Int).toNat (own.b + 1)) (own.over 2 0) = gt s.cs 1 + 1 := (Bl_up (lowp (.inl rfl))).trans e1
    have hnw : newer (own.over 2 0) = 0 := new0 (.inr (.inl (show (0 : Int) < 6 by decide)))
    refine ⟨⟨g1, by show 0 ≤ gt (s.cs.set _ _) 0; rw [e0]; exact g2, by show gt (s.cs.set _ _) 0 ≤ Bl (s.cs.set _ _) _; rw [hbl, e0]; omega, by show Bl (s.cs.set _ _) _ - gt (s.cs.set _ _) 0 ≤ cC (s.cs.set _ _); rw [hbl, e0, eC]; omega, by show Bl (s.cs.set _ _) _ ≤ _; rw [hbl]; omega, nn,
      by show 3 ≤ cA (s.cs.set _ _); rw [eA]; omega, by show 1 ≤ cC (s.cs.set _ _); rw [eC]; omega, by show cC (s.cs.set _ _) ≤ most; rw [eC]; omega, ?_, g11, by show ((s.cs.set _ _).length : Int) ≤ sz; rw [List.length_set]; exact g12, by show ∃ k : Nat, most - cC (s.cs.set _ _) ≤ (k : Int) ∧ cellsGo most k (cA (s.cs.set _ _) + cC (s.cs.set _ _) + 1) (cC (s.cs.set _ _)) = sz; rw [eA, eC]; exact g13⟩,
      .idle rfl, fun th h => ?_, .push k rfl rfl rfl ?_ (hand1 k) (handp (.inl rfl)) e0 (by omega) p, by show cC (s.cs.set _ _) = _; rw [eC, if_neg (by omega)], .inr ⟨k, p, by rw [hB]; exact Int.le_of_eq hbl⟩⟩
    · show ((s.cs.set _ _).length : Int) = cA (s.cs.set _ _) + cC (s.cs.set _ _) + 1 + newer _
      rw [hnw, eA, eC, List.length_set]; omega
    · refine h.keep e0 (fun v => ?_) (fun y hb => ?_) (fun v => eE _)
      · rcases v with v | ⟨_, v, _⟩
        · exact .inl (by show _ < gt (s.cs.set _ _) 1; rw [e1]; omega)
        · exact absurd v (low1 k)
      · obtain ⟨b1, b2, b3, b4⟩ := hb
        have ey : gt (s.cs.set (1 : Int).toNat (own.b + 1)) y = gt s.cs y := far y (by omega) (by omega)
        refine ⟨⟨b1, by show 1 ≤ gt (s.cs.set _ _) y; rw [ey]; exact b2, by show gt (s.cs.set _ _) y ≤ 4096; rw [ey]; exact b3, ?_⟩, ey, fun v q => ?_⟩
        · show y = cA (s.cs.set _ _) ∨ y + gt (s.cs.set _ _) y + 1 ≤ cA (s.cs.set _ _); rw [ey, eA]; exact b4
        · have := pl_range (a := y) (i := gt s.cs 0) b2
          show gt (s.cs.set _ _) _ = cE (s.cs.set _ _) _
          rw [eE, ← q]
          exact far _ (by omega) (by omega)
    · have := ctn_push (cs := s.cs) (cs' := s.cs.set (1 : Int).toNat (own.b + 1)) e0 e1 g3 fun i _ _ => eE i
      rw [eE, ← b, e] at this
      exact this

end Go.Mx

namespace Go.Mx

structure Set1 (cs cs' : List Int) (x : Int) : Prop where
  e0 : gt cs' 0 = gt cs 0
  e1 : gt cs' 1 = x
  eA : cA cs' = cA cs
  eC : cC cs' = cC cs
  eE : ∀ j, cE cs' j = cE cs j
  bf : ∀ a, Buf cs a → Buf cs' a ∧ gt cs' a = gt cs a ∧ ∀ i, gt cs' (pl a (gt cs a) i) = gt cs (pl a (gt cs a) i)
  len : cs'.length = cs.length
theorem set1 {most sz N : Int} {cs : List Int} {own : DOp} (g : DG most sz N cs own) (hl : (1 : Int) < (cs.length : Int)) (x : Int) : Set1 cs (cs.set (1 : Int).toNat x) x := by
  have far : ∀ y, 0 ≤ y → y ≠ 1 → gt (cs.set (1 : Int).toNat x) y = gt cs y := fun y h0 hx => gt_set_ne (by omega) h0 hx
  have a3 := g.a3
  have c1 := g.c1
  have eA : cA (cs.set (1 : Int).toNat x) = cA cs := far 2 (by omega) (by omega)
  have eC : cC (cs.set (1 : Int).toNat x) = cC cs := by show gt _ (cA _) = _; rw [eA]; exact far _ (by omega) (by omega)
  refine ⟨far 0 (by omega) (by omega), by rw [gt_set (by omega) hl (by omega), if_pos rfl], eA, eC, fun j => ?_, fun a hb => ?_, List.length_set⟩
  · show gt _ (pl (cA _) (cC _) j) = _
    have := pl_range (a := cA cs) (i := j) c1
    rw [eA, eC]
    exact far _ (by omega) (by omega)
  · obtain ⟨b1, b2, b3, b4⟩ := hb
    have ey : gt (cs.set (1 : Int).toNat x) a = gt cs a := far a (by omega) (by omega)
    refine ⟨⟨b1, by rw [ey]; exact b2, by rw [ey]; exact b3, by rw [ey, eA]; exact b4⟩, ey, fun i => ?_⟩
    have := pl_range (a := a) (i := i) b2
    exact far _ (by omega) (by omega)
theorem Set1.dg {most sz N : Int} {cs cs' : List Int} {own own' : DOp} {x : Int} (s : Set1 cs cs' x) (g : DG most sz N cs own) (hn : newer own = 0) (hn' : newer own' = 0) (nn : N + 1 ≤ 1000000000) (h1 : gt cs 0 ≤ Bl cs' own') (h2 : Bl cs' own' ≤ Bl cs own) : DG most sz (N + 1) cs' own' := by
  obtain ⟨g1, g2, g3, g4, g5, g6, g7, g8, g9, g10, g11, g12, g13⟩ := g
  obtain ⟨e0, e1, eA, eC, eE, bf, len⟩ := s
  exact ⟨g1, by rw [e0]; exact g2, by rw [e0]; exact h1, by rw [e0, eC]; omega, by omega, nn, by rw [eA]; exact g7, by rw [eC]; exact g8, by rw [eC]; exact g9, by rw [len, eA, eC, hn']; omega, g11, by rw [len]; exact g12, by rw [eA, eC]; exact g13⟩
theorem Set1.th {cs cs' : List Int} {own own' th : DOp} {x : Int} (s : Set1 cs cs' x) (h : ThS cs own th) (hv : Av cs own (gt cs 0) → Av cs' own' (gt cs 0)) : ThS cs' own' th :=
  h.keep s.e0 hv (fun a hb => ⟨(s.bf a hb).1, (s.bf a hb).2.1, fun _ e => by rw [(s.bf a hb).2.2, s.eE]; exact e⟩) (fun _ => s.eE _)

theorem lo2 {o : DOp} (k : o.kind = 2) (p : o.pc = 2) : lowered o := ⟨k, .inl p⟩
theorem lo4 {o : DOp} (k : o.kind = 2) (p : o.pc = 4 ∨ o.pc = 12 ∨ o.pc = 13) (e : o.t = o.b) : lowered o := ⟨k, .inr (.inl ⟨p, e⟩)⟩
theorem lo4n {o : DOp} (p : o.pc = 4 ∨ o.pc = 12 ∨ o.pc = 13) (e : ¬ o.t = o.b) : ¬ lowered o := fun q => by
  obtain ⟨_, q | ⟨_, q⟩ | q⟩ := q
  · omega
  · exact e q
  · omega
theorem lo11 {o : DOp} (k : o.kind = 2) (p : o.pc = 11) (i : o.i = 1) : lowered o := ⟨k, .inr (.inr ⟨p, by omega⟩)⟩

theorem own_pop {most sz N : Int} {s : AS} {own : DOp} (g : DG most sz N s.cs own) (nn : N + 1 ≤ 1000000000) (hs : s.sz = sz) (hm : Mach most own) (ho : OwnS most s.cs own) (k : own.kind = 2) (pp : own.pc ≠ 0) :
    ∃ v s', arenaI s own.req = (some v, s') ∧ OwnR most sz N s own s' (own.after v) := by
  obtain ⟨hb0, hmo⟩ := hm pp
  have g' := g
  obtain ⟨g1, g2, g3, g4, g5, g6, g7, g8, g9, g10, g11, g12, g13⟩ := g'
  have hn : newer own = 0 := new0 (by omega)
  have hn' : ∀ {o : DOp}, o.kind = 2 → newer o = 0 := fun {o} h => new0 (by omega)
  rw [hn] at g10
  have d := fun {x : Int} => g.dep (x := x) (by rw [hn]; exact Int.le_refl _)
  cases ho with
  | idle p => exact absurd p pp
  | pu1 k' | pu2 k' | pu3 k' | pu4 k' | pu5 k' | pu6 k' | pu7 k' | pu8 k' | pu9 k' | pu10 k' | pu11 k' => omega
  | po1 _ p i w =>
    have hB : Bl s.cs own = gt s.cs 1 := Bl_up (lowp (.inr (.inl p)))
    have wb : w64 (gt s.cs 1 - 1) = gt s.cs 1 - 1 := by rw [w64_of] <;> omega
    refine ⟨_, _, by rw [req1 hb0 p]; exact ld_ok (d (by omega) (by omega)), ?_⟩
    rw [show own.after (gt s.cs 1) = { own with b := gt s.cs 1 - 1, pc := 3 } from by simp [DOp.after, DOp.popped, k, p, wb]]
    have hB' : Bl s.cs { own with b := gt s.cs 1 - 1, pc := 3 } = gt s.cs 1 := Bl_up (lowp (.inr (.inr (.inl rfl))))
    exact own_read g nn rfl (by rw [hB, hB']; exact Int.le_refl _) (by rw [hB', ← hB]; exact g3) (fun v => v.elim .inl fun v => absurd v.2.1 (lowp (.inr (.inl p)))) (by rw [hn]; exact hn' k) (.po3 k rfl i w rfl) (by simp) ((handp (.inr (.inr (.inl rfl)))).trans (handp (.inr (.inl p))).symm) (by omega)
  | po3 _ p i w b =>
    have hB : Bl s.cs own = gt s.cs 1 := Bl_up (lowp (.inr (.inr (.inl p))))
    refine ⟨_, _, by rw [req3 hb0 p]; exact ld_ok (d (by omega) (by omega)), ?_⟩
    rw [show own.after (gt s.cs 2) = { own with a := gt s.cs 2, pc := 11 } from by simp [DOp.after, DOp.popped, k, p]]
    have hB' : Bl s.cs { own with a := gt s.cs 2, pc := 11 } = gt s.cs 1 := Bl_up (lowp (.inr (.inr (.inr ⟨rfl, i⟩))))
    exact own_read g nn rfl (by rw [hB, hB']; exact Int.le_refl _) (by rw [hB', ← hB]; exact g3) (fun v => v.elim .inl fun v => absurd v.2.1 (lowp (.inr (.inr (.inl p))))) (by rw [hn]; exact hn' k) (.po11 k rfl i w b rfl) (by simp) ((handp (o := { own with a := gt s.cs 2, pc := 11 }) (.inr (.inr (.inr ⟨rfl, i⟩)))).trans (handp (.inr (.inr (.inl p)))).symm) (by omega)
  | po11 _ p i w b a =>
    have hB : Bl s.cs own = gt s.cs 1 := Bl_up (lowp (.inr (.inr (.inr ⟨p, i⟩))))
    rw [hB] at g3 g4 g5
    have hnx : own.next = own.b := by unfold DOp.next; rw [if_neg (by omega), if_pos i]
    refine ⟨_, _, by rw [req11 hb0 p, hnx]; exact st_ok (s := s) (a := 1) (d (by omega) (by omega)), ?_⟩
    rw [show own.after 0 = { own with pc := 2 } from by simp [DOp.after, DOp.popped, k, p, i]]
    have s1 := set1 g (d (x := 1) (by omega) (by omega)).2 own.b
    have hB' : Bl (s.cs.set (1 : Int).toNat own.b) { own with pc := 2 } = gt s.cs 1 := by rw [Bl_lo (lo2 (o := { own with pc := 2 }) k rfl)]; show own.b + 1 = _; omega
    refine ⟨s1.dg g hn (hn' k) nn (by rw [hB']; exact g3) (by rw [hB', hB]; exact Int.le_refl _), .po2 k rfl i w s1.e1.symm (a.trans s1.eA.symm), fun th h => s1.th h fun v => ?_, .low k (by simp) (handp (.inr (.inr (.inr ⟨p, i⟩)))) ?_ s1.e0, s1.eC.trans (if_neg (by omega)).symm, .inl (by rw [hB]; exact Int.le_of_eq hB')⟩
    · rcases v with v | ⟨_, v, _⟩
      · by_cases q : gt s.cs 0 = own.b
        · exact .inr ⟨by rw [s1.e1]; exact q.symm, lo2 k rfl, q.symm, by simp⟩
        · exact .inl (by rw [s1.e1]; omega)
      · exact absurd v (lowp (.inr (.inr (.inr ⟨p, i⟩))))
    · have hh : hand (s.cs.set (1 : Int).toNat own.b) { own with pc := 2 } = if gt (s.cs.set (1 : Int).toNat own.b) 0 ≤ own.b then [cE (s.cs.set (1 : Int).toNat own.b) own.b] else [] := hand2 k (.inl rfl)
      show ctn s.cs = ctn (s.cs.set (1 : Int).toNat own.b) ++ hand (s.cs.set (1 : Int).toNat own.b) { own with pc := 2 }
      rw [hh, s1.e0, s1.eE]
      by_cases q : gt s.cs 0 ≤ own.b
      · rw [if_pos q, ctn_low (cs' := s.cs.set (1 : Int).toNat own.b) s1.e0 (by rw [s1.e1]; omega) (by omega) (fun i _ _ => s1.eE i), b]
      · rw [if_neg q, List.append_nil, ctn_nil (by omega), ctn_nil (by rw [s1.e1, s1.e0]; omega)]
  | po2 _ p i w b a =>
    have hB : Bl s.cs own = own.b + 1 := Bl_lo (lo2 k p)
    rw [hB] at g3 g4 g5
    refine ⟨_, _, by rw [req2 hb0 p]; exact ld_ok (d (by omega) (by omega)), ?_⟩
    by_cases q : own.b < gt s.cs 0
    · rw [show own.after (gt s.cs 0) = { own with t := gt s.cs 0, i := 1, pc := 11 } from by simp only [DOp.after, DOp.popped, k, p, if_true]; rw [if_neg (by decide), if_neg (by decide), if_neg (by decide), if_neg (by decide), if_pos q]]
      have hB' : Bl s.cs { own with t := gt s.cs 0, i := 1, pc := 11 } = own.b + 1 := Bl_lo (lo11 (o := { own with t := gt s.cs 0, i := 1, pc := 11 }) k rfl rfl)
      refine own_read g nn rfl (by rw [hB, hB']; exact Int.le_refl _) (by rw [hB']; exact g3) (fun v => ?_) (by rw [hn]; exact hn' k) (.pe k rfl rfl w b (by dsimp only; omega) (by dsimp only; omega)) (by simp) ?_ (by omega)
      · rcases v with v | ⟨v, _⟩ <;> omega
      · have h1 : hand s.cs { own with t := gt s.cs 0, i := 1, pc := 11 } = if own.won = true then [own.x] else [] := hand11 k rfl rfl
        rw [h1, w, hand2 k (.inl p), if_neg (show ¬ gt s.cs 0 ≤ own.b by omega)]; rfl
    · rw [show own.after (gt s.cs 0) = { own with t := gt s.cs 0, i := 1, pc := 4 } from by simp only [DOp.after, DOp.popped, k, p, if_true]; rw [if_neg (by decide), if_neg (by decide), if_neg (by decide), if_neg (by decide), if_neg q]]
      have hh : hand s.cs { own with t := gt s.cs 0, i := 1, pc := 4 } = hand s.cs own := by
        have h1 : hand s.cs { own with t := gt s.cs 0, i := 1, pc := 4 } = if gt s.cs 0 ≤ own.b then [cE s.cs own.b] else [] := hand2 k (.inr (.inl rfl))
        rw [h1, hand2 k (.inl p)]
      by_cases r : gt s.cs 0 = own.b
      · have hl : lowered { own with t := gt s.cs 0, i := 1, pc := 4 } := lo4 k (.inl rfl) r
        have hB' : Bl s.cs { own with t := gt s.cs 0, i := 1, pc := 4 } = own.b + 1 := Bl_lo hl
        exact own_read g nn rfl (by rw [hB, hB']; exact Int.le_refl _) (by rw [hB']; exact g3) (fun v => .inr ⟨by omega, hl, r.symm, by simp⟩) (by rw [hn]; exact hn' k) (.po4 k rfl rfl w b a g2 (Int.le_refl _) (by dsimp only; omega)) (by simp) hh (by omega)
      · have hB' : Bl s.cs { own with t := gt s.cs 0, i := 1, pc := 4 } = gt s.cs 1 := Bl_up (lo4n (.inl rfl) r)
        exact own_read g nn rfl (by rw [hB, hB']; omega) (by rw [hB']; omega) (fun v => .inl (by omega)) (by rw [hn]; exact hn' k) (.po4 k rfl rfl w b a g2 (Int.le_refl _) (by dsimp only; omega)) (by simp) hh (by omega)
  | po4 _ p i w b a t0 t tb =>
    refine ⟨_, _, by rw [req4 hb0 p, a]; exact ld_ok (d (by omega) (by omega)), ?_⟩
    rw [show own.after (gt s.cs (cA s.cs)) = { own with c := cC s.cs, pc := 12 } from by simp only [DOp.after, DOp.popped, k, p, if_true]; rw [if_neg (by decide), if_neg (by decide), if_neg (by decide), if_neg (by decide), if_neg (by decide), if_neg (show ¬ gt s.cs (cA s.cs) < 1 from (show ¬ cC s.cs < 1 by omega))]]
    have hB' : Bl s.cs { own with c := cC s.cs, pc := 12 } = Bl s.cs own := by
      by_cases e : own.t = own.b
      · rw [Bl_lo (lo4 k (.inl p) e)]; exact Bl_lo (lo4 (o := { own with c := cC s.cs, pc := 12 }) k (.inr (.inl rfl)) e)
      · rw [Bl_up (lo4n (.inl p) e)]; exact Bl_up (lo4n (o := { own with c := cC s.cs, pc := 12 }) (.inr (.inl rfl)) e)
    refine own_read g nn rfl (by rw [hB']; exact Int.le_refl _) (by rw [hB']; exact g3) (fun v => ?_) (by rw [hn]; exact hn' k) (.po12 k rfl i w b a t0 t tb rfl) (by simp) ?_ (by omega)
    · rcases v with v | ⟨v1, v2, v3, v4⟩
      · exact .inl v
      · refine .inr ⟨v1, lo4 k (.inr (.inl rfl)) ?_, v3, by simp⟩
        show own.t = own.b
        exact Classical.byContradiction fun e => lo4n (.inl p) e v2
    · exact (hand2 (o := { own with c := cC s.cs, pc := 12 }) k (.inr (.inr (.inl rfl)))).trans (hand2 k (.inr (.inl p))).symm
  | po12 _ p i w b a t0 t tb c =>
    have hpl : placeD own.a own.c own.b = pl (cA s.cs) (cC s.cs) own.b := by rw [a, c]; exact placeD_pl (by omega) (by omega) (by omega) (by omega) (by omega)
    have hr := pl_range (a := cA s.cs) (i := own.b) g8
    refine ⟨_, _, by rw [req12 hb0 p, if_pos k, hpl]; exact ld_ok (d (by omega) (by omega)), ?_⟩
    have hTb : gt s.cs 0 ≤ own.b + 1 ∧ (own.t < own.b → gt s.cs 0 ≤ own.b) := by
      by_cases e : own.t = own.b
      · rw [Bl_lo (lo4 k (.inr (.inl p)) e)] at g3; omega
      · rw [Bl_up (lo4n (.inr (.inl p)) e)] at g3; omega
    by_cases q : own.t < own.b
    · rw [show own.after (gt s.cs (pl (cA s.cs) (cC s.cs) own.b)) = DOp.over { own with x := cE s.cs own.b, pc := 13 } 4 (cE s.cs own.b) from by simp only [DOp.after, DOp.popped, k, p, if_true]; rw [if_neg (by decide), if_neg (by decide), if_neg (by decide), if_neg (by decide), if_neg (by decide), if_neg (by decide), if_pos q]]
      have hB : Bl s.cs own = gt s.cs 1 := Bl_up (lo4n (.inr (.inl p)) (by omega))
      refine ⟨g.own (by rw [hB]; exact Bl_up (lowp (.inl rfl))) (by rw [hn]; exact hn' k) nn, .idle rfl, fun th h => h.own fun v => ?_, .got k rfl rfl rfl ?_ (handp (.inl rfl)) rfl (.inl ⟨q, p⟩), (if_neg (by omega)).symm, .inl (by rw [hB]; exact Int.le_of_eq (Bl_up (lowp (.inl rfl))))⟩
      · rcases v with v | ⟨_, v, _⟩
        · exact .inl v
        · exact absurd v (lo4n (.inr (.inl p)) (by omega))
      · rw [hand2 k (.inr (.inr (.inl p))), if_pos (hTb.2 q)]; rfl
    · rw [show own.after (gt s.cs (pl (cA s.cs) (cC s.cs) own.b)) = { own with x := cE s.cs own.b, pc := 13 } from by simp only [DOp.after, DOp.popped, k, p, if_true]; rw [if_neg (by decide), if_neg (by decide), if_neg (by decide), if_neg (by decide), if_neg (by decide), if_neg (by decide), if_neg q]]
      have e : own.t = own.b := by omega
      have hB : Bl s.cs own = own.b + 1 := Bl_lo (lo4 k (.inr (.inl p)) e)
      have hl : lowered { own with x := cE s.cs own.b, pc := 13 } := lo4 k (.inr (.inr rfl)) e
      have hB' : Bl s.cs { own with x := cE s.cs own.b, pc := 13 } = own.b + 1 := Bl_lo hl
      refine own_read g nn rfl (by rw [hB, hB']; exact Int.le_refl _) (by rw [hB']; exact hTb.1) (fun v => ?_) (by rw [hn]; exact hn' k) (.po13 k rfl i w b t0 t e rfl) (by simp) ?_ (by omega)
      · rcases v with v | ⟨v1, v2, v3, v4⟩
        · exact .inl v
        · exact .inr ⟨v1, hl, v3, by simp⟩
      · exact (hand2 (o := { own with x := cE s.cs own.b, pc := 13 }) k (.inr (.inr (.inr rfl)))).trans (hand2 k (.inr (.inr (.inl p)))).symm
  | po13 _ p i w b t0 t tb x =>
    have hB : Bl s.cs own = own.b + 1 := Bl_lo (lo4 k (.inr (.inr p)) tb)
    rw [hB] at g3 g4 g5
    have wt : w64 (own.t + 1) = own.t + 1 := by rw [w64_of] <;> omega
    by_cases q : gt s.cs 0 = own.t
    · refine ⟨_, _, by rw [req13 hb0 p, wt]; exact cas_ok (d (by omega) (by omega)) q, ?_⟩
      rw [show own.after 1 = { own with won := true, pc := 11 } from by simp [DOp.after, DOp.popped, k, p]]
      have far : ∀ y, 0 ≤ y → y ≠ 0 → gt (s.cs.set (0 : Int).toNat (own.t + 1)) y = gt s.cs y := fun y h0 hx => gt_set_ne (by omega) h0 hx
      have e0 : gt (s.cs.set (0 : Int).toNat (own.t + 1)) 0 = own.t + 1 := by rw [gt_set (by omega) (by omega) (by omega), if_pos rfl]
      have e1 := far 1 (by omega) (by omega)
      have eA : cA (s.cs.set (0 : Int).toNat (own.t + 1)) = cA s.cs := far 2 (by omega) (by omega)
      have eC : cC (s.cs.set (0 : Int).toNat (own.t + 1)) = cC s.cs := by show gt _ (cA _) = _; rw [eA]; exact far _ (by omega) (by omega)
      have hB' : Bl (s.cs.set (0 : Int).toNat (own.t + 1)) { own with won := true, pc := 11 } = own.b + 1 := Bl_lo (lo11 (o := { own with won := true, pc := 11 }) k rfl i)
      refine ⟨⟨g1, by show 0 ≤ gt (s.cs.set _ _) 0; rw [e0]; omega, by show gt (s.cs.set _ _) 0 ≤ Bl (s.cs.set _ _) _; rw [hB', e0]; omega, by show Bl (s.cs.set _ _) _ - gt (s.cs.set _ _) 0 ≤ cC (s.cs.set _ _); rw [hB', e0, eC]; omega, by show Bl (s.cs.set _ _) _ ≤ _; rw [hB']; omega, nn,
        by show 3 ≤ cA (s.cs.set _ _); rw [eA]; exact g7, by show 1 ≤ cC (s.cs.set _ _); rw [eC]; exact g8, by show cC (s.cs.set _ _) ≤ most; rw [eC]; exact g9, by show ((s.cs.set _ _).length : Int) = cA (s.cs.set _ _) + cC (s.cs.set _ _) + 1 + newer _; rw [eA, eC, List.length_set, hn' (o := { own with won := true, pc := 11 }) k]; exact g10, g11, by show ((s.cs.set _ _).length : Int) ≤ sz; rw [List.length_set]; exact g12,
        by show ∃ k : Nat, most - cC (s.cs.set _ _) ≤ (k : Int) ∧ cellsGo most k (cA (s.cs.set _ _) + cC (s.cs.set _ _) + 1) (cC (s.cs.set _ _)) = sz; rw [eA, eC]; exact g13⟩,
        .pf k rfl i (by show own.b = gt (s.cs.set _ _) 1; rw [e1]; exact b) tb (by show gt (s.cs.set _ _) 0 = own.b + 1; rw [e0]; omega), fun th h => h.bump (by show gt (s.cs.set _ _) 0 = _; rw [e0]; omega) (fun y hb => ?_), .won k (by simp) ?_ ?_ (by show gt (s.cs.set _ _) 0 = _; rw [e0]; omega), by show cC (s.cs.set _ _) = _; rw [eC, if_neg (by omega)], .inl (by rw [hB]; exact Int.le_of_eq hB')⟩
      · obtain ⟨b1, b2, b3, b4⟩ := hb
        have ey : gt (s.cs.set (0 : Int).toNat (own.t + 1)) y = gt s.cs y := far y (by omega) (by omega)
        exact ⟨⟨b1, by show 1 ≤ gt (s.cs.set _ _) y; rw [ey]; exact b2, by show gt (s.cs.set _ _) y ≤ 4096; rw [ey]; exact b3, by show y = cA (s.cs.set _ _) ∨ y + gt (s.cs.set _ _) y + 1 ≤ cA (s.cs.set _ _); rw [ey, eA]; exact b4⟩, ey⟩
      · show ctn (s.cs.set _ _) = ctn s.cs
        rw [ctn_nil (cs := s.cs) (by omega), ctn_nil (by rw [e1, e0]; omega)]
      · have h1 : hand (s.cs.set (0 : Int).toNat (own.t + 1)) { own with won := true, pc := 11 } = if true = true then [own.x] else [] := hand11 k rfl i
        show hand (s.cs.set _ _) _ = _
        rw [h1, if_pos rfl, hand2 k (.inr (.inr (.inr p))), if_pos (by omega), x]
    · refine ⟨_, _, by rw [req13 hb0 p, wt]; exact cas_no (d (by omega) (by omega)) q, ?_⟩
      rw [show own.after 0 = { own with won := false, pc := 11 } from by simp [DOp.after, DOp.popped, k, p]]
      have hB' : Bl s.cs { own with won := false, pc := 11 } = own.b + 1 := Bl_lo (lo11 (o := { own with won := false, pc := 11 }) k rfl i)
      refine own_read g nn rfl (by rw [hB, hB']; exact Int.le_refl _) (by rw [hB']; exact g3) (fun v => ?_) (by rw [hn]; exact hn' k) (.pf k rfl i b tb (by dsimp only; omega)) (by simp) ?_ (by omega)
      · rcases v with v | ⟨v, _⟩ <;> omega
      · have h1 : hand s.cs { own with won := false, pc := 11 } = if false = true then [own.x] else [] := hand11 k rfl i
        rw [h1, hand2 k (.inr (.inr (.inr p))), if_neg (show ¬ gt s.cs 0 ≤ own.b by omega)]; rfl
  | pe _ p i w b t tt =>
    have hB : Bl s.cs own = own.b + 1 := Bl_lo (lo11 k p i)
    rw [hB] at g3 g4 g5
    have hnx : own.next = own.t := by unfold DOp.next; rw [if_neg (by omega), if_neg (by omega), if_pos (by omega)]
    refine ⟨_, _, by rw [req11 hb0 p, hnx]; exact st_ok (s := s) (a := 1) (d (by omega) (by omega)), ?_⟩
    rw [show own.after 0 = own.over 5 0 from by simp [DOp.after, DOp.popped, k, p, i, w]]
    have s1 := set1 g (d (x := 1) (by omega) (by omega)).2 own.t
    have hB' : Bl (s.cs.set (1 : Int).toNat own.t) (own.over 5 0) = own.t := (Bl_up (lowp (.inl rfl))).trans s1.e1
    refine ⟨s1.dg g hn (hn' k) nn (by rw [hB']; omega) (by rw [hB', hB]; omega), .idle rfl, fun th h => s1.th h fun v => ?_, .empty k rfl rfl rfl ?_ ?_ (handp (.inl rfl)) s1.e0 (.inl t) p i, s1.eC.trans (if_neg (by omega)).symm, .inl (by rw [hB]; exact Int.le_trans (Int.le_of_eq hB') (by omega))⟩
    · rcases v with v | ⟨v, _⟩ <;> omega
    · show ctn (s.cs.set _ _) = _
      rw [ctn_nil (cs := s.cs) (by omega), ctn_nil (by rw [s1.e0, s1.e1]; omega)]
    · rw [hand11 k p i, w]; rfl
  | pf _ p i b t tt =>
    have hB : Bl s.cs own = own.b + 1 := Bl_lo (lo11 k p i)
    rw [hB] at g3 g4 g5
    have wt : w64 (own.t + 1) = own.b + 1 := by rw [t, w64_of] <;> omega
    have hnx : own.next = own.b + 1 := by unfold DOp.next; rw [if_neg (by omega), if_neg (by omega), if_neg (by omega), wt]
    refine ⟨_, _, by rw [req11 hb0 p, hnx]; exact st_ok (s := s) (a := 1) (d (by omega) (by omega)), ?_⟩
    have s1 := set1 g (d (x := 1) (by omega) (by omega)).2 (own.b + 1)
    have hc : ctn (s.cs.set (1 : Int).toNat (own.b + 1)) = ctn s.cs := by rw [ctn_nil (cs := s.cs) (by omega), ctn_nil (by rw [s1.e0, s1.e1]; omega)]
    cases w : own.won with
    | true =>
      rw [show own.after 0 = own.over 4 own.x from by simp [DOp.after, DOp.popped, k, p, i, w]]
      have hB' : Bl (s.cs.set (1 : Int).toNat (own.b + 1)) (own.over 4 own.x) = own.b + 1 := (Bl_up (lowp (.inl rfl))).trans s1.e1
      refine ⟨s1.dg g hn (hn' k) nn (by rw [hB']; omega) (by rw [hB', hB]; omega), .idle rfl, fun th h => s1.th h fun v => ?_, .got k rfl rfl hc ?_ (handp (.inl rfl)) s1.e0 (.inr ⟨t, p, i, w⟩), s1.eC.trans (if_neg (by omega)).symm, .inl (by rw [hB]; exact Int.le_of_eq hB')⟩
      · rcases v with v | ⟨v, _⟩ <;> omega
      · rw [hand11 k p i, w]; rfl
    | false =>
      rw [show own.after 0 = own.over 5 0 from by simp [DOp.after, DOp.popped, k, p, i, w]]
      have hB' : Bl (s.cs.set (1 : Int).toNat (own.b + 1)) (own.over 5 0) = own.b + 1 := (Bl_up (lowp (.inl rfl))).trans s1.e1
      refine ⟨s1.dg g hn (hn' k) nn (by rw [hB']; omega) (by rw [hB', hB]; omega), .idle rfl, fun th h => s1.th h fun v => ?_, .empty k rfl rfl rfl hc ?_ (handp (.inl rfl)) s1.e0 (.inr ⟨t, w⟩) p i, s1.eC.trans (if_neg (by omega)).symm, .inl (by rw [hB]; exact Int.le_of_eq hB')⟩
      · rcases v with v | ⟨v, _⟩ <;> omega
      · rw [hand11 k p i, w]; rfl

end Go.Mx

namespace Go.Mx

structure Set0 (cs cs' : List Int) (x : Int) : Prop where
  e0 : gt cs' 0 = x
  far : ∀ y, 0 ≤ y → y ≠ 0 → gt cs' y = gt cs y
  eA : cA cs' = cA cs
  eC : cC cs' = cC cs
  eE : ∀ j, cE cs' j = cE cs j
  bf : ∀ a, Buf cs a → Buf cs' a ∧ gt cs' a = gt cs a
  len : cs'.length = cs.length
theorem set0 {most sz N : Int} {cs : List Int} {own : DOp} (g : DG most sz N cs own) (hl : (0 : Int) < (cs.length : Int)) (x : Int) : Set0 cs (cs.set (0 : Int).toNat x) x := by
  have far : ∀ y, 0 ≤ y → y ≠ 0 → gt (cs.set (0 : Int).toNat x) y = gt cs y := fun y h0 hx => gt_set_ne (by omega) h0 hx
  have a3 := g.a3
  have c1 := g.c1
  have eA : cA (cs.set (0 : Int).toNat x) = cA cs := far 2 (by omega) (by omega)
  have eC : cC (cs.set (0 : Int).toNat x) = cC cs := by show gt _ (cA _) = _; rw [eA]; exact far _ (by omega) (by omega)
  refine ⟨by rw [gt_set (by omega) hl (by omega), if_pos rfl], far, eA, eC, fun j => ?_, fun a hb => ?_, List.length_set⟩
  · show gt _ (pl (cA _) (cC _) j) = _
    have := pl_range (a := cA cs) (i := j) c1
    rw [eA, eC]
    exact far _ (by omega) (by omega)
  · obtain ⟨b1, b2, b3, b4⟩ := hb
    have ey : gt (cs.set (0 : Int).toNat x) a = gt cs a := far a (by omega) (by omega)
    exact ⟨⟨b1, by rw [ey]; exact b2, by rw [ey]; exact b3, by rw [ey, eA]; exact b4⟩, ey⟩

theorem OwnS.low {most : Int} {cs : List Int} {o : DOp} (h : OwnS most cs o) (l : lowered o) : o.b = gt cs 1 ∧ (o.pc = 11 → gt cs 0 = o.b + 1) := by
  obtain ⟨k, l⟩ := l
  cases h with
  | idle p => omega
  | pu1 k' | pu2 k' | pu3 k' | pu4 k' | pu5 k' | pu6 k' | pu7 k' | pu8 k' | pu9 k' | pu10 k' | pu11 k' => omega
  | po1 _ p i | po3 _ p i | po11 _ p i => omega
  | po2 _ p i w b | po4 _ p i w b | po12 _ p i w b | po13 _ p i w b => exact ⟨b, fun q => by omega⟩
  | pe _ p i w b t tt => exact ⟨b, fun _ => tt⟩
  | pf _ p i b t tt => exact ⟨b, fun _ => tt⟩

theorem OwnS.bump {most sz N : Int} {cs cs' : List Int} {o : DOp} (h : OwnS most cs o) (g : DG most sz N cs o) (s : Set0 cs cs' (gt cs 0 + 1)) (av : Av cs o (gt cs 0)) : OwnS most cs' o := by
  obtain ⟨e0, far, eA, eC, eE, bf, len⟩ := s
  have e1 : gt cs' 1 = gt cs 1 := far 1 (by omega) (by omega)
  have g7 := g.a3
  have g8 := g.c1
  have g9 := g.cm
  have hc2 : ∀ {c2 : Int}, (c2 = if most < 2 * cC cs then most else 2 * cC cs) → 1 ≤ c2 := fun {c2} h => by rw [h]; split <;> omega
  cases h with
  | idle p => exact .idle p
  | pu1 k p => exact .pu1 k p
  | pu2 k p b => exact .pu2 k p (b.trans e1.symm)
  | pu3 k p b t0 t f => exact .pu3 k p (b.trans e1.symm) t0 (by omega) (by rw [eC]; exact f)
  | pu4 k p b t0 t f a => exact .pu4 k p (b.trans e1.symm) t0 (by omega) (by rw [eC]; exact f) (a.trans eA.symm)
  | pu5 k p b t0 t f a c lt c2 => exact .pu5 k p (b.trans e1.symm) t0 (by omega) (by rw [eC]; exact f) (a.trans eA.symm) (c.trans eC.symm) (by rw [eC]; exact lt) (by rw [eC]; exact c2)
  | pu6 k p b t0 t f a c lt c2 a2 => exact .pu6 k p (b.trans e1.symm) t0 (by omega) (by rw [eC]; exact f) (a.trans eA.symm) (c.trans eC.symm) (by rw [eC]; exact lt) (by rw [eC]; exact c2) (by rw [eA, eC]; exact a2)
  | pu7 k p b t0 t f a c lt c2 a2 hd i1 i2 cp =>
    refine .pu7 k p (b.trans e1.symm) t0 (by omega) (by rw [eC]; exact f) (a.trans eA.symm) (c.trans eC.symm) (by rw [eC]; exact lt) (by rw [eC]; exact c2) (by rw [eA, eC]; exact a2) (by rw [far _ (by omega) (by omega)]; exact hd) i1 i2 fun j h1 h2 => ?_
    have := pl_range (a := o.a2) (i := j) (hc2 c2)
    rw [eE, far _ (by omega) (by omega)]; exact cp j h1 h2
  | pu8 k p b t0 t f a c lt c2 a2 hd i1 i2 cp x =>
    refine .pu8 k p (b.trans e1.symm) t0 (by omega) (by rw [eC]; exact f) (a.trans eA.symm) (c.trans eC.symm) (by rw [eC]; exact lt) (by rw [eC]; exact c2) (by rw [eA, eC]; exact a2) (by rw [far _ (by omega) (by omega)]; exact hd) i1 i2 (fun j h1 h2 => ?_) (x.trans (eE _).symm)
    have := pl_range (a := o.a2) (i := j) (hc2 c2)
    rw [eE, far _ (by omega) (by omega)]; exact cp j h1 h2
  | pu9 k p b t0 t f a c lt c2 a2 hd cp =>
    refine .pu9 k p (b.trans e1.symm) t0 (by omega) (by rw [eC]; exact f) (a.trans eA.symm) (c.trans eC.symm) (by rw [eC]; exact lt) (by rw [eC]; exact c2) (by rw [eA, eC]; exact a2) (by rw [far _ (by omega) (by omega)]; exact hd) fun j h1 h2 => ?_
    have := pl_range (a := o.a2) (i := j) (hc2 c2)
    rw [eE, far _ (by omega) (by omega)]; exact cp j h1 h2
  | pu10 k p b t0 t f a c => exact .pu10 k p (b.trans e1.symm) t0 (by omega) (by rw [eC]; exact f) (a.trans eA.symm) (c.trans eC.symm)
  | pu11 k p b t0 t f a c e => exact .pu11 k p (b.trans e1.symm) t0 (by omega) (by rw [eC]; exact f) (a.trans eA.symm) (c.trans eC.symm) ((eE _).trans e)
  | po1 k p i w => exact .po1 k p i w
  | po3 k p i w b => exact .po3 k p i w (by omega)
  | po11 k p i w b a => exact .po11 k p i w (by omega) (a.trans eA.symm)
  | po2 k p i w b a => exact .po2 k p i w (b.trans e1.symm) (a.trans eA.symm)
  | po4 k p i w b a t0 t tb => exact .po4 k p i w (b.trans e1.symm) (a.trans eA.symm) t0 (by omega) tb
  | po12 k p i w b a t0 t tb c => exact .po12 k p i w (b.trans e1.symm) (a.trans eA.symm) t0 (by omega) tb (c.trans eC.symm)
  | po13 k p i w b t0 t tb x => exact .po13 k p i w (b.trans e1.symm) t0 (by omega) tb (x.trans (eE _).symm)
  | pe k p i w b t tt => rcases av with v | ⟨v, _⟩ <;> omega
  | pf k p i b t tt => rcases av with v | ⟨v, _⟩ <;> omega

inductive TEff (cs : List Int) (own th : DOp) (cs' : List Int) (th' : DOp) : Prop
  | same (p : th'.pc ≠ 0) (c : cs' = cs)
  | empty (k : th.kind = 3) (p : th'.pc = 0) (co : th'.code = 5) (va : th'.value = 0) (c : cs' = cs) (b : gt cs 1 ≤ th.t) (t : th.t ≤ gt cs 0)
  | lost (k : th.kind = 3) (p : th'.pc = 0) (co : th'.code = 6) (va : th'.value = 0) (c : cs' = cs) (t : th.t < gt cs 0)
  | got (k : th.kind = 3) (p : th'.pc = 0) (co : th'.code = 4) (va : th'.value = cE cs (gt cs 0)) (t : th.t = gt cs 0) (t' : gt cs' 0 = gt cs 0 + 1) (b' : gt cs' 1 = gt cs 1)
      (c : (ctn cs = th'.value :: ctn cs' ∧ hand cs' own = hand cs own) ∨ (ctn cs = [] ∧ ctn cs' = [] ∧ hand cs own = [th'.value] ∧ hand cs' own = []))
  | look (k : th.kind = 4) (p : th'.pc = 0) (co : th'.code = 7 ∨ th'.code = 8) (va : th'.value = 0) (c : cs' = cs) (h : th'.code = 7 ↔ th.t < gt cs 1) (t : th.t ≤ gt cs 0)
structure ThR (most sz N : Int) (s : AS) (own th : DOp) (s' : AS) (th' : DOp) : Prop where
  dg : DG most sz N s'.cs own
  os : OwnS most s'.cs own
  me : ThS s'.cs own th'
  ths : ∀ th2, ThS s.cs own th2 → ThS s'.cs own th2
  eff : TEff s.cs own th s'.cs th'
  cc : cC s'.cs = cC s.cs
  bl : Bl s'.cs own = Bl s.cs own

theorem hand_set0 {cs cs' : List Int} {own : DOp} (s : Set0 cs cs' (gt cs 0 + 1)) (h : own.kind = 2 ∧ (own.pc = 2 ∨ own.pc = 4 ∨ own.pc = 12 ∨ own.pc = 13) → own.b ≠ gt cs 0) : hand cs' own = hand cs own := by
  unfold hand
  rw [s.e0, s.eE]
  by_cases q : own.kind = 2 ∧ (own.pc = 2 ∨ own.pc = 4 ∨ own.pc = 12 ∨ own.pc = 13)
  · rw [if_pos q, if_pos q]
    have := h q
    by_cases r : gt cs 0 ≤ own.b
    · rw [if_pos r, if_pos (by omega)]
    · rw [if_neg r, if_neg (by omega)]
  · rw [if_neg q, if_neg q]

theorem th_step {most sz N : Int} {s : AS} {own th : DOp} (g : DG most sz N s.cs own) (hnw : 0 ≤ newer own) (hm : Mach most th) (ho : OwnS most s.cs own) (ht : ThS s.cs own th) (pp : th.pc ≠ 0) :
    ∃ v s', arenaI s th.req = (some v, s') ∧ ThR most sz N s own th s' (th.after v) := by
  obtain ⟨hb0, hmo⟩ := hm pp
  have g' := g
  obtain ⟨g1, g2, g3, g4, g5, g6, g7, g8, g9, g10, g11, g12, g13⟩ := g'
  have d := fun {x : Int} => g.dep (x := x) hnw
  have rd : ∀ {s' : AS} {o' : DOp}, s'.cs = s.cs → ThS s.cs own o' → TEff s.cs own th s.cs o' → ThR most sz N s own th s' o' := fun {s' o'} hc h1 h2 => ⟨by rw [hc]; exact g, by rw [hc]; exact ho, by rw [hc]; exact h1, fun t2 h => by rw [hc]; exact h, by rw [hc]; exact h2, by rw [hc], by rw [hc]⟩
  cases ht with
  | idle p => exact absurd p pp
  | st2 k p =>
    refine ⟨_, _, by rw [req2 hb0 p]; exact ld_ok (d (by omega) (by omega)), ?_⟩
    rw [show th.after (gt s.cs 0) = { th with t := gt s.cs 0, pc := 1 } from by simp [DOp.after, DOp.stolen, k, p]]
    exact rd rfl (.st1 k rfl g2 (Int.le_refl _)) (.same (by simp) rfl)
  | st1 k p t0 t =>
    refine ⟨_, _, by rw [req1 hb0 p]; exact ld_ok (d (by omega) (by omega)), ?_⟩
    by_cases q : gt s.cs 1 ≤ th.t
    · rw [show th.after (gt s.cs 1) = DOp.over { th with b := gt s.cs 1, pc := 3 } 5 0 from by simp only [DOp.after, DOp.stolen, k, p, if_true]; rw [if_neg (by decide), if_neg (by decide), if_neg (by decide), if_pos q]]
      exact rd rfl (.idle rfl) (.empty k rfl rfl rfl rfl q t)
    · rw [show th.after (gt s.cs 1) = { th with b := gt s.cs 1, pc := 3 } from by simp only [DOp.after, DOp.stolen, k, p, if_true]; rw [if_neg (by decide), if_neg (by decide), if_neg (by decide), if_neg q]]
      exact rd rfl (.st3 k rfl t0 t fun _ => .inl (by dsimp only; omega)) (.same (by simp) rfl)
  | st3 k p t0 t av =>
    refine ⟨_, _, by rw [req3 hb0 p]; exact ld_ok (d (by omega) (by omega)), ?_⟩
    rw [show th.after (gt s.cs 2) = { th with a := gt s.cs 2, pc := 4 } from by simp [DOp.after, DOp.stolen, k, p]]
    exact rd rfl (.st4 k rfl t0 t av ⟨g7, g8, (show cC s.cs ≤ 4096 by omega), .inl rfl⟩ (fun _ => rfl)) (.same (by simp) rfl)
  | st4 k p t0 t av bf e =>
    have hr := bf.room g7 g8
    have bf' := bf
    obtain ⟨b1, b2, b3, b4⟩ := bf'
    refine ⟨_, _, by rw [req4 hb0 p]; exact ld_ok (d (by omega) (by omega)), ?_⟩
    rw [show th.after (gt s.cs th.a) = { th with c := gt s.cs th.a, pc := 12 } from by simp only [DOp.after, DOp.stolen, k, p, if_true]; rw [if_neg (by decide), if_neg (by decide), if_neg (by decide), if_neg (by decide), if_neg (by decide), if_neg (show ¬ gt s.cs th.a < 1 by omega)]]
    exact rd rfl (.st12 k rfl t0 t av bf rfl e) (.same (by simp) rfl)
  | st12 k p t0 t av bf c e =>
    have hr := bf.room g7 g8
    have bf' := bf
    obtain ⟨b1, b2, b3, b4⟩ := bf'
    have hpl : placeD th.a th.c th.t = pl th.a (gt s.cs th.a) th.t := by rw [c]; exact placeD_pl (by omega) (by omega) (by omega) (by omega) (by omega)
    have hrr := pl_range (a := th.a) (i := th.t) b2
    refine ⟨_, _, by rw [req12 hb0 p, if_neg (by omega), hpl]; exact ld_ok (d (by omega) (by omega)), ?_⟩
    rw [show th.after (gt s.cs (pl th.a (gt s.cs th.a) th.t)) = { th with x := gt s.cs (pl th.a (gt s.cs th.a) th.t), pc := 13 } from by simp [DOp.after, DOp.stolen, k, p]]
    exact rd rfl (.st13 k rfl t0 t av e) (.same (by simp) rfl)
  | st13 k p t0 t av x =>
    have wt : w64 (th.t + 1) = th.t + 1 := by
      have := g.bn
      rw [w64_of] <;> omega
    by_cases q : gt s.cs 0 = th.t
    · refine ⟨_, _, by rw [req13 hb0 p, wt]; exact cas_ok (d (by omega) (by omega)) q, ?_⟩
      rw [show th.after 1 = th.over 4 th.x from by simp [DOp.after, DOp.stolen, k, p]]
      have av := av q.symm
      rw [← q] at av
      have x := x q.symm
      rw [← q] at x
      have s0 := set0 g (d (x := 0) (by omega) (by omega)).2 (gt s.cs 0 + 1)
      rw [← q]
      have hBl : Bl (s.cs.set (0 : Int).toNat (gt s.cs 0 + 1)) own = Bl s.cs own := by
        unfold Bl
        rw [s0.far 1 (by omega) (by omega)]
      have hT : gt s.cs 0 + 1 ≤ Bl s.cs own := by
        by_cases l : lowered own
        · rw [Bl_lo l]
          have := ho.low l
          rcases av with v | ⟨v, _⟩ <;> omega
        · rw [Bl_up l]
          rcases av with v | ⟨_, v, _⟩
          · omega
          · exact absurd v l
      have e1 := s0.far 1 (by omega) (by omega)
      refine ⟨⟨g1, by show 0 ≤ gt (s.cs.set _ _) 0; rw [s0.e0]; omega, by show gt (s.cs.set _ _) 0 ≤ Bl (s.cs.set _ _) _; rw [hBl, s0.e0]; exact hT, by show Bl (s.cs.set _ _) _ - gt (s.cs.set _ _) 0 ≤ cC (s.cs.set _ _); rw [hBl, s0.e0, s0.eC]; omega, by show Bl (s.cs.set _ _) _ ≤ _; rw [hBl]; exact g5, g6,
        by show 3 ≤ cA (s.cs.set _ _); rw [s0.eA]; exact g7, by show 1 ≤ cC (s.cs.set _ _); rw [s0.eC]; exact g8, by show cC (s.cs.set _ _) ≤ most; rw [s0.eC]; exact g9, by show ((s.cs.set _ _).length : Int) = cA (s.cs.set _ _) + cC (s.cs.set _ _) + 1 + newer _; rw [s0.eA, s0.eC, s0.len]; exact g10, g11, by show ((s.cs.set _ _).length : Int) ≤ sz; rw [s0.len]; exact g12,
        by show ∃ k : Nat, most - cC (s.cs.set _ _) ≤ (k : Int) ∧ cellsGo most k (cA (s.cs.set _ _) + cC (s.cs.set _ _) + 1) (cC (s.cs.set _ _)) = sz; rw [s0.eA, s0.eC]; exact g13⟩,
        ho.bump g s0 av, .idle rfl, fun t2 h => h.bump s0.e0 s0.bf, .got k rfl rfl x q.symm s0.e0 e1 ?_, s0.eC, hBl⟩
      rcases av with v | ⟨v1, v2, v3, v4⟩
      · refine .inl ⟨?_, hand_set0 s0 fun q2 => ?_⟩
        · have := ctn_take (cs := s.cs) (cs' := s.cs.set (0 : Int).toNat (gt s.cs 0 + 1)) s0.e0 e1 v (fun i _ _ => s0.eE i)
          show ctn s.cs = th.x :: _
          rw [x]; exact this
        · by_cases l : lowered own
          · have := (ho.low l).1; omega
          · have : own.t < own.b := by
              cases ho with
              | idle p => omega
              | pu1 k' | pu2 k' | pu3 k' | pu4 k' | pu5 k' | pu6 k' | pu7 k' | pu8 k' | pu9 k' | pu10 k' | pu11 k' => omega
              | po1 _ p i | po3 _ p i | po11 _ p i => omega
              | po2 k' p => exact absurd (lo2 k' p) l
              | po4 k' p _ _ _ _ _ _ tb => exact Classical.byContradiction fun e => l (lo4 k' (.inl p) (by omega))
              | po12 k' p _ _ _ _ _ _ tb => exact Classical.byContradiction fun e => l (lo4 k' (.inr (.inl p)) (by omega))
              | po13 k' p _ _ _ _ _ tb => exact absurd (lo4 k' (.inr (.inr p)) tb) l
              | pe k' p i => exact absurd (lo11 k' p i) l
              | pf k' p i => exact absurd (lo11 k' p i) l
            cases ho with
            | idle p => omega
            | pu1 k' | pu2 k' | pu3 k' | pu4 k' | pu5 k' | pu6 k' | pu7 k' | pu8 k' | pu9 k' | pu10 k' | pu11 k' => omega
            | po1 _ p i | po3 _ p i | po11 _ p i => omega
            | po2 _ p _ _ b | po4 _ p _ _ b | po12 _ p _ _ b | po13 _ p _ _ b => omega
            | pe _ p _ _ b => omega
            | pf _ p _ b => omega
      · have hk := v2.1
        have hp : own.pc = 2 ∨ own.pc = 4 ∨ own.pc = 12 ∨ own.pc = 13 := by obtain ⟨_, l⟩ := v2; omega
        refine .inr ⟨ctn_nil (by omega), ctn_nil (by show gt (s.cs.set _ _) 1 ≤ gt (s.cs.set _ _) 0; rw [s0.e0, e1]; omega), ?_, ?_⟩
        · rw [hand2 hk hp, if_pos (by omega), v3]
          show _ = [th.x]
          rw [x]
        · show hand (s.cs.set _ _) own = []
          rw [hand2 hk hp, s0.e0, if_neg (by omega)]
    · refine ⟨_, _, by rw [req13 hb0 p, wt]; exact cas_no (d (by omega) (by omega)) q, ?_⟩
      rw [show th.after 0 = th.over 6 0 from by simp [DOp.after, DOp.stolen, k, p]]
      exact rd rfl (.idle rfl) (.lost k rfl rfl rfl rfl (by omega))
  | lk2 k p =>
    refine ⟨_, _, by rw [req2 hb0 p]; exact ld_ok (d (by omega) (by omega)), ?_⟩
    rw [show th.after (gt s.cs 0) = { th with t := gt s.cs 0, pc := 1 } from by simp [DOp.after, DOp.looked, k, p]]
    exact rd rfl (.lk1 k rfl g2 (Int.le_refl _)) (.same (by simp) rfl)
  | lk1 k p t0 t =>
    refine ⟨_, _, by rw [req1 hb0 p]; exact ld_ok (d (by omega) (by omega)), ?_⟩
    by_cases q : th.t < gt s.cs 1
    · rw [show th.after (gt s.cs 1) = th.over 7 0 from by simp only [DOp.after, DOp.looked, k, p, if_true]; rw [if_neg (by decide), if_neg (by decide), if_neg (by decide), if_neg (by decide), if_pos q]]
      exact rd rfl (.idle rfl) (.look k rfl (.inl rfl) rfl rfl ⟨fun _ => q, fun _ => rfl⟩ t)
    · rw [show th.after (gt s.cs 1) = th.over 8 0 from by simp only [DOp.after, DOp.looked, k, p, if_true]; rw [if_neg (by decide), if_neg (by decide), if_neg (by decide), if_neg (by decide), if_neg q]]
      exact rd rfl (.idle rfl) (.look k rfl (.inr rfl) rfl rfl ⟨fun h => absurd (show (8 : Int) = 7 from h) (by decide), fun h => absurd h q⟩ t)

theorem newer_nn {most : Int} {cs : List Int} {own : DOp} (h : OwnS most cs own) (c1 : 1 ≤ cC cs) (cm : cC cs ≤ most) : 0 ≤ newer own := by
  have hc2 : ∀ {c2 : Int}, (c2 = if most < 2 * cC cs then most else 2 * cC cs) → 0 ≤ 1 + c2 := fun {c2} h => by rw [h]; split <;> omega
  unfold newer
  split
  · rename_i q
    cases h with
    | idle p => omega
    | pu1 k p | pu2 k p | pu3 k p | pu4 k p | pu5 k p | pu10 k p | pu11 k p => omega
    | pu6 k p b t0 t f a c lt c2 => exact hc2 c2
    | pu7 k p b t0 t f a c lt c2 => exact hc2 c2
    | pu8 k p b t0 t f a c lt c2 => exact hc2 c2
    | pu9 k p b t0 t f a c lt c2 => exact hc2 c2
    | po1 k | po3 k | po11 k | po2 k | po4 k | po12 k | po13 k | pe k | pf k => omega
  · exact Int.le_refl _

end Go.Mx
