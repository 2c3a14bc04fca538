/-
  Orders of a history: ways to the end are orders; the reference's questions.
-/
import Derived.Test.YtanfmmcpjifgiaaMxHa
set_option linter.unusedVariables false
set_option linter.unusedSimpArgs false
namespace Go.Mx

theorem sound_at {cs : List Cl} (hH : HistN cs cs.length) {i : Nat} {c : Cl} (h : cs[i]? = some c) : (cEn c = -1 ↔ cCode c = 0) ∧ (cEn c ≠ -1 → cBg c ≤ cEn c) ∧ 0 ≤ cWho c ∧ cWho c ≤ 3 ∧ 0 ≤ cBg c :=
  sound_facts (hH i c (List.getElem?_eq_some_iff.1 h).1 h).1
theorem byL_has {cs : List Cl} (hH : HistN cs cs.length) {i : Nat} {c : Cl} (h : cs[i]? = some c) : ∃ w n : Nat, w < 4 ∧ cWho c = (w : Int) ∧ (byL cs w)[n]? = some i := by
  obtain ⟨_, _, h1, h2, _⟩ := sound_at hH h
  obtain ⟨w, hw⟩ : ∃ w : Nat, cWho c = (w : Int) := ⟨(cWho c).toNat, by omega⟩
  obtain ⟨n, hn⟩ := List.mem_iff_getElem?.1 (mem_byL.2 ⟨c, h, hw⟩)
  exact ⟨w, n, by omega, hw, hn⟩

def iL (is : List Nat) : List Int := is.map fun (i : Nat) => (i : Int)
theorem iL_at {is : List Nat} {j : Nat} {k : Int} : (iL is)[j]? = some k ↔ ∃ i, is[j]? = some i ∧ k = (i : Int) := by
  unfold iL
  rw [List.getElem?_map]
  cases is[j]? with
  | none => simp
  | some i => simp; exact eq_comm
theorem StepsTo.ext {cs : List Cl} {most : Int} {os os' : List Int} : ∀ {n : Nat} {xs : List Int}, StepsTo cs most os n xs → (∀ j, j < n → os'[j]? = os[j]?) → StepsTo cs most os' n xs
  | 0, xs, h, e => h
  | n + 1, xs, ⟨ys, k, c, a1, a2, a3, a4, a5, a6⟩, e => ⟨ys, k, c, a1.ext fun j hj => e j (by omega), by rw [e n (by omega)]; exact a2, a3, a4, fun j hj => by rw [e j (by omega)]; exact a5 j hj, a6⟩

structure Laid (cs : List Cl) (most : Int) (pre : List Nat) (t : Nat → Nat) (xs : List Int) : Prop where
  steps : StepsTo cs most (iL pre) pre.length xs
  mem : ∀ i, i ∈ pre ↔ ∃ w n, w < 4 ∧ n < t w ∧ (byL cs w)[n]? = some i
  pairs : PairsL cs (iL pre) pre.length
  late : ∀ j ∈ pre, ∀ a, cs[j]? = some a → ∀ w n i x, w < 4 → t w ≤ n → (byL cs w)[n]? = some i → cs[i]? = some x → ¬ (cCode x ≠ 0 ∧ cEn x < cBg a)

theorem Laid.step {cs : List Cl} (hH : HistN cs cs.length) {most : Int} {pre : List Nat} {t : Nat → Nat} {xs : List Int} {w i : Nat} {c : Cl} (h : Laid cs most pre t xs) (s : Sx cs most t xs w i c) : Laid cs most (pre ++ [i]) (bump t w) (doL xs c most).1 := by
  obtain ⟨s1, s2, s3, s4, s5⟩ := s
  have hni : i ∉ pre := fun hm => by
    obtain ⟨w', n, q1, q2, q3⟩ := (h.mem i).1 hm
    obtain ⟨e1, e2⟩ := byL_inj q3 s2
    subst e1
    omega
  have hl : (iL (pre ++ [i])).length = pre.length + 1 := by simp [iL]
  have hpre : ∀ j, j < pre.length → (iL (pre ++ [i]))[j]? = (iL pre)[j]? := fun j hj => by
    unfold iL
    rw [List.map_append, List.getElem?_append_left (by simpa using hj)]
  have hlast : (iL (pre ++ [i]))[pre.length]? = some (i : Int) := by
    unfold iL
    rw [List.map_append, List.getElem?_append_right (by simp)]
    simp
  have remain : ∀ {w' n : Nat}, bump t w w' ≤ n → t w' ≤ n := fun {w' n} hb => by
    by_cases e : w' = w
    · subst e; rw [bump_self] at hb; omega
    · rwa [bump_ne t e] at hb
  refine ⟨?_, fun j => ?_, ?_, fun j hj a ha w' n i' x q1 q2 q3 q4 q5 => ?_⟩
  · rw [List.length_append]
    refine ⟨xs, (i : Int), c, h.steps.ext hpre, hlast, Int.natCast_nonneg i, by rw [Int.toNat_natCast]; exact s3, fun j hj => ?_, ?_⟩
    · rw [hpre j hj]
      intro e
      obtain ⟨i', e1, e2⟩ := iL_at.1 e
      have : i' = i := by omega
      subst this
      exact hni (List.mem_of_getElem? e1)
    · rw [← s4]
  · rw [List.mem_append, h.mem j]
    constructor
    · rintro (⟨w', n, q1, q2, q3⟩ | hj)
      · refine ⟨w', n, q1, ?_, q3⟩
        by_cases e : w' = w
        · subst e; rw [bump_self]; omega
        · rw [bump_ne t e]; exact q2
      · obtain rfl : j = i := by simpa using hj
        exact ⟨w, t w, s1, by rw [bump_self]; omega, s2⟩
    · rintro ⟨w', n, q1, q2, q3⟩
      by_cases e : w' = w
      · subst e
        rw [bump_self] at q2
        by_cases e2 : n = t w'
        · subst e2
          rw [s2] at q3; cases q3
          exact .inr (by simp)
        · exact .inl ⟨w', n, q1, by omega, q3⟩
      · rw [bump_ne t e] at q2
        exact .inl ⟨w', n, q1, q2, q3⟩
  · intro p q kp kq a b hpq hq hkp hkq ha hb
    rw [List.length_append] at hq
    have hq : q < pre.length + 1 := hq
    by_cases e : q = pre.length
    · subst e
      rw [hlast] at hkq; cases hkq
      rw [hpre p hpq] at hkp
      obtain ⟨j, j1, j2⟩ := iL_at.1 hkp
      subst j2
      rw [Int.toNat_natCast] at ha hb
      rw [s3] at hb; cases hb
      intro hah
      obtain ⟨f1, f2, f3, f4, f5⟩ := sound_at hH s3
      have : cCode c ≠ 0 := fun e => by have := f1.2 e; have := hah.1; omega
      exact h.late j (List.mem_of_getElem? j1) a ha w (t w) i c s1 (Nat.le_refl _) s2 s3 ⟨this, hah.2⟩
    · rw [hpre p (by omega)] at hkp
      rw [hpre q (by omega)] at hkq
      exact h.pairs p q kp kq a b hpq (by omega) hkp hkq ha hb
  · rcases List.mem_append.1 hj with hj | hj
    · exact h.late j hj a ha w' n i' x q1 (remain q2) q3 q4 q5
    · obtain rfl : j = i := by simpa using hj
      rw [s3] at ha; cases ha
      exact s5 ⟨w', n, i', x, q1, remain q2, q3, q4, q5⟩
theorem Laid.nil (cs : List Cl) (most : Int) : Laid cs most [] z4 [] :=
  ⟨rfl, fun i => ⟨fun h => (by cases h), fun ⟨w, n, _, h, _⟩ => absurd h (Nat.not_lt_zero _)⟩, fun p q kp kq a b _ hq => absurd hq (Nat.not_lt_zero _), fun j hj => (by cases hj)⟩
theorem Way.laid {cs : List Cl} (hH : HistN cs cs.length) {most : Int} {is t xs} (h : Way cs most z4 [] is t xs) : Laid cs most is t xs :=
  h.inv (P := Laid cs most) (fun pre t xs w i c hp hs => hp.step hH hs) [] (.nil cs most)
theorem Way.legal {cs : List Cl} (hH : HistN cs cs.length) {most : Int} {is t xs} (h : Way cs most z4 [] is t xs) (hd : DoneS cs t) : LegalL cs most (iL is) := by
  have l := h.laid hH
  have hlen : (iL is).length = is.length := by simp [iL]
  refine ⟨⟨xs, by rw [hlen]; exact l.steps⟩, by rw [hlen]; exact l.pairs, fun i c hi hc hen => ?_⟩
  obtain ⟨w, n, hw, _, hn⟩ := byL_has hH hc
  obtain ⟨f1, _⟩ := sound_at hH hc
  have hcode : cCode c ≠ 0 := fun e => by have := f1.2 e; omega
  have hlt : n < t w := Nat.lt_of_not_le fun hle => hcode (hd w n i c hw hle hn hc)
  obtain ⟨p, hp⟩ := List.mem_iff_getElem?.1 ((l.mem i).2 ⟨w, n, hw, hlt, hn⟩)
  exact ⟨p, iL_at.2 ⟨i, hp, rfl⟩⟩

theorem legal_way {cs : List Cl} (hH : HistN cs cs.length) {most : Int} {os : List Int} (hL : LegalL cs most os) : ∃ is t xs, iL is = os ∧ Way cs most z4 [] is t xs ∧ DoneS cs t := by
  obtain ⟨⟨ys, hS⟩, hP, hE⟩ := hL
  have ended : ∀ {i : Nat} {x : Cl}, cs[i]? = some x → cCode x ≠ 0 → 0 ≤ cEn x ∧ ∃ p : Nat, os[p]? = some (i : Int) := fun {i x} hx hc => by
    obtain ⟨f1, f2, _, _, f5⟩ := sound_at hH hx
    have e1 : cEn x ≠ -1 := fun e => hc (f1.1 e)
    have e2 := f2 e1
    exact ⟨by omega, hE i x (List.getElem?_eq_some_iff.1 hx).1 hx (by omega)⟩
  have key : ∀ n, n ≤ os.length → ∃ is t xs, iL is = os.take n ∧ Way cs most z4 [] is t xs ∧ StepsTo cs most os n xs := by
    intro n
    induction n with
    | zero => intro _; exact ⟨[], z4, [], rfl, .nil _ _, rfl⟩
    | succ n ih =>
      intro hn
      obtain ⟨is, t, xs, e, hw, hs⟩ := ih (by omega)
      have l := hw.laid hH
      obtain ⟨zs, hz⟩ := hS.down hn
      have hz0 := hz
      obtain ⟨ys', k, c, a1, a2, a3, a4, a5, a6⟩ := hz
      obtain rfl := a1.det hs
      obtain ⟨i, rfl⟩ : ∃ i : Nat, k = (i : Int) := ⟨k.toNat, by omega⟩
      rw [Int.toNat_natCast] at a4
      have islen : is.length = n := by
        have := congrArg List.length e
        simp [iL] at this
        omega
      have taken : ∀ {p i' : Nat}, os[p]? = some (i' : Int) → p < n → i' ∈ is := fun {p i'} hp hpn => by
        have : (iL is)[p]? = some (i' : Int) := by rw [e, List.getElem?_take_of_lt hpn]; exact hp
        obtain ⟨j, j1, j2⟩ := iL_at.1 this
        have : j = i' := by omega
        subst this
        exact List.mem_of_getElem? j1
      have hnot : i ∉ is := fun hm => by
        obtain ⟨p, hp⟩ := List.mem_iff_getElem?.1 hm
        have hpn : p < n := by rw [← islen]; exact (List.getElem?_eq_some_iff.1 hp).1
        have : (os.take n)[p]? = some (i : Int) := by rw [← e]; exact iL_at.2 ⟨i, hp, rfl⟩
        rw [List.getElem?_take_of_lt hpn] at this
        exact a5 p hpn this
      obtain ⟨w, m, hw4, hwho, hm⟩ := byL_has hH a4
      -- a call that is not yet taken and has ended stands behind
      have behind : ∀ {w' n' i' : Nat} {x : Cl}, w' < 4 → t w' ≤ n' → (byL cs w')[n']? = some i' → cs[i']? = some x → cCode x ≠ 0 → i' ≠ i → ¬ Ahead x c := fun {w' n' i' x} q1 q2 q3 q4 q5 q6 => by
        obtain ⟨_, q, hq⟩ := ended q4 q5
        have hqn : ¬ q < n := fun hlt => by
          obtain ⟨w'', n'', r1, r2, r3⟩ := (l.mem i').1 (taken hq hlt)
          obtain ⟨e1, e2⟩ := byL_inj r3 q3
          subst e1; omega
        have hqe : q ≠ n := fun e' => by subst e'; rw [a2] at hq; cases hq; exact q6 rfl
        exact hP n q (i : Int) (i' : Int) c x (by omega) (List.getElem?_eq_some_iff.1 hq).1 a2 hq (by rw [Int.toNat_natCast]; exact a4) (by rw [Int.toNat_natCast]; exact q4)
      have hmt : m = t w := by
        rcases Nat.lt_trichotomy m (t w) with h | h | h
        · exact absurd ((l.mem i).2 ⟨w, m, hw4, h, hm⟩) hnot
        · exact h
        · obtain ⟨i0, hi0⟩ : ∃ i0, (byL cs w)[t w]? = some i0 := ⟨_, List.getElem?_eq_getElem (by have := (List.getElem?_eq_some_iff.1 hm).1; omega)⟩
          obtain ⟨x0, x1, x2⟩ := byL_at hi0
          have hlt := byL_lt hi0 hm h
          obtain ⟨g1, g2, g3⟩ := hist_ahead hH hlt x1 a4 (by omega)
          exact absurd g2 (behind hw4 (Nat.le_refl _) hi0 x1 g1 (by omega))
      subst hmt
      obtain ⟨f1, f2, _, _, f5⟩ := sound_at hH a4
      have sx : Sx cs most t ys' w i c := by
        refine ⟨hw4, hm, a4, by rw [a6], ?_⟩
        rintro ⟨w', n', i', x, q1, q2, q3, q4, q5, q6⟩
        obtain ⟨p1, p2⟩ := ended q4 q5
        by_cases e' : i' = i
        · subst e'
          rw [a4] at q4; cases q4
          have := f2 (fun e => q5 (f1.1 e))
          omega
        · exact behind q1 q2 q3 q4 q5 e' ⟨p1, q6⟩
      refine ⟨is ++ [i], _, _, ?_, hw.snoc sx, ?_⟩
      · rw [take_some a2, ← e]; simp [iL]
      · rw [a6]; exact hz0
  obtain ⟨is, t, xs, e, hw, _⟩ := key os.length (Nat.le_refl _)
  rw [List.take_length] at e
  refine ⟨is, t, xs, e, hw, fun w n i x q1 q2 q3 q4 => ?_⟩
  apply Classical.byContradiction
  intro hc
  obtain ⟨_, p, hp⟩ := ended q4 hc
  rw [← e] at hp
  obtain ⟨j, j1, j2⟩ := iL_at.1 hp
  have : j = i := by omega
  subst this
  obtain ⟨w', n', r1, r2, r3⟩ := ((hw.laid hH).mem j).1 (List.mem_of_getElem? j1)
  obtain ⟨e1, e2⟩ := byL_inj r3 q3
  subst e1; omega

/-! ### the reference's questions -/
theorem free_iff {cs : List Cl} (hH : HistN cs cs.length) {t : Nat → Nat} {i : Nat} {c : Cl} (hc : cs[i]? = some c) :
    (∀ w' j x, w' < 4 → (byL cs w')[t w']? = some j → j ≠ i → cs[j]? = some x → ¬ Ahead x c) ↔ ¬ Wait cs t c := by
  obtain ⟨f1, f2, _, _, f5⟩ := sound_at hH hc
  have self : cCode c ≠ 0 → ¬ cEn c < cBg c := fun h => by
    have := f2 (fun e => h (f1.1 e))
    omega
  constructor
  · rintro h ⟨w', n', i', x, q1, q2, q3, q4, q5, q6⟩
    obtain ⟨g1, g2, _, _, g5⟩ := sound_at hH q4
    have hx := g2 (fun e => q5 (g1.1 e))
    by_cases e : n' = t w'
    · subst e
      by_cases e2 : i' = i
      · subst e2; rw [hc] at q4; cases q4; exact self q5 q6
      · exact h w' i' x q1 q3 e2 q4 ⟨by omega, q6⟩
    · obtain ⟨j0, hj0⟩ : ∃ j0, (byL cs w')[t w']? = some j0 := ⟨_, List.getElem?_eq_getElem (by have := (List.getElem?_eq_some_iff.1 q3).1; omega)⟩
      obtain ⟨x0, x1, x2⟩ := byL_at hj0
      obtain ⟨y0, y1, y2⟩ := byL_at q3
      rw [q4] at y1; cases y1
      have hlt := byL_lt hj0 q3 (by omega)
      obtain ⟨k1, k2, k3⟩ := hist_ahead hH hlt x1 q4 (by omega)
      have hah : Ahead x0 c := ⟨k2.1, by omega⟩
      by_cases e2 : j0 = i
      · subst e2; rw [hc] at x1; cases x1; exact self k1 hah.2
      · exact h w' j0 x0 q1 hj0 e2 x1 hah
  · intro h w' j x q1 q2 q3 q4 hah
    obtain ⟨g1, _⟩ := sound_at hH q4
    exact h ⟨w', t w', j, x, q1, Nat.le_refl _, q2, q4, fun e => (by have := g1.2 e; have := hah.1; omega), hah.2⟩
theorem over_iff {cs : List Cl} (hH : HistN cs cs.length) {t : Nat → Nat} : (∀ w j x, w < 4 → (byL cs w)[t w]? = some j → cs[j]? = some x → ¬ 0 ≤ cEn x) ↔ DoneS cs t := by
  constructor
  · intro h w n i x q1 q2 q3 q4
    obtain ⟨g1, g2, _, _, g5⟩ := sound_at hH q4
    by_cases e : n = t w
    · subst e
      have := h w i x q1 q3 q4
      apply Classical.byContradiction
      intro hc
      have := g2 (fun e => hc (g1.1 e))
      omega
    · obtain ⟨j0, hj0⟩ : ∃ j0, (byL cs w)[t w]? = some j0 := ⟨_, List.getElem?_eq_getElem (by have := (List.getElem?_eq_some_iff.1 q3).1; omega)⟩
      obtain ⟨x0, x1, x2⟩ := byL_at hj0
      obtain ⟨y0, y1, y2⟩ := byL_at q3
      rw [q4] at y1; cases y1
      obtain ⟨_, k2, _⟩ := hist_ahead hH (byL_lt hj0 q3 (by omega)) x1 q4 (by omega)
      exact absurd k2.1 (h w j0 x0 q1 hj0 x1)
  · intro h w j x q1 q2 q3 hen
    obtain ⟨g1, _⟩ := sound_at hH q3
    have := g1.2 (h w (t w) j x q1 (Nat.le_refl _) q2 q3)
    omega

/-- How much is done. -/
def sum4 (t : Nat → Nat) : Nat := t 0 + t 1 + t 2 + t 3
theorem sum4_bump {t : Nat → Nat} {w : Nat} (h : w < 4) : sum4 (bump t w) = sum4 t + 1 := by
  unfold sum4 bump
  have : w = 0 ∨ w = 1 ∨ w = 2 ∨ w = 3 := by omega
  rcases this with rfl | rfl | rfl | rfl <;> simp <;> omega
structure Fits (cs : List Cl) (pre : List Nat) (t : Nat → Nat) : Prop where
  len : pre.length = sum4 t
  le : ∀ w, t w ≤ (byL cs w).length
theorem Fits.step {cs : List Cl} {most : Int} {pre : List Nat} {t : Nat → Nat} {xs : List Int} {w i : Nat} {c : Cl} (h : Fits cs pre t) (s : Sx cs most t xs w i c) : Fits cs (pre ++ [i]) (bump t w) := by
  refine ⟨by rw [List.length_append, h.len, sum4_bump s.1]; rfl, fun w' => ?_⟩
  by_cases e : w' = w
  · subst e
    rw [bump_self]
    exact (List.getElem?_eq_some_iff.1 s.2.1).1
  · rw [bump_ne t e]; exact h.le w'
theorem Way.fits {cs : List Cl} {most : Int} {is t xs} (h : Way cs most z4 [] is t xs) : Fits cs is t :=
  h.inv (P := fun pre t _ => Fits cs pre t) (fun pre t xs w i c hp hs => hp.step hs) [] ⟨rfl, fun _ => Nat.zero_le _⟩
theorem byL_sum (cs : List Cl) : ∀ n, (byN cs n 0).length + (byN cs n 1).length + (byN cs n 2).length + (byN cs n 3).length ≤ n
  | 0 => by simp [byN]
  | n + 1 => by
    have ih := byL_sum cs n
    rw [byN_succ, byN_succ, byN_succ, byN_succ]
    simp only [List.length_append]
    have ex : ∀ a b : Nat, a ≠ b → isBy cs a n = true → isBy cs b n = true → False := fun a b hab ha hb => by
      obtain ⟨c, c1, c2⟩ := isBy_iff.1 ha
      obtain ⟨d, d1, d2⟩ := isBy_iff.1 hb
      rw [c1] at d1; cases d1
      omega
    cases h0 : isBy cs 0 n <;> cases h1 : isBy cs 1 n <;> cases h2 : isBy cs 2 n <;> cases h3 : isBy cs 3 n <;> simp <;> first | omega | (exfalso; first | exact ex 0 1 (by decide) h0 h1 | exact ex 0 2 (by decide) h0 h2 | exact ex 0 3 (by decide) h0 h3 | exact ex 1 2 (by decide) h1 h2 | exact ex 1 3 (by decide) h1 h3 | exact ex 2 3 (by decide) h2 h3)
theorem Fits.sum {cs : List Cl} {pre : List Nat} {t : Nat → Nat} (h : Fits cs pre t) : sum4 t ≤ cs.length := by
  have := byL_sum cs cs.length
  have h0 := h.le 0
  have h1 := h.le 1
  have h2 := h.le 2
  have h3 := h.le 3
  unfold byL at h0 h1 h2 h3
  unfold sum4
  omega

end Go.Mx
