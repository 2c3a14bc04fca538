/-
  DequeWhy: the walk.
-/
import Derived.Test.YtjkecefbbijajaaMxWc
set_option linter.unusedVariables false
set_option linter.unusedSimpArgs false
set_option linter.unusedSectionVars false
namespace Go.Mx

theorem NP.uniq {W : List Nat} {w b n m1 m2 : Nat} (h1 : NP W w b n m1) (h2 : NP W w b n m2) : m1 = m2 := by
  have key : ∀ a c : Nat, a < c → NP W w b n a → NP W w b n c → False := fun a c hac ha hc => by
    have hl := (List.getElem?_eq_some_iff.1 hc.1).1
    have p := pk_succ (w := w) ha.1
    rw [if_pos rfl] at p
    have mm := pk_mono (W := W) (w := w) (a := a + 1) (b := c) hac (by omega)
    have := ha.2.2
    have := hc.2.2
    omega
  rcases Nat.lt_trichotomy m1 m2 with z | z | z
  · exact (key _ _ z h1 h2).elim
  · exact z
  · exact (key _ _ z h2 h1).elim
/-- What the lists say of pick m. -/
structure TB (W : List Nat) (S : Nat → PS) (cs : List DCl) (L : List Acc) (m : Nat) : Prop where
  lt : plc W cs m < L.length
  ts : tsN L (plc W cs m) = (tA S m, bA S m)
  en : ∀ x, En S m x → L[plc W cs m]? = some x
  bd : -1 ≤ tA S m ∧ tA S m ≤ 1000000000 ∧ -1 ≤ bA S m ∧ bA S m ≤ 1000000000
section
variable {c : DCl} {w b e : Nat} {most : Int} {lgS tS bS plS pkS : Sl} {thieves : Int} {h : Heap} {L : List Acc} {W : List Nat} {S : Nat → PS} {cs : List DCl}
theorem why_spec (hl : Arr h KAcc lgS L) (hT : Arr h ki tS (rangeL L.length fun j => (tsN L j).1)) (hB : Arr h ki bS (rangeL L.length fun j => (tsN L j).2)) (hw : WhyC W S most w b e (dKind c) (dCode c)) (hk : dKind c = 0 ∨ dKind c = 1 ∨ dKind c = 2) (heW : e < W.length)
    (tb : ∀ m, W[m]? = some w → b ≤ m → m ≤ e → TB W S cs L m) {c1 : Den kapiCall → Int → Sl → Int → Sl → Heap → (Int → Heap → Prop) → Prop}
    (i1 : ∀ {n : Nat} {Q : Int → Heap → Prop}, n ≤ 100 → (∀ m, NP W w b n m → m ≤ e → Q (plc W cs m : Int) h) → ((∀ m, NP W w b n m → ¬ m ≤ e) → Q (-1) h) → c1 c (n : Int) plS thieves pkS h Q)
    {Q : Bool → Heap → Prop} (hQ : Q true h) : law3_why.M c1 c most lgS tS bS plS thieves pkS h Q := by
  have hll := hl.1
  have htl := hT.1
  have hbl := hB.1
  rw [rangeL_len] at htl hbl
  have nth : ∀ {n m : Nat} {Q : Int → Heap → Prop}, n ≤ 100 → NP W w b n m → m ≤ e → Q (plc W cs m : Int) h → c1 c (n : Int) plS thieves pkS h Q := fun {n m Q} hn hm hme q => i1 hn (fun m' hm' _ => by rw [hm'.uniq hm]; exact q) (fun z => absurd hme (z m hm))
  have rdT : ∀ {m : Nat} {K : Int → Prop}, TB W S cs L m → K (tA S m) → (deref tS.a fun a => ld ki h (a.add (((plc W cs m : Nat) : Int).toNat * 1)) K) := fun {m K} t hK => hT.at (i := ((plc W cs m : Nat) : Int)) (Int.natCast_nonneg _) (by have := t.lt; omega) rfl fun x hx => by
    rw [Int.toNat_natCast, rangeL_get t.lt, t.ts] at hx
    cases hx; exact hK
  have rdB : ∀ {m : Nat} {K : Int → Prop}, TB W S cs L m → K (bA S m) → (deref bS.a fun a => ld ki h (a.add (((plc W cs m : Nat) : Int).toNat * 1)) K) := fun {m K} t hK => hB.at (i := ((plc W cs m : Nat) : Int)) (Int.natCast_nonneg _) (by have := t.lt; omega) rfl fun x hx => by
    rw [Int.toNat_natCast, rangeL_get t.lt, t.ts] at hx
    cases hx; exact hK
  have bT : ∀ {m : Nat}, TB W S cs L m → (0 : Int) ≤ ((plc W cs m : Nat) : Int) ∧ ((plc W cs m : Nat) : Int) < (tS.len : Int) := fun {m} t => ⟨Int.natCast_nonneg _, by have := t.lt; omega⟩
  have bB : ∀ {m : Nat}, TB W S cs L m → (0 : Int) ≤ ((plc W cs m : Nat) : Int) ∧ ((plc W cs m : Nat) : Int) < (bS.len : Int) := fun {m} t => ⟨Int.natCast_nonneg _, by have := t.lt; omega⟩
  have bL : ∀ {m : Nat}, TB W S cs L m → (0 : Int) ≤ ((plc W cs m : Nat) : Int) ∧ ((plc W cs m : Nat) : Int) < (lgS.len : Int) := fun {m} t => ⟨Int.natCast_nonneg _, by have := t.lt; omega⟩
  -- the end, by the CAS
  have cas : ∀ {m : Nat} {x : Acc} {code2 : Int}, TB W S cs L m → En S m x → aKind x = 2 → ((dCode c = 4 ∧ aOk x = true) ∨ (dCode c = code2 ∧ dCode c ≠ 4 ∧ aOk x = false)) →
      ((decide ((0 : Int) ≤ ((plc W cs m : Nat) : Int)) = true → (0 ≤ ((plc W cs m : Nat) : Int) ∧ ((plc W cs m : Nat) : Int) < (lgS.len : Int)) ∧ deref lgS.a fun a30 => ld ki h ((a30.add ((((plc W cs m : Nat) : Int)).toNat * 6)).add 1) fun t31 =>
        ((decide (t31 = 2) = true → (0 ≤ ((plc W cs m : Nat) : Int) ∧ ((plc W cs m : Nat) : Int) < (lgS.len : Int)) ∧ deref lgS.a fun a32 => ld .bool h ((a32.add ((((plc W cs m : Nat) : Int)).toNat * 6)).add 5) fun t33 =>
          ((((decide (dCode c = 4)) == t33) = true → ((decide (dCode c = 4) = true → Q true h) ∧ (decide (dCode c = 4) = false → Q (decide (dCode c = code2)) h))) ∧ (((decide (dCode c = 4)) == t33) = false → Q false h))) ∧
        (decide (t31 = 2) = false → Q false h))) ∧ (decide ((0 : Int) ≤ ((plc W cs m : Nat) : Int)) = false → Q false h)) := fun {m x code2} t hx k2 hc => by
    obtain ⟨al, hal⟩ := hl.addr (by have := t.lt; omega)
    have hLx := t.en x hx
    refine dcase (fun _ => ⟨bL t, ?_⟩) (fun z => absurd (Int.natCast_nonneg _) z)
    rw [hal]
    simp only [deref]
    rw [Int.toNat_natCast]
    refine hl.ldPart (kp := ki) (y := aKind x) hal hLx ⟨Kd.cells ki x.1, Kd.cells (.pair ki (.pair ki (.pair ki (.pair .bool .nil)))) x.2.2, rfl, rfl⟩ rfl ?_
    refine dcase (fun _ => ⟨bL t, hl.ldPart (kp := .bool) (y := aOk x) hal hLx ⟨Kd.cells ki x.1 ++ Kd.cells ki x.2.1 ++ Kd.cells ki x.2.2.1 ++ Kd.cells ki x.2.2.2.1 ++ Kd.cells ki x.2.2.2.2.1, [], rfl, rfl⟩ rfl ?_⟩) (fun z => absurd k2 z)
    rcases hc with ⟨c4, ok⟩ | ⟨cc, c4, ok⟩
    · rw [ok, decide_eq_true c4]
      exact ⟨fun _ => ⟨fun _ => hQ, fun z => (by cases z)⟩, fun z => (by cases z)⟩
    · rw [ok, decide_eq_false c4, decide_eq_true cc]
      exact ⟨fun _ => ⟨fun z => (by cases z), fun _ => hQ⟩, fun z => (by cases z)⟩
  refine dcase (fun k0 => ?_) (fun k0 => dcase (fun k1 => ?_) (fun k1 => ?_))
  · obtain ⟨m, m1, m2, m3⟩ := hw.k0 k0
    have t := tb m m2.1 m2.2.1 m1
    show c1 c 1 plS thieves pkS h _
    refine nth (n := 1) (by decide) m2 m1 ?_
    refine dcase (fun _ => ⟨bB t, ?_⟩) (fun z => absurd (Int.natCast_nonneg _) z)
    have := rdB (K := fun y => (deref tS.a fun a13 => True)) t
    obtain ⟨ab, hab⟩ := hB.addr (by have := t.lt; omega)
    obtain ⟨at', hat⟩ := hT.addr (by have := t.lt; omega)
    have rB := fun K => rdB (K := K) t
    have rT := fun K => rdT (K := K) t
    rw [hab] at rB ⊢
    rw [hat] at rT ⊢
    refine ⟨bT t, rB _ (rT _ ?_)⟩
    have hbd := t.bd
    have ew : w64 (bA S m - tA S m) = bA S m - tA S m := by rw [w64_of] <;> omega
    rw [ew]
    rcases m3 with ⟨c3, d⟩ | ⟨c2, d⟩
    · rw [decide_eq_true (show dCode c = 3 from c3), decide_eq_true d]
      exact ⟨fun _ => ⟨fun _ => hQ, fun z => (by cases z)⟩, fun z => (by cases z)⟩
    · rw [decide_eq_false (show ¬ dCode c = 3 by omega), decide_eq_false d]
      refine ⟨fun _ => ⟨fun z => (by cases z), fun _ => ?_⟩, fun z => (by cases z)⟩
      show Q (decide (dCode c = 2)) h
      rw [decide_eq_true c2]; exact hQ
  · obtain ⟨m, m1, m2, m3⟩ := hw.k1 k1
    have t := tb m m2.1 m2.2.1 m1
    show c1 c 3 plS thieves pkS h _
    refine nth (n := 3) (by decide) m2 m1 ?_
    refine dcase (fun z => absurd z (Int.not_lt.2 (Int.natCast_nonneg _))) (fun _ => ⟨bT t, ?_⟩)
    obtain ⟨ab, hab⟩ := hB.addr (by have := t.lt; omega)
    obtain ⟨at', hat⟩ := hT.addr (by have := t.lt; omega)
    have rB := fun K => rdB (K := K) t
    have rT := fun K => rdT (K := K) t
    rw [hab] at rB ⊢
    rw [hat] at rT ⊢
    refine ⟨bB t, rT _ (rB _ ?_)⟩
    rcases m3 with ⟨d, c5⟩ | ⟨d, c4, d6⟩ | ⟨d, m6, x, n1, n2, n3, n4, n5⟩
    · refine dcase (fun _ => ?_) (fun z => absurd d z)
      show Q (decide (dCode c = 5)) h
      rw [decide_eq_true c5]; exact hQ
    · refine dcase (fun z => absurd (show bA S m < tA S m from z) (by omega)) (fun _ => ⟨bT t, ?_⟩)
      refine ⟨bB t, rT _ (rB _ ?_)⟩
      refine dcase (fun _ => dcase (fun _ => ?_) (fun z => absurd c4 z)) (fun z => absurd d z)
      show c1 c 6 plS thieves pkS h _
      refine i1 (n := 6) (by decide) (fun m' hm' hme => ?_) (fun _ => ?_)
      · exfalso
        have p := pk_succ (w := w) hm'.1
        rw [if_pos rfl] at p
        have mm := pk_mono (W := W) (w := w) (a := m' + 1) (b := e + 1) (by omega) (by omega)
        have := hm'.2.2
        omega
      · show Q (decide ((-1 : Int) < 0)) h
        exact hQ
    · refine dcase (fun z => absurd (show bA S m < tA S m from z) (by omega)) (fun _ => ⟨bT t, ?_⟩)
      refine ⟨bB t, rT _ (rB _ ?_)⟩
      refine dcase (fun z => absurd (show tA S m < bA S m from z) (by omega)) (fun _ => ?_)
      show c1 c 6 plS thieves pkS h _
      refine nth (n := 6) (by decide) n2 n1 ?_
      exact cas (code2 := 5) (tb m6 n2.1 n2.2.1 n1) n3 n4 (n5.imp id fun ⟨a, b⟩ => ⟨a, by omega, b⟩)
  · have k2 : dKind c = 2 := by
      rcases hk with z | z | z
      · exact absurd z k0
      · exact absurd z k1
      · exact z
    obtain ⟨m, m1, m2, m3⟩ := hw.k2 k2
    have t := tb m m2.1 m2.2.1 m1
    show c1 c 1 plS thieves pkS h _
    refine nth (n := 1) (by decide) m2 m1 ?_
    refine dcase (fun z => absurd z (Int.not_lt.2 (Int.natCast_nonneg _))) (fun _ => ?_)
    rcases m3 with ⟨c5, d⟩ | ⟨m5, x, n1, n2, n3, n4, n5⟩
    · refine dcase (fun _ => ⟨bB t, ?_⟩) (fun z => absurd c5 z)
      obtain ⟨ab, hab⟩ := hB.addr (by have := t.lt; omega)
      obtain ⟨at', hat⟩ := hT.addr (by have := t.lt; omega)
      have rB := fun K => rdB (K := K) t
      have rT := fun K => rdT (K := K) t
      rw [hab] at rB ⊢
      rw [hat] at rT ⊢
      refine ⟨bT t, rB _ (rT _ ?_)⟩
      show Q (decide (bA S m ≤ tA S m)) h
      rw [decide_eq_true d]; exact hQ
    · refine dcase (fun z => ?_) (fun _ => ?_)
      · have z : dCode c = 5 := z
        rcases n5 with ⟨y, _⟩ | ⟨y, _⟩ <;> omega
      · show c1 c 5 plS thieves pkS h _
        refine nth (n := 5) (by decide) n2 n1 ?_
        exact cas (code2 := 6) (tb m5 n2.1 n2.2.1 n1) n3 n4 (n5.imp id fun ⟨a, b⟩ => ⟨a, by omega, b⟩)
end
end Go.Mx
