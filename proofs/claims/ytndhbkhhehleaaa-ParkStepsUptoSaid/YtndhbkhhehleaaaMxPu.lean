/-
  ParkSteps: the law.
-/
import Derived.Test.YtndhbkhhehleaaaMxPs
set_option linter.unusedVariables false
set_option linter.unusedSimpArgs false
set_option linter.unusedSectionVars false
namespace Go.Mx

def ModX (c : Int → Int → Heap → (Int → Heap → Prop) → Prop) : Prop := ∀ {x n : Int} {h : Heap} {Q : Int → Heap → Prop}, 0 < n → n ≤ 1000000000 → Q (x % n) h → c x n h Q
theorem modx_spec : ModX law9_mod.M := by
  intro x n h Q h0 h1 hQ
  have r0 := Int.emod_nonneg x (b := n) (by omega)
  have r1 := Int.emod_lt_of_pos x h0
  have key : Int.tmod x n = if 0 ≤ x ∨ n ∣ x then x % n else x % n - n := by
    rw [Int.tmod_eq_emod]
    by_cases c : 0 ≤ x ∨ n ∣ x
    · rw [if_pos c, if_pos c]; omega
    · rw [if_neg c, if_neg c]; omega
  refine ⟨by omega, dcase (fun e => ?_) (fun e => ?_)⟩
  · have e : Int.tmod x n < 0 := e
    show Q (w64 (Int.tmod x n + n)) h
    by_cases c : 0 ≤ x ∨ n ∣ x
    · rw [if_pos c] at key; omega
    · rw [if_neg c] at key
      rw [key, show x % n - n + n = x % n by omega, w64_of (by omega) (by omega)]; exact hQ
  · have e : ¬ Int.tmod x n < 0 := e
    show Q (Int.tmod x n) h
    by_cases c : 0 ≤ x ∨ n ∣ x
    · rw [if_pos c] at key; rw [key]; exact hQ
    · rw [if_neg c] at key; omega
theorem RunP.mu_pos {ds : List (Den KP2)} {o : POp} {r : R9} (R : RunP ds o r) (hp : o.parked = false) : 1 ≤ o.mu := by
  have w1 := R.w1
  have hp' : ¬ (o.st.kind = 1 ∧ o.st.at_ = 5) := fun z => by unfold POp.parked at hp; rw [if_pos z.1, z.2] at hp; cases hp
  unfold POp.mu
  rcases R.at_ with ⟨hk, _, _, c⟩ | ⟨hk, c⟩ | ⟨hk, c, _⟩ | ⟨hk, c⟩
  · rw [if_pos hk]
    rcases c with ⟨h1, _⟩ | ⟨h1, _⟩ | ⟨h1, _, h3, _⟩ | ⟨h1, _, h3, h4, h5⟩ | ⟨h1, _⟩ | ⟨h1, _⟩ | ⟨h1, _⟩
    · rw [if_pos h1]; omega
    · simp [h1]; omega
    · simp [h1]; omega
    · simp [h1]; split <;> omega
    · exact absurd ⟨hk, h1⟩ hp'
    · simp [h1]
    · simp [h1]
  · rw [if_neg (by omega), if_pos hk]
    rcases c with ⟨h1, _⟩ | ⟨h1, _, _, h4, h5⟩ | ⟨h1, _⟩
    · simp [h1]; omega
    · simp [h1]; omega
    · simp [h1]
  · rw [if_neg (by omega), if_neg (by omega), if_pos hk]; decide
  · rw [if_neg (by omega), if_neg (by omega), if_neg (by omega)]
    rcases c with ⟨h1, _⟩ | ⟨h1, _, _, h4, h5⟩ | ⟨h1, _, _, h4, h5⟩
    · simp [h1]; omega
    · simp [h1]; omega
    · simp [h1]; omega
theorem RelP.ended {ds : List (Den KP2)} {o : POp} {r : R9} (R : RelP ds o r) (h : o.st.at_ = 0) : o.answer.1 ≠ 0 := by
  rcases R with ⟨_, _, h3, h9⟩ | R
  · rw [h3]; exact h9
  · exact absurd h R.a0.1
theorem RelP.runs {ds : List (Den KP2)} {o : POp} {r : R9} (R : RelP ds o r) (h : o.answer.1 = 0) : RunP ds o r := by
  rcases R with ⟨_, _, h3, h9⟩ | R
  · rw [h3] at h; exact absurd h h9
  · exact R
theorem parked_iff {o : POp} : o.parked = true ↔ o.st.kind = 1 ∧ o.st.at_ = 5 := by
  unfold POp.parked
  by_cases c : o.st.kind = 1
  · rw [if_pos c]; simp [c]
  · rw [if_neg c]; simp [c]
/-- How far a machine has come behind i steps. -/
def ProgP (B : Int) (i : Nat) (o : POp) : Prop := (B = 0 → o = POp.zero) ∧ (o.answer.1 = 0 → o.parked = false → o.mu + (i : Int) ≤ B)
theorem ProgP.step {ds : List (Den KP2)} {o : POp} {r : R9} (R : RelP ds o r) {B : Int} {i : Nat} (P : ProgP B i o) (s : AS) : ProgP B (i + 1) (stepP s o).2 := by
  obtain ⟨_, R'⟩ := R.step s
  refine ⟨fun b => ?_, fun ha hp => ?_⟩
  · rw [P.1 b]; unfold stepP; rw [if_pos (show POp.zero.st.kind = 0 from rfl)]
  · have he : (stepP s o).2.st.at_ ≠ 0 := fun z => R'.ended z ha
    have hp' : ¬ ((stepP s o).2.st.kind = 1 ∧ (stepP s o).2.st.at_ = 5) := fun z => by rw [parked_iff.2 z] at hp; cases hp
    have ho : o.answer.1 = 0 := by
      refine Decidable.byContradiction fun z => ?_
      have e : (stepP s o).2 = o := by
        unfold POp.answer at z
        unfold stepP
        by_cases a : o.st.kind = 0
        · rw [if_pos a]
        · rw [if_neg a] at z
          by_cases b : o.st.at_ = 0
          · rw [if_neg a, if_pos b]
          · rw [if_pos b] at z; exact absurd rfl z
      rw [e] at ha; exact z ha
    have run := R.runs ho
    by_cases hpk : o.st.kind = 1 ∧ o.st.at_ = 5
    · rcases run.stays hpk.1 hpk.2 s with h | h
      · exact absurd h he
      · exact absurd h hp'
    · have := P.2 ho (by
        cases e : o.parked
        · rfl
        · exact absurd (parked_iff.1 e) hpk)
      rcases run.near hpk s with h | h | h
      · exact absurd h he
      · exact absurd h hp'
      · have h2 : ((i + 1 : Nat) : Int) = (i : Int) + 1 := rfl
        rw [h2]
        have h3 : (stepP s o).2.mu + ((i : Int) + 1) = ((stepP s o).2.mu + 1) + (i : Int) := by rw [Int.add_assoc, Int.add_comm 1 (i : Int)]
        rw [h3]
        exact Int.le_trans (Int.add_le_add_right h _) this
def WatchM (c : Option Addr → Bool → Heap → (Unit → Heap → Prop) → Prop) : Prop := ∀ {h0 : Heap} {b : Nat} {h : Heap} {s : AS} {S : Nat → Prop} {w : Bool} {Q : Unit → Heap → Prop}, RA h0 b s S h → (∀ h', RA h0 b { s with wt := w } S h' → Step S S h h' → Q () h') → c (some (ptr b)) w h Q
def StoreM (c : Option Addr → Int → Int → Heap → (Int → Heap → Prop) → Prop) : Prop := ∀ {h0 : Heap} {b : Nat} {h : Heap} {s : AS} {S : Nat → Prop} {n : Nat} {a v : Int} {Q : Int → Heap → Prop}, RA h0 b s S h → s.Fit n → n ≤ 1000000000 → (∀ e S' h', RA h0 b (arenaI s (.st a v)).2 S' h' → Step S S' h h' → Q e h') → c (some (ptr b)) a v h Q
section
variable {c1 : Int → Sl → Heap → ((Option Addr × (Bool × Unit)) → Heap → Prop) → Prop} {c2 : Int → Int → Heap → (Int → Heap → Prop) → Prop} {c3 : Int → Heap → (Bool → Heap → Prop) → Prop} {c4 : Den KMv → Int → Int → Sl → Heap → ((Den KPOp × (Den KR9 × Unit)) → Heap → Prop) → Prop} {c5 : Option Addr → Heap → (Sl → Heap → Prop) → Prop} {c6 : Den KPOp → Heap → (Den KP2 → Heap → Prop) → Prop}
  {c7 : Value → Den KPOp → Heap → (Den KPOp → Heap → Prop) → Prop} {c8 : Option Addr → Bool → Heap → (Unit → Heap → Prop) → Prop} {c9 : Option Addr → Int → Int → Heap → (Int → Heap → Prop) → Prop} {c10 : Den KPOp → Heap → (Bool → Heap → Prop) → Prop}
theorem parkSteps_spec {base w kind self : Int} {bg dsl pk : Sl} {h : Heap} {bs : List Int} {dl ps : List (Den KP2)} (hbg : Arr h ki bg bs) (hds : Arr h KP2 dsl dl) (hpk : Arr h KP2 pk ps) (hpl : ps.length ≤ 1048576) (hb : bg.cap ≤ 1048576)
    (i1 : ArenaM c1) (i2 : ModX c2) (i3 : ∀ {p : Nat} {h : Heap} {Q : Bool → Heap → Prop}, 1 ≤ p → p ≤ 8 → (∀ h', le h h' → Q true h') → c3 (p : Int) h Q) (i4 : BornP2 base w dsl dl c4) (i5 : OutM KAcc AS.lg c5) (i6 : PAnsC c6) (i7 : StepPC 25 c7) (i8 : WatchM c8) (i9 : StoreM c9) (i10 : PParkC c10)
    {Q : Bool → Heap → Prop} (hQ : ∀ h', le h h' → Q true h') : law9_ParkSteps.M c1 c2 c3 c4 c5 c6 c7 c8 c9 c10 bg base w dsl kind self pk h Q := by
  have hbl := hbg.1
  have hpl0 := hpk.1
  -- the steps
  have loop : ∀ (B : Int) (o0 : POp) (r0 : R9) (dl0 : List (Den KP2)) (b : Nat) (m0 : AS) (S0 : Nat → Prop) (k : Heap), 0 ≤ B → B ≤ 131 → RelP dl0 o0 r0 → ProgP B 0 o0 → RA h b m0 S0 k → m0.Fit 0 → law9_ParkSteps.k9 c5 c6 c7 c8 c9 c10 Q (pk, (some (ptr b), (B, (o0.flat, ())))) k := by
    intro B o0 r0 dl0 b m0 S0 k B0 B1 R0 P0 ra0 f0
    have ew : w64 (B + (pk.len : Int)) = ((B.toNat + pk.len : Nat) : Int) := by rw [w64_of (by omega) (by omega)]; omega
    refine Loop.up (B.toNat + pk.len) (fun s => s.2.1) (fun i s k => ∃ (o : POp) (r : R9) (m : AS) (S : Nat → Prop), s.2.2.1 = o.flat ∧ RelP dl0 o r ∧ ProgP B i o ∧ RA h b m S k ∧ m.Fit (2 * i) ∧ (s.1 = true → o.parked = true)) rfl ⟨o0, r0, m0, S0, rfl, R0, P0, ra0, f0, fun e => (by cases e)⟩ ?_
    rintro i ⟨was, j, Y, u⟩ k go hi hc ⟨o, r, m, S, hY, R, P, ra, ft, hw⟩ hgo
    dsimp only at hc hY hw; subst hc; subst hY
    have lk : le h k := ra.le
    refine ⟨fun e => ?_, fun e => ?_⟩
    · have e : (i : Int) < w64 (B + (pk.len : Int)) := of_decide_eq_true e
      rw [ew] at e
      refine i5 ra ft (by omega) fun t1 k1 n1 => i6 (o := o) ?_
      have ra1 := ra.more n1.le
      refine i7 (o := o) ra1 ft (by omega) R.safe fun S2 k2 ra2 st2 => ?_
      have ft2 := ft.stepP o
      obtain ⟨g1, g2⟩ := stepP_log m o
      obtain ⟨_, R'⟩ := R.step m
      have P' := P.step R m
      have hrun : o.answer.1 ≠ 0 → (stepP m o).1.lg.length = m.lg.length := fun z => by rw [g2 z]
      generalize hm2 : (stepP m o).1 = m2 at *
      generalize ho2 : (stepP m o).2 = o2 at *
      refine i5 ra2 ft2 (by omega) fun t3 k3 n3 => ?_
      have ra3 := ra2.more n3.le
      have l1 := n1.len
      have l3 := n3.len
      have hd : w64 ((t3.len : Int) - (t1.len : Int)) = (m2.lg.length : Int) - (m.lg.length : Int) := by
        have := ft.lg; have := ft2.lg
        rw [← l1, ← l3, w64_of (by omega) (by omega)]
      -- behind the poke
      have tail : ∀ m4 S4 k4, RA h b m4 S4 k4 → m4.Fit (2 * (i + 1)) → law9_ParkSteps.j5 c6 c10 Q (pk, (some (ptr b), (B, (o0.flat, ())))) go (was, ((i : Int), (o.flat, u))) o2.den () k4 := fun m4 S4 k4 ra4 ft4 => by
        have lk4 : le h k4 := ra4.le
        have wi : w64 ((i : Int) + 1) = ((i + 1 : Nat) : Int) := by rw [w64_of (by omega) (by omega)]; omega
        refine i6 (o := o2) ?_
        have j3 : law9_ParkSteps.j3 c10 Q (pk, (some (ptr b), (B, (o0.flat, ())))) go (was, ((i : Int), (o.flat, u))) o2.den (o2.answer.1, (o2.answer.2, ())) () k4 := by
          refine i10 (o := o2) ?_
          have j2 : law9_ParkSteps.j2 Q go (was, ((i : Int), (o.flat, u))) o2.den o2.parked (false, ()) k4 := by
            refine ⟨fun e => (by cases e), fun _ => ?_⟩
            exact hgo (by omega) _ _ wi ⟨o2, _, m4, S4, rfl, R', P', ra4, ft4, fun z => z⟩
          refine ⟨fun z => ⟨fun a => ?_, fun _ => j2⟩, fun _ => j2⟩
          have z : B ≤ w64 ((i : Int) + 1) := of_decide_eq_true z
          have a : o2.answer.1 = 0 := of_decide_eq_true a
          show law9_ParkSteps.j2 Q go (was, ((i : Int), (o.flat, u))) o2.den o2.parked (!o2.parked, ()) k4
          cases hp : o2.parked
          · have h1 := P'.2 a hp
            have h2 := (R'.runs a).mu_pos hp
            rw [wi] at z
            exact absurd (Int.le_trans (Int.add_le_add_right h2 _) (Int.le_trans h1 z)) (by omega)
          · rw [hp] at j2; exact j2
        refine ⟨fun wz => i10 (o := o2) ⟨fun np => ?_, fun _ => ⟨fun e => (by cases e), fun _ => j3⟩⟩, fun _ => ⟨fun e => (by cases e), fun _ => j3⟩⟩
        have pk0 := parked_iff.1 (hw wz)
        have np : o2.parked = false := by
          cases hp : o2.parked
          · rfl
          · rw [hp] at np; cases np
        have run : RunP dl0 o r := by
          refine R.runs ?_
          unfold POp.answer
          rw [if_neg (by omega), if_pos (by omega)]
        have h0 : o2.st.at_ = 0 := by
          have := run.stays pk0.1 pk0.2 m
          rw [ho2] at this
          exact this.resolve_right fun q => by rw [parked_iff.2 q] at np; cases np
        have ne := R'.ended h0
        show law9_ParkSteps.j4 c10 Q (pk, (some (ptr b), (B, (o0.flat, ())))) go (was, ((i : Int), (o.flat, u))) o2.den (o2.answer.1, (o2.answer.2, ())) (decide (o2.answer.1 = 0), ()) k4
        rw [decide_eq_false ne]
        exact ⟨fun e => (by cases e), fun _ => j3⟩
      have j6 : law9_ParkSteps.j6 c6 c8 c9 c10 Q (pk, (some (ptr b), (B, (o0.flat, ())))) go (was, ((i : Int), (o.flat, u))) o2.den () k3 := by
        refine ⟨fun q => ?_, fun _ => tail m2 S2 k3 ra3 ⟨by have := ft2.lg; omega, ft2.cs, ft2.sz⟩⟩
        have q : (i : Int) < (pk.len : Int) := of_decide_eq_true q
        refine i8 ra3 fun k4 ra4 st4 => ?_
        have hp4 := hpk.le ra4.le
        obtain ⟨ad, ha⟩ := hp4.addr (by omega)
        have hx : ps[i]? = some ps[i] := List.getElem?_eq_getElem (by omega)
        generalize ps[i] = x at hx
        refine ⟨⟨by show (0 : Int) ≤ (i : Int); omega, q⟩, ?_⟩
        show deref pk.a _
        rw [ha, Int.toNat_natCast]
        refine ⟨⟨by show (0 : Int) ≤ (i : Int); omega, q⟩, hp4.ldPart ha hx (kp := ki) (y := x.1) (off := 0) ⟨[], _, rfl, rfl⟩ (sz := 2) rfl (hp4.ldPart ha hx (kp := ki) (y := x.2.1) (off := 1) ⟨[_], [], rfl, rfl⟩ (sz := 2) rfl ?_)⟩
        have f4 : AS.Fit { m2 with wt := false } (2 * i + 1) := ⟨ft2.lg, ft2.cs, ft2.sz⟩
        refine i9 ra4 f4 (by omega) fun er S5 k5 ra5 st5 => ?_
        refine i8 ra5 fun k6 ra6 st6 => ?_
        have f5 := (f4.act (.st x.1 x.2.1)).1
        exact tail _ _ k6 ra6 ⟨by have := f5.lg; exact this, f5.cs, f5.sz⟩
      have j7 : law9_ParkSteps.j7 c6 c8 c9 c10 Q (pk, (some (ptr b), (B, (o0.flat, ())))) go (was, ((i : Int), (o.flat, u))) o2.den (false, ()) k3 := ⟨fun e => (by cases e), fun _ => j6⟩
      refine ⟨fun z => ?_, fun _ => ⟨fun z => ?_, fun _ => j7⟩⟩
      · have z : (1 : Int) < w64 ((t3.len : Int) - (t1.len : Int)) := of_decide_eq_true z
        rw [hd] at z; omega
      · have z : w64 ((t3.len : Int) - (t1.len : Int)) = 1 := of_decide_eq_true z
        rw [hd] at z
        have ha : o.answer.1 = 0 := Decidable.byContradiction fun n => by have := hrun n; omega
        show law9_ParkSteps.j7 c6 c8 c9 c10 Q (pk, (some (ptr b), (B, (o0.flat, ())))) go (was, ((i : Int), (o.flat, u))) o2.den (decide (o.answer.1 ≠ 0), ()) k3
        rw [decide_eq_false (fun n => n ha)]
        exact j7
    · refine i6 (o := o) ⟨fun _ => hQ k lk, fun z => ?_⟩
      have z : ¬ 0 < B := of_decide_eq_false z
      have : o = POp.zero := P.1 (by omega)
      rw [this]
      exact hQ k lk
  -- the bound
  have start : ∀ (x : Int) (o0 : POp) (r0 : R9) (dl0 : List (Den KP2)) (b : Nat) (m0 : AS) (S0 : Nat → Prop) (k : Heap) (B : Int), 0 ≤ x → (1 ≤ w → w ≤ 64 → B = boundP x w) → (o0 = POp.zero ∨ (o0.st.workers = w ∧ 1 ≤ w ∧ w ≤ 64 ∧ o0.mu = boundP x w)) → RelP dl0 o0 r0 → RA h b m0 S0 k → m0.Fit 0 →
      law9_ParkSteps.k11 c5 c6 c7 c8 c9 c10 Q (w, (pk, (some (ptr b), (B, (o0.flat, ()))))) k := by
    intro x o0 r0 dl0 b m0 S0 k B x0 hB hmu R0 ra0 f0
    have zero : ¬ (1 ≤ w ∧ w ≤ 64) → law9_ParkSteps.j10 c5 c6 c7 c8 c9 c10 Q (w, (pk, (some (ptr b), (B, (o0.flat, ()))))) (true, ()) k := fun n =>
      ⟨fun _ => loop 0 o0 r0 dl0 b m0 S0 k (by decide) (by decide) R0 ⟨fun _ => hmu.resolve_right fun q => n ⟨q.2.1, q.2.2.1⟩, fun ha _ => by
        rw [hmu.resolve_right fun q => n ⟨q.2.1, q.2.2.1⟩] at ha; exact absurd ha (by decide)⟩ ra0 f0, fun e => (by cases e)⟩
    refine ⟨fun e => zero fun z => ?_, fun e => ?_⟩
    · have e : w < 1 := of_decide_eq_true e
      omega
    · have e : ¬ w < 1 := of_decide_eq_false e
      show law9_ParkSteps.j10 c5 c6 c7 c8 c9 c10 Q (w, (pk, (some (ptr b), (B, (o0.flat, ()))))) (decide ((64 : Int) < w), ()) k
      by_cases c : 64 < w
      · rw [decide_eq_true c]; exact zero fun z => by omega
      · rw [decide_eq_false c]
        have bd : 1 ≤ boundP x w ∧ boundP x w ≤ 131 := by
          unfold boundP
          rw [if_neg e, if_neg c]
          split
          · omega
          · split
            · omega
            · split <;> omega
        have hB' := hB (by omega) (by omega)
        refine ⟨fun e => (by cases e), fun _ => loop B o0 r0 dl0 b m0 S0 k (by omega) (by omega) R0 ⟨fun z => by omega, fun ha hp => ?_⟩ ra0 f0⟩
        rcases hmu with q | q
        · rw [q] at ha; exact absurd ha (by decide)
        · rw [q.2.2.2, hB']; exact Int.le_of_eq (Int.add_zero _)
  have mid : ∀ (s : Sl) (zs : List Int), Arr h ki s zs → zs.length ≤ 4096 → law9_ParkSteps.k14 c1 c2 c3 c4 c5 c6 c7 c8 c9 c10 Q (s, (base, (w, (dsl, (kind, (self, (pk, ()))))))) h := by
    intro s zs az lz
    have hm8 := Int.emod_nonneg self (b := 8) (by decide)
    have hm8' := Int.emod_lt_of_pos self (b := 8) (by decide)
    have hm4 := Int.emod_nonneg kind (b := 4) (by decide)
    have hm4' := Int.emod_lt_of_pos kind (b := 4) (by decide)
    refine i1 az (by decide) (by decide) (by omega) fun b S h1 ra1 => ⟨fun e => (by cases e), fun _ => i2 (by decide) (by decide) ?_⟩
    obtain ⟨p, hp⟩ : ∃ p : Nat, (p : Int) = 1 + self % 8 := ⟨(1 + self % 8).toNat, by omega⟩
    show c3 (w64 (1 + self % 8)) h1 _
    rw [w64_of (x := 1 + self % 8) (by omega) (by omega), ← hp]
    refine i3 (by omega) (by omega) fun h2 l2 => ⟨fun e => (by cases e), fun _ => ?_⟩
    have ra2 := ra1.more l2
    refine i2 (by decide) (by decide) ?_
    refine i4 (k := kind % 4) hm4 (by omega) (hds.le ra2.le) fun d e h3 l3 B E => i2 (by decide) (by decide) ?_
    have ra3 := ra2.more l3
    obtain ⟨dl0, o0, r0, rfl, _, R0, _⟩ := E (fun _ => False) (fun x q => q.elim)
    have hmu := B.mu
    have f0 : AS.Fit ⟨4096, zs, [], 0, true⟩ 0 := ⟨by simp, by show (zs.length : Int) ≤ 4096; omega, by show (4096 : Int) ≤ 1048576; decide⟩
    show ((decide (kind % 4 = 1) = true → _) ∧ (decide (kind % 4 = 1) = false → _))
    have wx : ∀ a : Int, -200 ≤ a → a ≤ 200 → w64 a = a := fun a h1 h2 => by rw [w64_of] <;> omega
    have fin := start (kind % 4) o0 r0 dl0 b ⟨4096, zs, [], 0, true⟩ S h3
    refine ⟨fun e => ?_, fun e => ⟨fun e2 => ?_, fun e2 => ⟨fun e3 => ?_, fun e3 => ?_⟩⟩⟩
    · have e : kind % 4 = 1 := of_decide_eq_true e
      exact fin _ hm4 (fun a b => by unfold boundP; rw [if_neg (by omega), if_neg (by omega), if_pos e]; show w64 (w + 1) = _; exact wx _ (by omega) (by omega)) hmu R0 ra3 f0
    · have e : ¬ kind % 4 = 1 := of_decide_eq_false e
      have e2 : kind % 4 = 2 := of_decide_eq_true e2
      exact fin _ hm4 (fun a b => by unfold boundP; rw [if_neg (by omega), if_neg (by omega), if_neg e, if_pos e2]) hmu R0 ra3 f0
    · have e : ¬ kind % 4 = 1 := of_decide_eq_false e
      have e2 : ¬ kind % 4 = 2 := of_decide_eq_false e2
      have e3 : kind % 4 = 3 := of_decide_eq_true e3
      exact fin _ hm4 (fun a b => by unfold boundP; rw [if_neg (by omega), if_neg (by omega), if_neg e, if_neg e2, if_pos e3]; show w64 (w64 (2 * w) - 1) = _; rw [wx (2 * w) (by omega) (by omega), wx _ (by omega) (by omega)]) hmu R0 ra3 f0
    · have e : ¬ kind % 4 = 1 := of_decide_eq_false e
      have e2 : ¬ kind % 4 = 2 := of_decide_eq_false e2
      have e3 : ¬ kind % 4 = 3 := of_decide_eq_false e3
      exact fin _ hm4 (fun a b => by unfold boundP; rw [if_neg (by omega), if_neg (by omega), if_neg e, if_neg e2, if_neg e3]; show w64 (w64 (2 * w) + 3) = _; rw [wx (2 * w) (by omega) (by omega), wx _ (by omega) (by omega)]) hmu R0 ra3 f0
  refine ⟨fun e => ?_, fun e => ?_⟩
  · have e : (4096 : Int) < (bg.len : Int) := of_decide_eq_true e
    have hcap := hbg.2.1
    refine ⟨⟨by decide, by omega⟩, ?_⟩
    exact mid _ (bs.take 4096) (hbg.pre (by omega)) (by rw [List.length_take]; omega)
  · have e : ¬ (4096 : Int) < (bg.len : Int) := of_decide_eq_false e
    exact mid bg bs hbg (by omega)
end
end Go.Mx
