/-
  The deque alone: a step of a thief's machine.
-/
import Derived.Test.YtjkecefbbijajaaMxQf
set_option linter.unusedVariables false
set_option linter.unusedSimpArgs false
namespace Go.Mx

/-- TOP is written. -/
structure Set0 (cs cs' : List Int) (x : Int) : Prop where
  e0 : gt cs' 0 = x
  far : ∀ y, 0 ≤ y → y ≠ 0 → gt cs' y = gt cs y
  eA : cA cs' = cA cs
  eC : cC cs' = cC cs
  eE : ∀ j, cE cs' j = cE cs j
  bf : ∀ a, Buf cs a → Buf cs' a ∧ gt cs' a = gt cs a
  len : cs'.length = cs.length
theorem set0 {most sz N : Int} {cs : List Int} {own : DOp} (g : DG most sz N cs own) (hl : (0 : Int) < (cs.length : Int)) (x : Int) : Set0 cs (cs.set (0 : Int).toNat x) x := by
  have far : ∀ y, 0 ≤ y → y ≠ 0 → gt (cs.set (0 : Int).toNat x) y = gt cs y := fun y h0 hx => gt_set_ne (by omega) h0 hx
  have a3 := g.a3
  have c1 := g.c1
  have eA : cA (cs.set (0 : Int).toNat x) = cA cs := far 2 (by omega) (by omega)
  have eC : cC (cs.set (0 : Int).toNat x) = cC cs := by show gt _ (cA _) = _; rw [eA]; exact far _ (by omega) (by omega)
  refine ⟨by rw [gt_set (by omega) hl (by omega), if_pos rfl], far, eA, eC, fun j => ?_, fun a hb => ?_, List.length_set⟩
  · show gt _ (pl (cA _) (cC _) j) = _
    have := pl_range (a := cA cs) (i := j) c1
    rw [eA, eC]
    exact far _ (by omega) (by omega)
  · obtain ⟨b1, b2, b3, b4⟩ := hb
    have ey : gt (cs.set (0 : Int).toNat x) a = gt cs a := far a (by omega) (by omega)
    exact ⟨⟨b1, by rw [ey]; exact b2, by rw [ey]; exact b3, by rw [ey, eA]; exact b4⟩, ey⟩

theorem OwnS.low {most : Int} {cs : List Int} {o : DOp} (h : OwnS most cs o) (l : lowered o) : o.b = gt cs 1 ∧ (o.pc = 11 → gt cs 0 = o.b + 1) := by
  obtain ⟨k, l⟩ := l
  cases h with
  | idle p => omega
  | pu1 k' | pu2 k' | pu3 k' | pu4 k' | pu5 k' | pu6 k' | pu7 k' | pu8 k' | pu9 k' | pu10 k' | pu11 k' => omega
  | po1 _ p i | po3 _ p i | po11 _ p i => omega
  | po2 _ p i w b | po4 _ p i w b | po12 _ p i w b | po13 _ p i w b => exact ⟨b, fun q => by omega⟩
  | pe _ p i w b t tt => exact ⟨b, fun _ => tt⟩
  | pf _ p i b t tt => exact ⟨b, fun _ => tt⟩

theorem OwnS.bump {most sz N : Int} {cs cs' : List Int} {o : DOp} (h : OwnS most cs o) (g : DG most sz N cs o) (s : Set0 cs cs' (gt cs 0 + 1)) (av : Av cs o (gt cs 0)) : OwnS most cs' o := by
  obtain ⟨e0, far, eA, eC, eE, bf, len⟩ := s
  have e1 : gt cs' 1 = gt cs 1 := far 1 (by omega) (by omega)
  have g7 := g.a3
  have g8 := g.c1
  have g9 := g.cm
  have hc2 : ∀ {c2 : Int}, (c2 = if most < 2 * cC cs then most else 2 * cC cs) → 1 ≤ c2 := fun {c2} h => by rw [h]; split <;> omega
  cases h with
  | idle p => exact .idle p
  | pu1 k p => exact .pu1 k p
  | pu2 k p b => exact .pu2 k p (b.trans e1.symm)
  | pu3 k p b t0 t f => exact .pu3 k p (b.trans e1.symm) t0 (by omega) (by rw [eC]; exact f)
  | pu4 k p b t0 t f a => exact .pu4 k p (b.trans e1.symm) t0 (by omega) (by rw [eC]; exact f) (a.trans eA.symm)
  | pu5 k p b t0 t f a c lt c2 => exact .pu5 k p (b.trans e1.symm) t0 (by omega) (by rw [eC]; exact f) (a.trans eA.symm) (c.trans eC.symm) (by rw [eC]; exact lt) (by rw [eC]; exact c2)
  | pu6 k p b t0 t f a c lt c2 a2 => exact .pu6 k p (b.trans e1.symm) t0 (by omega) (by rw [eC]; exact f) (a.trans eA.symm) (c.trans eC.symm) (by rw [eC]; exact lt) (by rw [eC]; exact c2) (by rw [eA, eC]; exact a2)
  | pu7 k p b t0 t f a c lt c2 a2 hd i1 i2 cp =>
    refine .pu7 k p (b.trans e1.symm) t0 (by omega) (by rw [eC]; exact f) (a.trans eA.symm) (c.trans eC.symm) (by rw [eC]; exact lt) (by rw [eC]; exact c2) (by rw [eA, eC]; exact a2) (by rw [far _ (by omega) (by omega)]; exact hd) i1 i2 fun j h1 h2 => ?_
    have := pl_range (a := o.a2) (i := j) (hc2 c2)
    rw [eE, far _ (by omega) (by omega)]; exact cp j h1 h2
  | pu8 k p b t0 t f a c lt c2 a2 hd i1 i2 cp x =>
    refine .pu8 k p (b.trans e1.symm) t0 (by omega) (by rw [eC]; exact f) (a.trans eA.symm) (c.trans eC.symm) (by rw [eC]; exact lt) (by rw [eC]; exact c2) (by rw [eA, eC]; exact a2) (by rw [far _ (by omega) (by omega)]; exact hd) i1 i2 (fun j h1 h2 => ?_) (x.trans (eE _).symm)
    have := pl_range (a := o.a2) (i := j) (hc2 c2)
    rw [eE, far _ (by omega) (by omega)]; exact cp j h1 h2
  | pu9 k p b t0 t f a c lt c2 a2 hd cp =>
    refine .pu9 k p (b.trans e1.symm) t0 (by omega) (by rw [eC]; exact f) (a.trans eA.symm) (c.trans eC.symm) (by rw [eC]; exact lt) (by rw [eC]; exact c2) (by rw [eA, eC]; exact a2) (by rw [far _ (by omega) (by omega)]; exact hd) fun j h1 h2 => ?_
    have := pl_range (a := o.a2) (i := j) (hc2 c2)
    rw [eE, far _ (by omega) (by omega)]; exact cp j h1 h2
  | pu10 k p b t0 t f a c => exact .pu10 k p (b.trans e1.symm) t0 (by omega) (by rw [eC]; exact f) (a.trans eA.symm) (c.trans eC.symm)
  | pu11 k p b t0 t f a c e => exact .pu11 k p (b.trans e1.symm) t0 (by omega) (by rw [eC]; exact f) (a.trans eA.symm) (c.trans eC.symm) ((eE _).trans e)
  | po1 k p i w => exact .po1 k p i w
  | po3 k p i w b => exact .po3 k p i w (by omega)
  | po11 k p i w b a => exact .po11 k p i w (by omega) (a.trans eA.symm)
  | po2 k p i w b a => exact .po2 k p i w (b.trans e1.symm) (a.trans eA.symm)
  | po4 k p i w b a t0 t tb => exact .po4 k p i w (b.trans e1.symm) (a.trans eA.symm) t0 (by omega) tb
  | po12 k p i w b a t0 t tb c => exact .po12 k p i w (b.trans e1.symm) (a.trans eA.symm) t0 (by omega) tb (c.trans eC.symm)
  | po13 k p i w b t0 t tb x => exact .po13 k p i w (b.trans e1.symm) t0 (by omega) tb (x.trans (eE _).symm)
  | pe k p i w b t tt => rcases av with v | ⟨v, _⟩ <;> omega
  | pf k p i b t tt => rcases av with v | ⟨v, _⟩ <;> omega

/-- What a step of a thief does. -/
inductive TEff (cs : List Int) (own th : DOp) (cs' : List Int) (th' : DOp) : Prop
  | same (p : th'.pc ≠ 0) (c : cs' = cs)
  | empty (k : th.kind = 3) (p : th'.pc = 0) (co : th'.code = 5) (va : th'.value = 0) (c : cs' = cs) (b : gt cs 1 ≤ th.t) (t : th.t ≤ gt cs 0)
  | lost (k : th.kind = 3) (p : th'.pc = 0) (co : th'.code = 6) (va : th'.value = 0) (c : cs' = cs) (t : th.t < gt cs 0)
  | got (k : th.kind = 3) (p : th'.pc = 0) (co : th'.code = 4) (va : th'.value = cE cs (gt cs 0)) (t : th.t = gt cs 0) (t' : gt cs' 0 = gt cs 0 + 1) (b' : gt cs' 1 = gt cs 1)
      (c : (ctn cs = th'.value :: ctn cs' ∧ hand cs' own = hand cs own) ∨ (ctn cs = [] ∧ ctn cs' = [] ∧ hand cs own = [th'.value] ∧ hand cs' own = []))
  | look (k : th.kind = 4) (p : th'.pc = 0) (co : th'.code = 7 ∨ th'.code = 8) (va : th'.value = 0) (c : cs' = cs) (h : th'.code = 7 ↔ th.t < gt cs 1) (t : th.t ≤ gt cs 0)
structure ThR (most sz N : Int) (s : AS) (own th : DOp) (s' : AS) (th' : DOp) : Prop where
  dg : DG most sz N s'.cs own
  os : OwnS most s'.cs own
  me : ThS s'.cs own th'
  ths : ∀ th2, ThS s.cs own th2 → ThS s'.cs own th2
  eff : TEff s.cs own th s'.cs th'
  cc : cC s'.cs = cC s.cs
  bl : Bl s'.cs own = Bl s.cs own

theorem hand_set0 {cs cs' : List Int} {own : DOp} (s : Set0 cs cs' (gt cs 0 + 1)) (h : own.kind = 2 ∧ (own.pc = 2 ∨ own.pc = 4 ∨ own.pc = 12 ∨ own.pc = 13) → own.b ≠ gt cs 0) : hand cs' own = hand cs own := by
  unfold hand
  rw [s.e0, s.eE]
  by_cases q : own.kind = 2 ∧ (own.pc = 2 ∨ own.pc = 4 ∨ own.pc = 12 ∨ own.pc = 13)
  · rw [if_pos q, if_pos q]
    have := h q
    by_cases r : gt cs 0 ≤ own.b
    · rw [if_pos r, if_pos (by omega)]
    · rw [if_neg r, if_neg (by omega)]
  · rw [if_neg q, if_neg q]

theorem th_step {most sz N : Int} {s : AS} {own th : DOp} (g : DG most sz N s.cs own) (hnw : 0 ≤ newer own) (hm : Mach most th) (ho : OwnS most s.cs own) (ht : ThS s.cs own th) (pp : th.pc ≠ 0) :
    ∃ v s', arenaI s th.req = (some v, s') ∧ ThR most sz N s own th s' (th.after v) := by
  obtain ⟨hb0, hmo⟩ := hm pp
  have g' := g
  obtain ⟨g1, g2, g3, g4, g5, g6, g7, g8, g9, g10, g11, g12, g13⟩ := g'
  have d := fun {x : Int} => g.dep (x := x) hnw
  have rd : ∀ {s' : AS} {o' : DOp}, s'.cs = s.cs → ThS s.cs own o' → TEff s.cs own th s.cs o' → ThR most sz N s own th s' o' := fun {s' o'} hc h1 h2 => ⟨by rw [hc]; exact g, by rw [hc]; exact ho, by rw [hc]; exact h1, fun t2 h => by rw [hc]; exact h, by rw [hc]; exact h2, by rw [hc], by rw [hc]⟩
  cases ht with
  | idle p => exact absurd p pp
  | st2 k p =>
    refine ⟨_, _, by rw [req2 hb0 p]; exact ld_ok (d (by omega) (by omega)), ?_⟩
    rw [show th.after (gt s.cs 0) = { th with t := gt s.cs 0, pc := 1 } from by simp [DOp.after, DOp.stolen, k, p]]
    exact rd rfl (.st1 k rfl g2 (Int.le_refl _)) (.same (by simp) rfl)
  | st1 k p t0 t =>
    refine ⟨_, _, by rw [req1 hb0 p]; exact ld_ok (d (by omega) (by omega)), ?_⟩
    by_cases q : gt s.cs 1 ≤ th.t
    · rw [show th.after (gt s.cs 1) = DOp.over { th with b := gt s.cs 1, pc := 3 } 5 0 from by simp only [DOp.after, DOp.stolen, k, p, if_true]; rw [if_neg (by decide), if_neg (by decide), if_neg (by decide), if_pos q]]
      exact rd rfl (.idle rfl) (.empty k rfl rfl rfl rfl q t)
    · rw [show th.after (gt s.cs 1) = { th with b := gt s.cs 1, pc := 3 } from by simp only [DOp.after, DOp.stolen, k, p, if_true]; rw [if_neg (by decide), if_neg (by decide), if_neg (by decide), if_neg q]]
      exact rd rfl (.st3 k rfl t0 t fun _ => .inl (by dsimp only; omega)) (.same (by simp) rfl)
  | st3 k p t0 t av =>
    refine ⟨_, _, by rw [req3 hb0 p]; exact ld_ok (d (by omega) (by omega)), ?_⟩
    rw [show th.after (gt s.cs 2) = { th with a := gt s.cs 2, pc := 4 } from by simp [DOp.after, DOp.stolen, k, p]]
    exact rd rfl (.st4 k rfl t0 t av ⟨g7, g8, (show cC s.cs ≤ 4096 by omega), .inl rfl⟩ (fun _ => rfl)) (.same (by simp) rfl)
  | st4 k p t0 t av bf e =>
    have hr := bf.room g7 g8
    have bf' := bf
    obtain ⟨b1, b2, b3, b4⟩ := bf'
    refine ⟨_, _, by rw [req4 hb0 p]; exact ld_ok (d (by omega) (by omega)), ?_⟩
    rw [show th.after (gt s.cs th.a) = { th with c := gt s.cs th.a, pc := 12 } from by simp only [DOp.after, DOp.stolen, k, p, if_true]; rw [if_neg (by decide), if_neg (by decide), if_neg (by decide), if_neg (by decide), if_neg (by decide), if_neg (show ¬ gt s.cs th.a < 1 by omega)]]
    exact rd rfl (.st12 k rfl t0 t av bf rfl e) (.same (by simp) rfl)
  | st12 k p t0 t av bf c e =>
    have hr := bf.room g7 g8
    have bf' := bf
    obtain ⟨b1, b2, b3, b4⟩ := bf'
    have hpl : placeD th.a th.c th.t = pl th.a (gt s.cs th.a) th.t := by rw [c]; exact placeD_pl (by omega) (by omega) (by omega) (by omega) (by omega)
    have hrr := pl_range (a := th.a) (i := th.t) b2
    refine ⟨_, _, by rw [req12 hb0 p, if_neg (by omega), hpl]; exact ld_ok (d (by omega) (by omega)), ?_⟩
    rw [show th.after (gt s.cs (pl th.a (gt s.cs th.a) th.t)) = { th with x := gt s.cs (pl th.a (gt s.cs th.a) th.t), pc := 13 } from by simp [DOp.after, DOp.stolen, k, p]]
    exact rd rfl (.st13 k rfl t0 t av e) (.same (by simp) rfl)
  | st13 k p t0 t av x =>
    have wt : w64 (th.t + 1) = th.t + 1 := by
      have := g.bn
      rw [w64_of] <;> omega
    by_cases q : gt s.cs 0 = th.t
    · refine ⟨_, _, by rw [req13 hb0 p, wt]; exact cas_ok (d (by omega) (by omega)) q, ?_⟩
      rw [show th.after 1 = th.over 4 th.x from by simp [DOp.after, DOp.stolen, k, p]]
      have av := av q.symm
      rw [← q] at av
      have x := x q.symm
      rw [← q] at x
      have s0 := set0 g (d (x := 0) (by omega) (by omega)).2 (gt s.cs 0 + 1)
      rw [← q]
      have hBl : Bl (s.cs.set (0 : Int).toNat (gt s.cs 0 + 1)) own = Bl s.cs own := by
        unfold Bl
        rw [s0.far 1 (by omega) (by omega)]
      have hT : gt s.cs 0 + 1 ≤ Bl s.cs own := by
        by_cases l : lowered own
        · rw [Bl_lo l]
          have := ho.low l
          rcases av with v | ⟨v, _⟩ <;> omega
        · rw [Bl_up l]
          rcases av with v | ⟨_, v, _⟩
          · omega
          · exact absurd v l
      have e1 := s0.far 1 (by omega) (by omega)
      refine ⟨⟨g1, by show 0 ≤ gt (s.cs.set _ _) 0; rw [s0.e0]; omega, by show gt (s.cs.set _ _) 0 ≤ Bl (s.cs.set _ _) _; rw [hBl, s0.e0]; exact hT, by show Bl (s.cs.set _ _) _ - gt (s.cs.set _ _) 0 ≤ cC (s.cs.set _ _); rw [hBl, s0.e0, s0.eC]; omega, by show Bl (s.cs.set _ _) _ ≤ _; rw [hBl]; exact g5, g6,
        by show 3 ≤ cA (s.cs.set _ _); rw [s0.eA]; exact g7, by show 1 ≤ cC (s.cs.set _ _); rw [s0.eC]; exact g8, by show cC (s.cs.set _ _) ≤ most; rw [s0.eC]; exact g9, by show ((s.cs.set _ _).length : Int) = cA (s.cs.set _ _) + cC (s.cs.set _ _) + 1 + newer _; rw [s0.eA, s0.eC, s0.len]; exact g10, g11, by show ((s.cs.set _ _).length : Int) ≤ sz; rw [s0.len]; exact g12,
        by show ∃ k : Nat, most - cC (s.cs.set _ _) ≤ (k : Int) ∧ cellsGo most k (cA (s.cs.set _ _) + cC (s.cs.set _ _) + 1) (cC (s.cs.set _ _)) = sz; rw [s0.eA, s0.eC]; exact g13⟩,
        ho.bump g s0 av, .idle rfl, fun t2 h => h.bump s0.e0 s0.bf, .got k rfl rfl x q.symm s0.e0 e1 ?_, s0.eC, hBl⟩
      rcases av with v | ⟨v1, v2, v3, v4⟩
      · refine .inl ⟨?_, hand_set0 s0 fun q2 => ?_⟩
        · have := ctn_take (cs := s.cs) (cs' := s.cs.set (0 : Int).toNat (gt s.cs 0 + 1)) s0.e0 e1 v (fun i _ _ => s0.eE i)
          show ctn s.cs = th.x :: _
          rw [x]; exact this
        · by_cases l : lowered own
          · have := (ho.low l).1; omega
          · have : own.t < own.b := by
              cases ho with
              | idle p => omega
              | pu1 k' | pu2 k' | pu3 k' | pu4 k' | pu5 k' | pu6 k' | pu7 k' | pu8 k' | pu9 k' | pu10 k' | pu11 k' => omega
              | po1 _ p i | po3 _ p i | po11 _ p i => omega
              | po2 k' p => exact absurd (lo2 k' p) l
              | po4 k' p _ _ _ _ _ _ tb => exact Classical.byContradiction fun e => l (lo4 k' (.inl p) (by omega))
              | po12 k' p _ _ _ _ _ _ tb => exact Classical.byContradiction fun e => l (lo4 k' (.inr (.inl p)) (by omega))
              | po13 k' p _ _ _ _ _ tb => exact absurd (lo4 k' (.inr (.inr p)) tb) l
              | pe k' p i => exact absurd (lo11 k' p i) l
              | pf k' p i => exact absurd (lo11 k' p i) l
            cases ho with
            | idle p => omega
            | pu1 k' | pu2 k' | pu3 k' | pu4 k' | pu5 k' | pu6 k' | pu7 k' | pu8 k' | pu9 k' | pu10 k' | pu11 k' => omega
            | po1 _ p i | po3 _ p i | po11 _ p i => omega
            | po2 _ p _ _ b | po4 _ p _ _ b | po12 _ p _ _ b | po13 _ p _ _ b => omega
            | pe _ p _ _ b => omega
            | pf _ p _ b => omega
      · have hk := v2.1
        have hp : own.pc = 2 ∨ own.pc = 4 ∨ own.pc = 12 ∨ own.pc = 13 := by obtain ⟨_, l⟩ := v2; omega
        refine .inr ⟨ctn_nil (by omega), ctn_nil (by show gt (s.cs.set _ _) 1 ≤ gt (s.cs.set _ _) 0; rw [s0.e0, e1]; omega), ?_, ?_⟩
        · rw [hand2 hk hp, if_pos (by omega), v3]
          show _ = [th.x]
          rw [x]
        · show hand (s.cs.set _ _) own = []
          rw [hand2 hk hp, s0.e0, if_neg (by omega)]
    · refine ⟨_, _, by rw [req13 hb0 p, wt]; exact cas_no (d (by omega) (by omega)) q, ?_⟩
      rw [show th.after 0 = th.over 6 0 from by simp [DOp.after, DOp.stolen, k, p]]
      exact rd rfl (.idle rfl) (.lost k rfl rfl rfl rfl (by omega))
  | lk2 k p =>
    refine ⟨_, _, by rw [req2 hb0 p]; exact ld_ok (d (by omega) (by omega)), ?_⟩
    rw [show th.after (gt s.cs 0) = { th with t := gt s.cs 0, pc := 1 } from by simp [DOp.after, DOp.looked, k, p]]
    exact rd rfl (.lk1 k rfl g2 (Int.le_refl _)) (.same (by simp) rfl)
  | lk1 k p t0 t =>
    refine ⟨_, _, by rw [req1 hb0 p]; exact ld_ok (d (by omega) (by omega)), ?_⟩
    by_cases q : th.t < gt s.cs 1
    · rw [show th.after (gt s.cs 1) = th.over 7 0 from by simp only [DOp.after, DOp.looked, k, p, if_true]; rw [if_neg (by decide), if_neg (by decide), if_neg (by decide), if_neg (by decide), if_pos q]]
      exact rd rfl (.idle rfl) (.look k rfl (.inl rfl) rfl rfl ⟨fun _ => q, fun _ => rfl⟩ t)
    · rw [show th.after (gt s.cs 1) = th.over 8 0 from by simp only [DOp.after, DOp.looked, k, p, if_true]; rw [if_neg (by decide), if_neg (by decide), if_neg (by decide), if_neg (by decide), if_neg q]]
      exact rd rfl (.idle rfl) (.look k rfl (.inr rfl) rfl rfl ⟨fun h => absurd (show (8 : Int) = 7 from h) (by decide), fun h => absurd h q⟩ t)

theorem newer_nn {most : Int} {cs : List Int} {own : DOp} (h : OwnS most cs own) (c1 : 1 ≤ cC cs) (cm : cC cs ≤ most) : 0 ≤ newer own := by
  have hc2 : ∀ {c2 : Int}, (c2 = if most < 2 * cC cs then most else 2 * cC cs) → 0 ≤ 1 + c2 := fun {c2} h => by rw [h]; split <;> omega
  unfold newer
  split
  · rename_i q
    cases h with
    | idle p => omega
    | pu1 k p | pu2 k p | pu3 k p | pu4 k p | pu5 k p | pu10 k p | pu11 k p => omega
    | pu6 k p b t0 t f a c lt c2 => exact hc2 c2
    | pu7 k p b t0 t f a c lt c2 => exact hc2 c2
    | pu8 k p b t0 t f a c lt c2 => exact hc2 c2
    | pu9 k p b t0 t f a c lt c2 => exact hc2 c2
    | po1 k | po3 k | po11 k | po2 k | po4 k | po12 k | po13 k | pe k | pf k => omega
  · exact Int.le_refl _

end Go.Mx
