/-
  One call of the deque alone: what it comes to, within how many steps.
-/
import Derived.Test.YtppehoailhjdfaaMxQk
set_option linter.unusedVariables false
set_option linter.unusedSimpArgs false
set_option linter.unusedSectionVars false
namespace Go.Mx

def runD : Nat → AS → DOp → AS × DOp
  | 0, s, o => (s, o)
  | n + 1, s, o => runD n (stepD arenaI s o).1 (stepD arenaI s o).2
theorem stepD_end {s : AS} {o : DOp} (h : o.pc = 0) : stepD arenaI s o = (s, o) := by
  unfold stepD
  by_cases e : o = DOp.zero
  · rw [if_pos e]
  · rw [if_neg e, if_pos h]
theorem runD_end : ∀ (n : Nat) {s : AS} {o : DOp}, o.pc = 0 → runD n s o = (s, o)
  | 0, _, _, _ => rfl
  | n + 1, s, o, h => by rw [runD, stepD_end h]; exact runD_end n h
/-- Between two calls: what the deque holds. -/
structure DS (most sz : Int) (K : Int) (s : AS) (l : List Int) : Prop where
  dg : DG most sz K s.cs DOp.zero
  sz : s.sz = sz
  l : ctn s.cs = l
structure DEnd (most sz K : Int) (l : List Int) (code v : Int) (s : AS) (o : DOp) : Prop where
  ds : DS most sz K s l
  pc : o.pc = 0
  nz : o ≠ DOp.zero
  co : o.code = code
  va : o.value = v
theorem arena_sz (s : AS) (r : Rq) : (arenaI s r).2.sz = s.sz := by
  unfold arenaI
  cases r with
  | ld a => dsimp only; split <;> rfl
  | st a v => dsimp only; split <;> rfl
  | cas a x y => dsimp only; split <;> rfl
  | rs n =>
    dsimp only
    split
    · rfl
    · split <;> rfl
theorem DG.zero {most sz N K : Int} {cs : List Int} {o : DOp} (g : DG most sz N cs o) (p : o.pc = 0) (hk : Bl cs o ≤ K) (h1 : K ≤ 1000000000) : DG most sz K cs DOp.zero := by
  have e1 : Bl cs DOp.zero = Bl cs o := (Bl_up (lowp (.inl rfl))).trans (Bl_up (lowp (.inl p))).symm
  have e2 : newer DOp.zero = newer o := (new0 (.inr (.inl (by decide)))).trans (new0 (.inr (.inl (by omega)))).symm
  obtain ⟨g1, g2, g3, g4, g5, g6, g7, g8, g9, g10, g11, g12, g13⟩ := g.re e1 e2
  exact ⟨g1, g2, g3, g4, by rw [e1]; exact hk, h1, g7, g8, g9, g10, g11, g12, g13⟩
theorem ctn_len (cs : List Int) : (ctn cs).length = (gt cs 1 - gt cs 0).toNat := by unfold ctn; simp

/-! ### push -/
def phiP (n : Int) (o : DOp) : Int :=
  if o.pc = 1 then 9 + 2 * n else if o.pc = 2 then 8 + 2 * n else if o.pc = 3 then 7 + 2 * n else if o.pc = 4 then 6 + 2 * n else if o.pc = 5 then 5 + 2 * n else if o.pc = 6 then 4 + 2 * n
  else if o.pc = 7 then 3 + 2 * (o.b - o.i) else if o.pc = 8 then 2 + 2 * (o.b - o.i) else if o.pc = 9 then 3 else if o.pc = 10 then 2 else 1
theorem pushed_phi {o : DOp} {g n : Int} (h1 : 1 ≤ o.pc) (h2 : o.pc ≤ 11) (hn : 0 ≤ n) (h6 : o.pc = 6 → o.b - o.t = n) (h8 : o.pc = 8 → o.i < o.b ∧ w64 (o.i + 1) = o.i + 1) : (o.pushed g).pc = 0 ∨ phiP n (o.pushed g) + 1 ≤ phiP n o := by
  have c : o.pc = 1 ∨ o.pc = 2 ∨ o.pc = 3 ∨ o.pc = 4 ∨ o.pc = 5 ∨ o.pc = 6 ∨ o.pc = 7 ∨ o.pc = 8 ∨ o.pc = 9 ∨ o.pc = 10 ∨ o.pc = 11 := by omega
  rcases c with c | c | c | c | c | c | c | c | c | c | c
  · rw [show o.pushed g = { o with b := g, pc := 2 } from by unfold DOp.pushed; rw [if_pos c]]
    right; unfold phiP; simp [c]; omega
  · rw [show o.pushed g = { o with t := g, pc := 3 } from by unfold DOp.pushed; rw [if_neg (show ¬ o.pc = 1 by omega), if_pos c]]
    right; unfold phiP; simp [c]; omega
  · rw [show o.pushed g = { o with a := g, pc := 4 } from by unfold DOp.pushed; rw [if_neg (show ¬ o.pc = 1 by omega), if_neg (show ¬ o.pc = 2 by omega), if_pos c]]
    right; unfold phiP; simp [c]; omega
  · have e4 : phiP n o = 6 + 2 * n := by unfold phiP; simp [c]
    unfold DOp.pushed
    rw [if_neg (show ¬ o.pc = 1 by omega), if_neg (show ¬ o.pc = 2 by omega), if_neg (show ¬ o.pc = 3 by omega), if_pos c]
    refine pif (P := fun x : DOp => x.pc = 0 ∨ phiP n x + 1 ≤ phiP n o) (fun _ => .inl rfl) fun _ => pif (P := fun x : DOp => x.pc = 0 ∨ phiP n x + 1 ≤ phiP n o) (fun _ => .inr ?_) fun _ => pif (P := fun x : DOp => x.pc = 0 ∨ phiP n x + 1 ≤ phiP n o) (fun _ => .inl rfl) fun _ => .inr ?_
    · rw [e4]; unfold phiP; simp; omega
    · rw [e4]; unfold phiP; simp; omega
  · rw [show o.pushed g = { o with a2 := g, pc := 6 } from by unfold DOp.pushed; rw [if_neg (show ¬ o.pc = 1 by omega), if_neg (show ¬ o.pc = 2 by omega), if_neg (show ¬ o.pc = 3 by omega), if_neg (show ¬ o.pc = 4 by omega), if_pos c]]
    right; unfold phiP; simp [c]; omega
  · have := h6 c
    rw [show o.pushed g = { o with i := o.t, pc := 7 } from by unfold DOp.pushed; rw [if_neg (show ¬ o.pc = 1 by omega), if_neg (show ¬ o.pc = 2 by omega), if_neg (show ¬ o.pc = 3 by omega), if_neg (show ¬ o.pc = 4 by omega), if_neg (show ¬ o.pc = 5 by omega), if_pos c]]
    right; unfold phiP; simp [c]; omega
  · rw [show o.pushed g = { o with x := g, pc := 8 } from by unfold DOp.pushed; rw [if_neg (show ¬ o.pc = 1 by omega), if_neg (show ¬ o.pc = 2 by omega), if_neg (show ¬ o.pc = 3 by omega), if_neg (show ¬ o.pc = 4 by omega), if_neg (show ¬ o.pc = 5 by omega), if_neg (show ¬ o.pc = 6 by omega), if_pos c]]
    right; unfold phiP; simp [c]; omega
  · obtain ⟨a, b⟩ := h8 c
    have e8 : phiP n o = 2 + 2 * (o.b - o.i) := by unfold phiP; simp [c]
    rw [show o.pushed g = if w64 (o.i + 1) = o.b then { o with i := w64 (o.i + 1), pc := 9 } else { o with i := w64 (o.i + 1), pc := 7 } from by unfold DOp.pushed; rw [if_neg (show ¬ o.pc = 1 by omega), if_neg (show ¬ o.pc = 2 by omega), if_neg (show ¬ o.pc = 3 by omega), if_neg (show ¬ o.pc = 4 by omega), if_neg (show ¬ o.pc = 5 by omega), if_neg (show ¬ o.pc = 6 by omega), if_neg (show ¬ o.pc = 7 by omega), if_pos c]]
    rw [b]
    refine pif (P := fun x : DOp => x.pc = 0 ∨ phiP n x + 1 ≤ phiP n o) (fun _ => .inr ?_) fun _ => .inr ?_
    · rw [e8]; unfold phiP; simp; omega
    · rw [e8]; unfold phiP; simp; omega
  · rw [show o.pushed g = { o with a := o.a2, c := o.c2, pc := 10 } from by unfold DOp.pushed; rw [if_neg (show ¬ o.pc = 1 by omega), if_neg (show ¬ o.pc = 2 by omega), if_neg (show ¬ o.pc = 3 by omega), if_neg (show ¬ o.pc = 4 by omega), if_neg (show ¬ o.pc = 5 by omega), if_neg (show ¬ o.pc = 6 by omega), if_neg (show ¬ o.pc = 7 by omega), if_neg (show ¬ o.pc = 8 by omega), if_pos c]]
    right; unfold phiP; simp [c]
  · rw [show o.pushed g = { o with pc := 11 } from by unfold DOp.pushed; rw [if_neg (show ¬ o.pc = 1 by omega), if_neg (show ¬ o.pc = 2 by omega), if_neg (show ¬ o.pc = 3 by omega), if_neg (show ¬ o.pc = 4 by omega), if_neg (show ¬ o.pc = 5 by omega), if_neg (show ¬ o.pc = 6 by omega), if_neg (show ¬ o.pc = 7 by omega), if_neg (show ¬ o.pc = 8 by omega), if_neg (show ¬ o.pc = 9 by omega), if_pos c]]
    right; unfold phiP; simp [c]
  · left
    rw [show o.pushed g = o.over 2 0 from by unfold DOp.pushed; rw [if_neg (show ¬ o.pc = 1 by omega), if_neg (show ¬ o.pc = 2 by omega), if_neg (show ¬ o.pc = 3 by omega), if_neg (show ¬ o.pc = 4 by omega), if_neg (show ¬ o.pc = 5 by omega), if_neg (show ¬ o.pc = 6 by omega), if_neg (show ¬ o.pc = 7 by omega), if_neg (show ¬ o.pc = 8 by omega), if_neg (show ¬ o.pc = 9 by omega), if_neg (show ¬ o.pc = 10 by omega), if_pos c]]
    rfl
theorem pushed_t {o : DOp} {g : Int} (h : o.pc ≠ 2) : (o.pushed g).t = o.t := by
  unfold DOp.pushed
  refine pif (P := fun x : DOp => x.t = o.t) (fun _ => rfl) fun _ => ?_
  rw [if_neg h]
  refine pif (P := fun x : DOp => x.t = o.t) (fun _ => rfl) fun _ => pif (P := fun x : DOp => x.t = o.t) (fun _ => ?_) fun _ => pif (P := fun x : DOp => x.t = o.t) (fun _ => rfl) fun _ => pif (P := fun x : DOp => x.t = o.t) (fun _ => rfl) fun _ => pif (P := fun x : DOp => x.t = o.t) (fun _ => rfl) fun _ =>
    pif (P := fun x : DOp => x.t = o.t) (fun _ => ?_) fun _ => pif (P := fun x : DOp => x.t = o.t) (fun _ => rfl) fun _ => pif (P := fun x : DOp => x.t = o.t) (fun _ => rfl) fun _ => pif (P := fun x : DOp => x.t = o.t) (fun _ => rfl) fun _ => rfl
  · exact pif (P := fun x : DOp => x.t = o.t) (fun _ => rfl) fun _ => pif (P := fun x : DOp => x.t = o.t) (fun _ => rfl) fun _ => pif (P := fun x : DOp => x.t = o.t) (fun _ => rfl) fun _ => rfl
  · exact pif (P := fun x : DOp => x.t = o.t) (fun _ => rfl) fun _ => rfl
theorem solo_push {most sz K T B : Int} {l : List Int} {v : Int} (hK : K ≤ 100000000) (hT : 0 ≤ B - T) : ∀ (m : Nat) {s : AS} {o : DOp} {N : Int}, phiP (B - T) o ≤ (m : Int) → DG most sz N s.cs o → N + m ≤ 1000000000 → s.sz = sz → Mach most o → OwnS most s.cs o → o.kind = 1 → o.pc ≠ 0 → o.v = v → gt s.cs 0 = T → gt s.cs 1 = B →
    (3 ≤ o.pc → o.t = T) → ctn s.cs = l → Bl s.cs o ≤ K →
    if (l.length : Int) = most then DEnd most sz (K + 1) l 3 0 (runD m s o).1 (runD m s o).2 else DEnd most sz (K + 1) (l ++ [v]) 2 0 (runD m s o).1 (runD m s o).2
  | 0, s, o, N, hp, g, hN, hs, hm, os, k, pc, hv, h0, h1, ht, hl, hB => by
    exfalso
    unfold phiP at hp
    cases os with
    | idle p => exact pc p
    | po1 k' | po3 k' | po11 k' | po2 k' | po4 k' | po12 k' | po13 k' | pe k' | pf k' => omega
    | pu7 _ p _ _ _ _ _ _ _ _ _ _ i1 i2 => simp [p] at hp; omega
    | pu8 _ p _ _ _ _ _ _ _ _ _ _ i1 i2 => simp [p] at hp; omega
    | pu1 _ p | pu2 _ p | pu3 _ p | pu4 _ p | pu5 _ p | pu6 _ p | pu9 _ p | pu10 _ p | pu11 _ p => simp [p] at hp; try omega
  | m + 1, s, o, N, hp, g, hN, hs, hm, os, k, pc, hv, h0, h1, ht, hl, hB => by
    obtain ⟨w, s', he, R⟩ := own_push g (by omega) hs hm os k pc
    have hst := step_some pc he
    have hs' : s'.sz = sz := by have := arena_sz s o.req; rw [he] at this; exact this.trans hs
    have ha : o.after w = o.pushed w := by unfold DOp.after; rw [if_pos k]
    have same := o.after_same w
    have hr : runD (m + 1) s o = runD m s' (o.after w) := by rw [runD, hst]
    have hlen : (l.length : Int) = B - T := by rw [← hl, ctn_len, h0, h1]; omega
    have hpc : 1 ≤ o.pc ∧ o.pc ≤ 11 := by
      cases os with
      | idle p => exact absurd p pc
      | po1 k' | po3 k' | po11 k' | po2 k' | po4 k' | po12 k' | po13 k' | pe k' | pf k' => omega
      | pu1 _ p | pu2 _ p | pu3 _ p | pu4 _ p | pu5 _ p | pu6 _ p | pu7 _ p | pu8 _ p | pu9 _ p | pu10 _ p | pu11 _ p => omega
    have hb : 3 ≤ o.pc → o.b = B := by
      intro q
      cases os with
      | idle p => exact absurd p pc
      | po1 k' | po3 k' | po11 k' | po2 k' | po4 k' | po12 k' | po13 k' | pe k' | pf k' => omega
      | pu1 _ p | pu2 _ p => omega
      | pu3 _ p b | pu4 _ p b | pu5 _ p b | pu6 _ p b | pu7 _ p b | pu8 _ p b | pu9 _ p b | pu10 _ p b | pu11 _ p b => exact b.trans h1
    rw [hr]
    have hKl : Bl s'.cs (o.after w) ≤ K + 1 := by
      rcases R.bl with q | ⟨_, _, q⟩ <;> omega
    have fin : (o.after w).pc = 0 → DG most sz (K + 1) s'.cs DOp.zero := fun p => R.dg.zero p hKl (by omega)
    cases R.eff with
    | low k' | got k' | empty k' | won k' => omega
    | push _ p co va c h h' t fb p11 =>
      rw [runD_end m p, if_neg (by have := ht (by omega); have := hb (by omega); have := (hm pc).2; omega)]
      exact ⟨⟨fin p, hs', by rw [c, hl, hv]⟩, p, fun e => absurd ((congrArg DOp.code e).symm.trans co) (by decide), co, va⟩
    | full _ p co va c h h' t fb fc bb t0 p4 =>
      rw [runD_end m p, if_pos (by have := ht (by omega); have := hb (by omega); have := (hm pc).2; omega)]
      exact ⟨⟨fin p, hs', by rw [c, hl]⟩, p, fun e => absurd ((congrArg DOp.code e).symm.trans co) (by decide), co, va⟩
    | same p c h t =>
      have hphi : phiP (B - T) (o.after w) + 1 ≤ phiP (B - T) o := by
        rw [ha] at p ⊢
        refine (pushed_phi hpc.1 hpc.2 hT (fun q => ?_) (fun q => ?_)).resolve_left p
        · rw [ht (by omega), hb (by omega)]
        · have bn := g.bn
          rw [Bl_up (low1 k)] at bn
          cases os with
          | idle p => omega
          | po1 k' | po3 k' | po11 k' | po2 k' | po4 k' | po12 k' | po13 k' | pe k' | pf k' => omega
          | pu1 _ p | pu2 _ p | pu3 _ p | pu4 _ p | pu5 _ p | pu6 _ p | pu7 _ p | pu9 _ p | pu10 _ p | pu11 _ p => omega
          | pu8 _ p b t0 _ _ _ _ _ _ _ _ i1 i2 => exact ⟨i2, by rw [w64_of] <;> omega⟩
      have hm' : Mach most (o.after w) := fun _ => ⟨same.2.1.trans (hm pc).1, same.2.2.1.trans (hm pc).2⟩
      have n11 : o.pc ≠ 11 := fun q => by
        rw [ha] at p
        apply p
        unfold DOp.pushed DOp.over
        simp [q]
      have hB1 : Bl s'.cs (o.after w) ≤ K := by
        rcases R.bl with q | ⟨_, q, _⟩
        · omega
        · exact absurd q n11
      have b1 : gt s'.cs 1 = B := by
        have l1 : (ctn s'.cs).length = (ctn s.cs).length := by rw [c]
        rw [ctn_len, ctn_len, h0, h1, t, h0] at l1
        have := R.dg.tb
        have e1 : Bl s'.cs (o.after w) = gt s'.cs 1 := Bl_up (low1 (same.1.trans k))
        rw [e1, t, h0] at this
        omega
      refine solo_push hK hT m (N := N + 1) (by omega) R.dg (by omega) hs' hm' R.os (same.1.trans k) p (same.2.2.2.trans hv) (t.trans h0) b1 (fun q => ?_) (c.trans hl) hB1
      by_cases p2 : o.pc = 2
      · have d := g.dep (x := 0) (by rw [new0 (by omega)]; decide) (by omega) (by have := g.a3; have := g.c1; omega)
        have e2 : arenaI s o.req = (some (gt s.cs 0), s.log (acc s 0 0 (gt s.cs 0) 0 true)) := by rw [req2 (hm pc).1 p2]; exact ld_ok d
        rw [e2] at he
        have hw : gt s.cs 0 = w := by
          have := congrArg Prod.fst he
          exact Option.some.inj this
        rw [ha, ← hw]
        have : (o.pushed (gt s.cs 0)).t = gt s.cs 0 := by unfold DOp.pushed; simp [p2]
        rw [this, h0]
      · rw [ha, pushed_t p2]
        refine ht ?_
        by_cases p1 : o.pc = 1
        · exfalso
          rw [ha] at q
          unfold DOp.pushed at q
          simp [p1] at q
        · omega

/-! ### pop -/
def phiQ (o : DOp) : Int := if o.pc = 1 then 8 else if o.pc = 3 then 7 else if o.pc = 11 then (if o.i = 0 then 6 else 1) else if o.pc = 2 then 5 else if o.pc = 4 then 4 else if o.pc = 12 then 3 else if o.pc = 13 then 2 else 1
theorem popped_phi {o : DOp} {g : Int} (h : o.pc = 1 ∨ o.pc = 3 ∨ o.pc = 11 ∨ o.pc = 2 ∨ o.pc = 4 ∨ o.pc = 12 ∨ o.pc = 13) (h3 : o.pc = 3 → o.i = 0) (h13 : o.pc = 13 → o.i ≠ 0) : (o.popped g).pc = 0 ∨ phiQ (o.popped g) + 1 ≤ phiQ o := by
  rcases h with c | c | c | c | c | c | c
  · rw [show o.popped g = { o with b := w64 (g - 1), pc := 3 } from by unfold DOp.popped; rw [if_pos c]]
    right; unfold phiQ; simp [c]
  · rw [show o.popped g = { o with a := g, pc := 11 } from by unfold DOp.popped; rw [if_neg (show ¬ o.pc = 1 by omega), if_pos c]]
    right; unfold phiQ; simp [c, h3 c]
  · unfold DOp.popped
    rw [if_neg (show ¬ o.pc = 1 by omega), if_neg (show ¬ o.pc = 3 by omega), if_pos c]
    refine pif (P := fun x : DOp => x.pc = 0 ∨ phiQ x + 1 ≤ phiQ o) (fun i => .inr ?_) fun _ => pif (P := fun x : DOp => x.pc = 0 ∨ phiQ x + 1 ≤ phiQ o) (fun _ => .inl rfl) fun _ => .inl rfl
    unfold phiQ; simp [c, i]
  · unfold DOp.popped
    rw [if_neg (show ¬ o.pc = 1 by omega), if_neg (show ¬ o.pc = 3 by omega), if_neg (show ¬ o.pc = 11 by omega), if_pos c]
    refine pif (P := fun x : DOp => x.pc = 0 ∨ phiQ x + 1 ≤ phiQ o) (fun i => .inr ?_) fun _ => .inr ?_
    · unfold phiQ; simp [c]
    · unfold phiQ; simp [c]
  · unfold DOp.popped
    rw [if_neg (show ¬ o.pc = 1 by omega), if_neg (show ¬ o.pc = 3 by omega), if_neg (show ¬ o.pc = 11 by omega), if_neg (show ¬ o.pc = 2 by omega), if_pos c]
    refine pif (P := fun x : DOp => x.pc = 0 ∨ phiQ x + 1 ≤ phiQ o) (fun i => .inl rfl) fun _ => .inr ?_
    unfold phiQ; simp [c]
  · unfold DOp.popped
    rw [if_neg (show ¬ o.pc = 1 by omega), if_neg (show ¬ o.pc = 3 by omega), if_neg (show ¬ o.pc = 11 by omega), if_neg (show ¬ o.pc = 2 by omega), if_neg (show ¬ o.pc = 4 by omega), if_pos c]
    refine pif (P := fun x : DOp => x.pc = 0 ∨ phiQ x + 1 ≤ phiQ o) (fun i => .inl rfl) fun _ => .inr ?_
    unfold phiQ; simp [c]
  · rw [show o.popped g = { o with won := decide (g = 1), pc := 11 } from by unfold DOp.popped; rw [if_neg (show ¬ o.pc = 1 by omega), if_neg (show ¬ o.pc = 3 by omega), if_neg (show ¬ o.pc = 11 by omega), if_neg (show ¬ o.pc = 2 by omega), if_neg (show ¬ o.pc = 4 by omega), if_neg (show ¬ o.pc = 12 by omega), if_pos c]]
    right; unfold phiQ; simp [c, h13 c]
theorem os_pop {most : Int} {cs : List Int} {o : DOp} (os : OwnS most cs o) (k : o.kind = 2) (pc : o.pc ≠ 0) : (o.pc = 1 ∨ o.pc = 3 ∨ o.pc = 11 ∨ o.pc = 2 ∨ o.pc = 4 ∨ o.pc = 12 ∨ o.pc = 13) ∧ (o.pc = 3 → o.i = 0) ∧ (o.pc = 13 → o.i ≠ 0 ∧ o.t = o.b) ∧ (o.pc = 11 → o.i = 0 ∨ o.i = 1) ∧ (o.pc = 11 → o.t = o.b + 1 → o.i = 1 → gt cs 1 ≤ gt cs 0) := by
  cases os with
  | idle p => exact absurd p pc
  | pu1 k' | pu2 k' | pu3 k' | pu4 k' | pu5 k' | pu6 k' | pu7 k' | pu8 k' | pu9 k' | pu10 k' | pu11 k' => omega
  | po1 _ p i | po3 _ p i | po11 _ p i | po2 _ p i | po4 _ p i | po12 _ p i => exact ⟨by omega, by omega, by omega, by omega, by omega⟩
  | po13 _ p i w b t0 t tb x => exact ⟨by omega, by omega, fun _ => ⟨by omega, tb⟩, by omega, by omega⟩
  | pe _ p i w b t tt => exact ⟨by omega, by omega, by omega, by omega, by omega⟩
  | pf _ p i b t tt => exact ⟨by omega, by omega, by omega, by omega, by omega⟩
/-- What a pop alone knows. -/
def PopI (cs : List Int) (o : DOp) : Prop := ((o.pc = 4 ∨ o.pc = 12 ∨ o.pc = 13) → o.t = gt cs 0) ∧ (o.pc = 11 → o.i = 1 → o.t = o.b → o.won = true)
theorem solo_pop {most sz K : Int} {l : List Int} (hK : K ≤ 100000000) : ∀ (m : Nat) {s : AS} {o : DOp} {N : Int}, phiQ o ≤ (m : Int) → DG most sz N s.cs o → N + m ≤ 1000000000 → s.sz = sz → Mach most o → OwnS most s.cs o → o.kind = 2 → o.pc ≠ 0 → PopI s.cs o → ctn s.cs ++ hand s.cs o = l → Bl s.cs o ≤ K →
    if l = [] then DEnd most sz K [] 5 0 (runD m s o).1 (runD m s o).2 else ∃ l' v, l = l' ++ [v] ∧ DEnd most sz K l' 4 v (runD m s o).1 (runD m s o).2
  | 0, s, o, N, hp, g, hN, hs, hm, os, k, pc, hI, hl, hB => by
    exfalso
    obtain ⟨c, _, _, _, _⟩ := os_pop os k pc
    unfold phiQ at hp
    rcases c with c | c | c | c | c | c | c
    · simp [c] at hp
    · simp [c] at hp
    · by_cases i : o.i = 0
      · simp [c, i] at hp
      · simp [c, i] at hp
    · simp [c] at hp
    · simp [c] at hp
    · simp [c] at hp
    · simp [c] at hp
  | m + 1, s, o, N, hp, g, hN, hs, hm, os, k, pc, hI, hl, hB => by
    obtain ⟨w, s', he, R⟩ := own_pop g (by omega) hs hm os k pc
    obtain ⟨q1, q2, q3, q4, q5⟩ := os_pop os k pc
    have hst := step_some pc he
    have hs' : s'.sz = sz := by have := arena_sz s o.req; rw [he] at this; exact this.trans hs
    have ha : o.after w = o.popped w := by unfold DOp.after; rw [if_neg (show ¬ o.kind = 1 by omega), if_pos k]
    have same := o.after_same w
    have hr : runD (m + 1) s o = runD m s' (o.after w) := by rw [runD, hst]
    have hnn : 0 ≤ newer o := by rw [new0 (.inl (by omega))]; exact Int.le_refl _
    rw [hr]
    have hKl : Bl s'.cs (o.after w) ≤ K := by
      rcases R.bl with q | ⟨q, _, _⟩ <;> omega
    have fin : (o.after w).pc = 0 → DG most sz K s'.cs DOp.zero := fun p => R.dg.zero p hKl (by omega)
    have go : (o.after w).pc ≠ 0 → ctn s'.cs ++ hand s'.cs (o.after w) = l → gt s'.cs 0 = gt s.cs 0 ∨ o.pc = 13 → if l = [] then DEnd most sz K [] 5 0 (runD m s' (o.after w)).1 (runD m s' (o.after w)).2 else ∃ l' v, l = l' ++ [v] ∧ DEnd most sz K l' 4 v (runD m s' (o.after w)).1 (runD m s' (o.after w)).2 := by
      intro p hc ht
      have hphi : phiQ (o.after w) + 1 ≤ phiQ o := by
        rw [ha] at p ⊢
        exact (popped_phi q1 q2 fun c => (q3 c).1).resolve_left p
      have hm' : Mach most (o.after w) := fun _ => ⟨same.2.1.trans (hm pc).1, same.2.2.1.trans (hm pc).2⟩
      refine solo_pop hK m (N := N + 1) (by omega) R.dg (by omega) hs' hm' R.os (same.1.trans k) p ?_ hc hKl
      -- what it knows
      rw [ha]
      rcases q1 with c | c | c | c | c | c | c
      · rw [show o.popped w = { o with b := w64 (w - 1), pc := 3 } from by unfold DOp.popped; rw [if_pos c]]
        exact ⟨fun h => by dsimp only at h; omega, fun h => absurd h (by dsimp only; omega)⟩
      · rw [show o.popped w = { o with a := w, pc := 11 } from by unfold DOp.popped; rw [if_neg (show ¬ o.pc = 1 by omega), if_pos c]]
        exact ⟨fun h => by dsimp only at h; omega, fun _ h => by have := q2 c; dsimp only at h; omega⟩
      · have hp0 := p
        rw [ha] at hp0
        unfold DOp.popped at hp0 ⊢
        rw [if_neg (show ¬ o.pc = 1 by omega), if_neg (show ¬ o.pc = 3 by omega), if_pos c] at hp0 ⊢
        by_cases i : o.i = 0
        · rw [if_pos i]
          exact ⟨fun h => by dsimp only at h; omega, fun h => absurd h (by dsimp only; omega)⟩
        · rw [if_neg i] at hp0
          exfalso
          revert hp0
          split <;> exact fun h => h rfl
      · have d := g.dep (x := 0) hnn (by omega) (by have := g.a3; have := g.c1; omega)
        have e2 : arenaI s o.req = (some (gt s.cs 0), s.log (acc s 0 0 (gt s.cs 0) 0 true)) := by rw [req2 (hm pc).1 c]; exact ld_ok d
        rw [e2] at he
        have hw : gt s.cs 0 = w := Option.some.inj (congrArg Prod.fst he)
        have ht0 : gt s'.cs 0 = gt s.cs 0 := ht.resolve_right (by omega)
        unfold DOp.popped
        rw [if_neg (show ¬ o.pc = 1 by omega), if_neg (show ¬ o.pc = 3 by omega), if_neg (show ¬ o.pc = 11 by omega), if_pos c]
        by_cases b : o.b < w
        · rw [if_pos b]
          exact ⟨fun h => by dsimp only at h; omega, fun _ _ h => by dsimp only at h; omega⟩
        · rw [if_neg b]
          exact ⟨fun _ => by dsimp only; omega, fun h => absurd h (by dsimp only; omega)⟩
      · have ht0 : gt s'.cs 0 = gt s.cs 0 := ht.resolve_right (by omega)
        have h4 := hI.1 (.inl c)
        unfold DOp.popped
        rw [if_neg (show ¬ o.pc = 1 by omega), if_neg (show ¬ o.pc = 3 by omega), if_neg (show ¬ o.pc = 11 by omega), if_neg (show ¬ o.pc = 2 by omega), if_pos c]
        refine pif (P := fun x => PopI s'.cs x) (fun _ => ⟨fun h => ?_, fun h => absurd h (by show ¬ (0 : Int) = 11; decide)⟩) fun _ => ⟨fun _ => by dsimp only; omega, fun h => absurd h (by show ¬ (12 : Int) = 11; decide)⟩
        have h : (0 : Int) = 4 ∨ (0 : Int) = 12 ∨ (0 : Int) = 13 := h
        omega
      · have ht0 : gt s'.cs 0 = gt s.cs 0 := ht.resolve_right (by omega)
        have h4 := hI.1 (.inr (.inl c))
        unfold DOp.popped
        rw [if_neg (show ¬ o.pc = 1 by omega), if_neg (show ¬ o.pc = 3 by omega), if_neg (show ¬ o.pc = 11 by omega), if_neg (show ¬ o.pc = 2 by omega), if_neg (show ¬ o.pc = 4 by omega), if_pos c]
        refine pif (P := fun x => PopI s'.cs x) (fun _ => ⟨fun h => ?_, fun h => absurd h (by show ¬ (0 : Int) = 11; decide)⟩) fun _ => ⟨fun _ => by dsimp only; omega, fun h => absurd h (by show ¬ (13 : Int) = 11; decide)⟩
        have h : (0 : Int) = 4 ∨ (0 : Int) = 12 ∨ (0 : Int) = 13 := h
        omega
      · have h4 := hI.1 (.inr (.inr c))
        have d := g.dep (x := 0) hnn (by omega) (by have := g.a3; have := g.c1; omega)
        have e2 : (arenaI s o.req).1 = some 1 := by rw [req13 (hm pc).1 c, cas_ok d h4.symm]
        rw [he] at e2
        have hw : w = 1 := Option.some.inj e2
        rw [show o.popped w = { o with won := decide (w = 1), pc := 11 } from by unfold DOp.popped; rw [if_neg (show ¬ o.pc = 1 by omega), if_neg (show ¬ o.pc = 3 by omega), if_neg (show ¬ o.pc = 11 by omega), if_neg (show ¬ o.pc = 2 by omega), if_neg (show ¬ o.pc = 4 by omega), if_neg (show ¬ o.pc = 12 by omega), if_pos c]]
        exact ⟨fun h => by dsimp only at h; omega, fun _ _ _ => decide_eq_true hw⟩
    cases R.eff with
    | push k' | full k' => omega
    | same p c h t => exact go p (by rw [c, h]; exact hl) (.inl t)
    | low _ p h c t => exact go p (by rw [h, List.append_nil] at hl; rw [← c]; exact hl) (.inl t)
    | won _ p c h t =>
      refine go p (by rw [c, h]; exact hl) (.inr ?_)
      rcases q1 with x | x | x | x | x | x | x
      all_goals first
        | exact x
        | (exfalso
           have d := fun {y : Int} => g.dep (x := y) hnn
           have g3 := g.a3
           have g4 := g.c1
           have ld : ∀ a, o.req = .ld a → False := fun a hq => by
             have : (arenaI s o.req).2.cs = s.cs := by
               rw [hq]; unfold arenaI; dsimp only; split <;> rfl
             rw [he] at this
             have : s'.cs = s.cs := this
             rw [this] at t; omega
           have st : ∀ a v, o.req = .st a v → (0 ≤ a ∧ a ≠ 0) → False := fun a v hq hne => by
             have : gt (arenaI s o.req).2.cs 0 = gt s.cs 0 := by
               rw [hq]; unfold arenaI; dsimp only
               split
               · exact gt_set_ne hne.1 (Int.le_refl _) (fun e => hne.2 e.symm)
               · rfl
             rw [he] at this
             have : gt s'.cs 0 = gt s.cs 0 := this
             omega
           first
             | exact ld _ (req1 (hm pc).1 x)
             | exact ld _ (req3 (hm pc).1 x)
             | exact ld _ (req2 (hm pc).1 x)
             | exact ld _ (req4 (hm pc).1 x)
             | exact ld _ (req12 (hm pc).1 x)
             | exact st _ _ (req11 (hm pc).1 x) ⟨by decide, by decide⟩)
    | got _ p co c h h' t tb =>
      have e : l = ctn s'.cs ++ [(o.after w).value] := by rw [← hl, h, c]
      rw [runD_end m p, if_neg (by rw [e]; simp)]
      exact ⟨_, _, e, ⟨⟨fin p, hs', rfl⟩, p, fun e => absurd ((congrArg DOp.code e).symm.trans co) (by decide), co, rfl⟩⟩
    | empty _ p co va c h h' t tb p11 i1 =>
      have e : l = [] := by
        rw [← hl, h, List.append_nil]
        refine ctn_nil (q5 p11 ?_ i1)
        rcases tb with tb | ⟨tb, tw⟩
        · exact tb
        · rw [hI.2 p11 i1 tb] at tw; cases tw
      rw [runD_end m p, if_pos e]
      refine ⟨⟨fin p, hs', ?_⟩, p, fun e => absurd ((congrArg DOp.code e).symm.trans co) (by decide), co, va⟩
      rw [c]
      have := hl
      rw [h, List.append_nil, e] at this
      exact this

/-! ### steal and look -/
def phiS (o : DOp) : Int := if o.pc = 2 then 6 else if o.pc = 1 then 5 else if o.pc = 3 then 4 else if o.pc = 4 then 3 else if o.pc = 12 then 2 else 1
theorem th_pcs {cs : List Int} {own th : DOp} (h : ThS cs own th) (pc : th.pc ≠ 0) : (th.kind = 3 ∧ (th.pc = 2 ∨ th.pc = 1 ∨ th.pc = 3 ∨ th.pc = 4 ∨ th.pc = 12 ∨ th.pc = 13)) ∨ (th.kind = 4 ∧ (th.pc = 2 ∨ th.pc = 1)) := by
  cases h with
  | idle p => exact absurd p pc
  | st2 k p | st1 k p | st3 k p | st4 k p | st12 k p | st13 k p => exact .inl ⟨k, by omega⟩
  | lk2 k p | lk1 k p => exact .inr ⟨k, by omega⟩
theorem stolen_phi {o : DOp} {g : Int} (h : o.pc = 2 ∨ o.pc = 1 ∨ o.pc = 3 ∨ o.pc = 4 ∨ o.pc = 12 ∨ o.pc = 13) : (o.stolen g).pc = 0 ∨ (phiS (o.stolen g) + 1 ≤ phiS o ∧ (o.pc ≠ 2 → (o.stolen g).t = o.t) ∧ (o.pc = 2 → (o.stolen g).t = g) ∧ (o.stolen g).pc ≠ 2) := by
  rcases h with c | c | c | c | c | c
  · rw [show o.stolen g = { o with t := g, pc := 1 } from by unfold DOp.stolen; rw [if_pos c]]
    right; unfold phiS; simp [c]
  · unfold DOp.stolen
    rw [if_neg (show ¬ o.pc = 2 by omega), if_pos c]
    refine pif (P := fun x : DOp => x.pc = 0 ∨ (phiS x + 1 ≤ phiS o ∧ (o.pc ≠ 2 → x.t = o.t) ∧ (o.pc = 2 → x.t = g) ∧ x.pc ≠ 2)) (fun _ => .inl rfl) fun _ => .inr ?_
    unfold phiS; simp [c]
  · rw [show o.stolen g = { o with a := g, pc := 4 } from by unfold DOp.stolen; rw [if_neg (show ¬ o.pc = 2 by omega), if_neg (show ¬ o.pc = 1 by omega), if_pos c]]
    right; unfold phiS; simp [c]
  · unfold DOp.stolen
    rw [if_neg (show ¬ o.pc = 2 by omega), if_neg (show ¬ o.pc = 1 by omega), if_neg (show ¬ o.pc = 3 by omega), if_pos c]
    refine pif (P := fun x : DOp => x.pc = 0 ∨ (phiS x + 1 ≤ phiS o ∧ (o.pc ≠ 2 → x.t = o.t) ∧ (o.pc = 2 → x.t = g) ∧ x.pc ≠ 2)) (fun _ => .inl rfl) fun _ => .inr ?_
    unfold phiS; simp [c]
  · rw [show o.stolen g = { o with x := g, pc := 13 } from by unfold DOp.stolen; rw [if_neg (show ¬ o.pc = 2 by omega), if_neg (show ¬ o.pc = 1 by omega), if_neg (show ¬ o.pc = 3 by omega), if_neg (show ¬ o.pc = 4 by omega), if_pos c]]
    right; unfold phiS; simp [c]
  · left
    unfold DOp.stolen
    rw [if_neg (show ¬ o.pc = 2 by omega), if_neg (show ¬ o.pc = 1 by omega), if_neg (show ¬ o.pc = 3 by omega), if_neg (show ¬ o.pc = 4 by omega), if_neg (show ¬ o.pc = 12 by omega), if_pos c]
    exact pif (P := fun x : DOp => x.pc = 0) (fun _ => rfl) fun _ => rfl
theorem looked_phi {o : DOp} {g : Int} (h : o.pc = 2 ∨ o.pc = 1) : (o.looked g).pc = 0 ∨ (phiS (o.looked g) + 1 ≤ phiS o ∧ (o.pc ≠ 2 → (o.looked g).t = o.t) ∧ (o.pc = 2 → (o.looked g).t = g) ∧ (o.looked g).pc ≠ 2) := by
  rcases h with c | c
  · rw [show o.looked g = { o with t := g, pc := 1 } from by unfold DOp.looked; rw [if_pos c]]
    right; unfold phiS; simp [c]
  · left
    unfold DOp.looked
    rw [if_neg (show ¬ o.pc = 2 by omega)]
    exact pif (P := fun x : DOp => x.pc = 0) (fun _ => rfl) fun _ => rfl
theorem hand_zero (cs : List Int) : hand cs DOp.zero = [] := handp (.inl rfl)
/-- What a steal, or a look, alone comes to. -/
def ThEnd (most sz K : Int) (l : List Int) (kind : Int) (s : AS) (o : DOp) : Prop :=
  if kind = 3 then (if l = [] then DEnd most sz K [] 5 0 s o else ∃ v l', l = v :: l' ∧ DEnd most sz K l' 4 v s o) else DEnd most sz K l (if l = [] then 8 else 7) 0 s o
theorem solo_th {most sz K : Int} {l : List Int} (hK : K ≤ 100000000) : ∀ (m : Nat) {s : AS} {o : DOp}, phiS o ≤ (m : Int) → DG most sz K s.cs DOp.zero → s.sz = sz → Mach most o → ThS s.cs DOp.zero o → o.pc ≠ 0 → (o.pc ≠ 2 → o.t = gt s.cs 0) → ctn s.cs = l →
    ThEnd most sz K l o.kind (runD m s o).1 (runD m s o).2
  | 0, s, o, hp, g, hs, hm, os, pc, hI, hl => by
    exfalso
    have q := th_pcs os pc
    unfold phiS at hp
    rcases q with ⟨_, c | c | c | c | c | c⟩ | ⟨_, c | c⟩ <;> simp [c] at hp
  | m + 1, s, o, hp, g, hs, hm, os, pc, hI, hl => by
    have hn0 : newer DOp.zero = 0 := new0 (.inr (.inl (by decide)))
    obtain ⟨w, s', he, R⟩ := th_step g (by rw [hn0]; exact Int.le_refl _) hm (.idle rfl) os pc
    have hst := step_some pc he
    have hs' : s'.sz = sz := by have := arena_sz s o.req; rw [he] at this; exact this.trans hs
    have same := o.after_same w
    have hr : runD (m + 1) s o = runD m s' (o.after w) := by rw [runD, hst]
    have hlen : l.length = (gt s.cs 1 - gt s.cs 0).toNat := by rw [← hl]; exact ctn_len _
    have hph : (o.after w).pc = 0 ∨ (phiS (o.after w) + 1 ≤ phiS o ∧ (o.pc ≠ 2 → (o.after w).t = o.t) ∧ (o.pc = 2 → (o.after w).t = w) ∧ (o.after w).pc ≠ 2) := by
      unfold DOp.after
      rcases th_pcs os pc with ⟨k, c⟩ | ⟨k, c⟩
      · rw [if_neg (show ¬ o.kind = 1 by omega), if_neg (show ¬ o.kind = 2 by omega), if_pos k]; exact stolen_phi c
      · rw [if_neg (show ¬ o.kind = 1 by omega), if_neg (show ¬ o.kind = 2 by omega), if_neg (show ¬ o.kind = 3 by omega)]; exact looked_phi c
    rw [hr]
    have run0 : (o.after w).pc = 0 → runD m s' (o.after w) = (s', o.after w) := fun p => runD_end m p
    have nz : (o.after w).code ≠ 0 → (o.after w) ≠ DOp.zero := fun c e => c (congrArg DOp.code e)
    cases R.eff with
    | same p c =>
      obtain ⟨p1, p2, p3, p4⟩ := hph.resolve_left p
      have hm' : Mach most (o.after w) := fun _ => ⟨same.2.1.trans (hm pc).1, same.2.2.1.trans (hm pc).2⟩
      rw [← same.1]
      refine solo_th hK m (by omega) R.dg hs' hm' R.me p (fun _ => ?_) (by rw [c]; exact hl)
      rw [c]
      by_cases q : o.pc = 2
      · rw [p3 q]
        have d := g.dep (x := 0) (by rw [hn0]; exact Int.le_refl _) (by omega) (by have := g.a3; have := g.c1; omega)
        have e2 : arenaI s o.req = (some (gt s.cs 0), s.log (acc s 0 0 (gt s.cs 0) 0 true)) := by rw [req2 (hm pc).1 q]; exact ld_ok d
        rw [e2] at he
        exact (Option.some.inj (congrArg Prod.fst he)).symm
      · rw [p2 q]; exact hI q
    | empty k p co va c b t =>
      have e : l = [] := by rw [← hl]; exact ctn_nil (by omega)
      unfold ThEnd
      rw [run0 p, if_pos k, if_pos e]
      exact ⟨⟨R.dg, hs', by rw [c, hl]; exact e⟩, p, nz (by rw [co]; decide), co, va⟩
    | lost k p co va c t =>
      exfalso
      by_cases q : o.pc = 2
      · have ha : o.after w = { o with t := w, pc := 1 } := by
          unfold DOp.after
          rw [if_neg (show ¬ o.kind = 1 by omega), if_neg (show ¬ o.kind = 2 by omega), if_pos k]
          unfold DOp.stolen; rw [if_pos q]
        rw [ha] at p
        exact absurd p (show ¬ (1 : Int) = 0 by decide)
      · have := hI q
        omega
    | got k p co va t t' b' c =>
      rcases c with ⟨c, _⟩ | ⟨_, _, c, _⟩
      · have e : l = (o.after w).value :: ctn s'.cs := by rw [← hl]; exact c
        unfold ThEnd
        rw [run0 p, if_pos k, if_neg (by rw [e]; simp)]
        exact ⟨_, _, e, ⟨⟨R.dg, hs', rfl⟩, p, nz (by rw [co]; decide), co, rfl⟩⟩
      · rw [hand_zero] at c; cases c
    | look k p co va c h t =>
      unfold ThEnd
      rw [run0 p, if_neg (show ¬ o.kind = 3 by omega)]
      have n2 : o.pc ≠ 2 := fun q => by
        have ha : o.after w = { o with t := w, pc := 1 } := by
          unfold DOp.after
          rw [if_neg (show ¬ o.kind = 1 by omega), if_neg (show ¬ o.kind = 2 by omega), if_neg (show ¬ o.kind = 3 by omega)]
          unfold DOp.looked; rw [if_pos q]
        rw [ha] at p
        exact absurd p (show ¬ (1 : Int) = 0 by decide)
      have ht := hI n2
      refine ⟨⟨R.dg, hs', by rw [c]; exact hl⟩, p, nz (by rcases co with co | co <;> rw [co] <;> decide), ?_, va⟩
      by_cases e : l = []
      · rw [if_pos e]
        rw [e] at hlen
        have hlen : 0 = (gt s.cs 1 - gt s.cs 0).toNat := hlen
        exact co.resolve_left fun x => by have := h.1 x; omega
      · rw [if_neg e]
        have : 0 < l.length := by cases l with | nil => exact absurd rfl e | cons a b => exact Nat.succ_pos _
        exact h.2 (by omega)

/-! ### a call, from its beginning -/
theorem DEnd.mono {most sz K K' : Int} {l : List Int} {c v : Int} {s : AS} {o : DOp} (e : DEnd most sz K l c v s o) (h : K ≤ K') (h1 : K' ≤ 1000000000) : DEnd most sz K' l c v s o := by
  obtain ⟨⟨g, z, l⟩, a, b, c, d⟩ := e
  obtain ⟨g1, g2, g3, g4, g5, g6, g7, g8, g9, g10, g11, g12, g13⟩ := g
  exact ⟨⟨⟨g1, g2, g3, g4, by omega, h1, g7, g8, g9, g10, g11, g12, g13⟩, z, l⟩, a, b, c, d⟩
section
variable {most sz K : Int} {s : AS} {l : List Int} (D : DS most sz K s l) (hK : K ≤ 10000000) (h1 : 1 ≤ most) (h2 : most ≤ 4096)
include D hK h1 h2
theorem DS.facts : (l.length : Int) = gt s.cs 1 - gt s.cs 0 ∧ l.length ≤ 4096 ∧ gt s.cs 1 ≤ K := by
  have g := D.dg
  have hz : Bl s.cs DOp.zero = gt s.cs 1 := Bl_up (lowp (.inl rfl))
  have tb := g.tb
  have ft := g.fit
  have bn := g.bn
  have cm := g.cm
  rw [hz] at tb ft bn
  have := ctn_len s.cs
  rw [D.l] at this
  exact ⟨by omega, by omega, bn⟩
theorem DS.push (v : Int) : if (l.length : Int) = most then DEnd most sz (K + 1) l 3 0 (runD (9 + 2 * l.length) s (DOp.push 0 most v)).1 (runD (9 + 2 * l.length) s (DOp.push 0 most v)).2 else DEnd most sz (K + 1) (l ++ [v]) 2 0 (runD (9 + 2 * l.length) s (DOp.push 0 most v)).1 (runD (9 + 2 * l.length) s (DOp.push 0 most v)).2 := by
  obtain ⟨f1, f2, f3⟩ := D.facts hK h1 h2
  have e : DOp.push 0 most v = ⟨1, 1, 0, most, v, 0, 0, 0, 0, 0, 0, 0, 0, false, 0, 0⟩ := by
    unfold DOp.push DOp.begin
    rw [if_neg (by omega), if_neg (by omega)]
  rw [e]
  have hB : Bl s.cs ⟨1, 1, 0, most, v, 0, 0, 0, 0, 0, 0, 0, 0, false, 0, 0⟩ = Bl s.cs DOp.zero := (Bl_up (low1 rfl)).trans (Bl_up (lowp (.inl rfl))).symm
  have hn : newer ⟨1, 1, 0, most, v, 0, 0, 0, 0, 0, 0, 0, 0, false, 0, 0⟩ = newer DOp.zero := (new0 (.inr (.inl (show (1 : Int) < 6 by decide)))).trans (new0 (.inr (.inl (by decide)))).symm
  refine solo_push (T := gt s.cs 0) (B := gt s.cs 1) (by omega) (by omega) (9 + 2 * l.length) (N := K) ?_ (D.dg.re hB hn) (by omega) D.sz (fun _ => ⟨rfl, rfl⟩) (.pu1 rfl rfl) rfl (show ¬ (1 : Int) = 0 by decide) rfl rfl rfl (fun q => absurd q (show ¬ (3 : Int) ≤ 1 by decide)) D.l ?_
  · unfold phiP
    rw [if_pos rfl]; omega
  · rw [hB]; exact D.dg.bn
theorem DS.pop : if l = [] then DEnd most sz K [] 5 0 (runD (9 + 2 * l.length) s (DOp.pop 0 most)).1 (runD (9 + 2 * l.length) s (DOp.pop 0 most)).2 else ∃ l' v, l = l' ++ [v] ∧ DEnd most sz K l' 4 v (runD (9 + 2 * l.length) s (DOp.pop 0 most)).1 (runD (9 + 2 * l.length) s (DOp.pop 0 most)).2 := by
  obtain ⟨f1, f2, f3⟩ := D.facts hK h1 h2
  have e : DOp.pop 0 most = ⟨2, 1, 0, most, 0, 0, 0, 0, 0, 0, 0, 0, 0, false, 0, 0⟩ := by
    unfold DOp.pop DOp.begin
    rw [if_neg (by omega), if_neg (by omega)]
  rw [e]
  have hB : Bl s.cs ⟨2, 1, 0, most, 0, 0, 0, 0, 0, 0, 0, 0, 0, false, 0, 0⟩ = Bl s.cs DOp.zero := (Bl_up (lowp (.inr (.inl rfl)))).trans (Bl_up (lowp (.inl rfl))).symm
  have hn : newer ⟨2, 1, 0, most, 0, 0, 0, 0, 0, 0, 0, 0, 0, false, 0, 0⟩ = newer DOp.zero := (new0 (.inl (show (2 : Int) ≠ 1 by decide))).trans (new0 (.inr (.inl (by decide)))).symm
  refine solo_pop (by omega) (9 + 2 * l.length) (N := K) ?_ (D.dg.re hB hn) (by omega) D.sz (fun _ => ⟨rfl, rfl⟩) (.po1 rfl rfl rfl rfl) rfl (show ¬ (1 : Int) = 0 by decide) ⟨fun h => ?_, fun h => absurd h (show ¬ (1 : Int) = 11 by decide)⟩ ?_ ?_
  · unfold phiQ
    rw [if_pos rfl]; omega
  · have h : (1 : Int) = 4 ∨ (1 : Int) = 12 ∨ (1 : Int) = 13 := h
    omega
  · rw [handp (.inr (.inl rfl)), List.append_nil]; exact D.l
  · rw [hB]; exact D.dg.bn
theorem DS.steal : if l = [] then DEnd most sz K [] 5 0 (runD (9 + 2 * l.length) s (DOp.steal 0 most)).1 (runD (9 + 2 * l.length) s (DOp.steal 0 most)).2 else ∃ v l', l = v :: l' ∧ DEnd most sz K l' 4 v (runD (9 + 2 * l.length) s (DOp.steal 0 most)).1 (runD (9 + 2 * l.length) s (DOp.steal 0 most)).2 := by
  have e : DOp.steal 0 most = ⟨3, 2, 0, most, 0, 0, 0, 0, 0, 0, 0, 0, 0, false, 0, 0⟩ := by
    unfold DOp.steal DOp.begin
    rw [if_neg (by omega), if_neg (by omega)]
  rw [e]
  have := solo_th (most := most) (sz := sz) (K := K) (l := l) (by omega) (9 + 2 * l.length) (s := s) (o := ⟨3, 2, 0, most, 0, 0, 0, 0, 0, 0, 0, 0, 0, false, 0, 0⟩) (by unfold phiS; rw [if_pos rfl]; omega) D.dg D.sz (fun _ => ⟨rfl, rfl⟩) (.st2 rfl rfl) (show ¬ (2 : Int) = 0 by decide) (fun q => absurd rfl q) D.l
  unfold ThEnd at this
  rw [if_pos rfl] at this
  exact this
theorem DS.look : DEnd most sz K l (if l = [] then 8 else 7) 0 (runD (9 + 2 * l.length) s (DOp.look 0 most)).1 (runD (9 + 2 * l.length) s (DOp.look 0 most)).2 := by
  have e : DOp.look 0 most = ⟨4, 2, 0, most, 0, 0, 0, 0, 0, 0, 0, 0, 0, false, 0, 0⟩ := by
    unfold DOp.look DOp.begin
    rw [if_neg (by omega), if_neg (by omega)]
  rw [e]
  have := solo_th (most := most) (sz := sz) (K := K) (l := l) (by omega) (9 + 2 * l.length) (s := s) (o := ⟨4, 2, 0, most, 0, 0, 0, 0, 0, 0, 0, 0, 0, false, 0, 0⟩) (by unfold phiS; rw [if_pos rfl]; omega) D.dg D.sz (fun _ => ⟨rfl, rfl⟩) (.lk2 rfl rfl) (show ¬ (2 : Int) = 0 by decide) (fun q => absurd rfl q) D.l
  unfold ThEnd at this
  rw [if_neg (show ¬ (4 : Int) = 3 by decide)] at this
  exact this
end

end Go.Mx
