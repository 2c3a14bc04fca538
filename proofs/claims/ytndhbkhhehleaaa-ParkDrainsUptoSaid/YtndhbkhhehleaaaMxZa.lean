/-
  One call of the deque alone: what it comes to, within how many steps.
  The law DequeStack.
-/
import Derived.Test.YtndhbkhhehleaaaMxQh
import Derived.Test.YtndhbkhhehleaaaMxNe
set_option linter.unusedVariables false
set_option linter.unusedSimpArgs false
set_option linter.unusedSectionVars false
namespace Go.Mx

def runD : Nat → AS → DOp → AS × DOp
  | 0, s, o => (s, o)
  | n + 1, s, o => runD n (stepD arenaI s o).1 (stepD arenaI s o).2
theorem stepD_end {s : AS} {o : DOp} (h : o.pc = 0) : stepD arenaI s o = (s, o) := by
  unfold stepD
  by_cases e : o = DOp.zero
  · rw [if_pos e]
  · rw [if_neg e, if_pos h]
theorem runD_end : ∀ (n : Nat) {s : AS} {o : DOp}, o.pc = 0 → runD n s o = (s, o)
  | 0, _, _, _ => rfl
  | n + 1, s, o, h => by rw [runD, stepD_end h]; exact runD_end n h
structure DS (most sz : Int) (K : Int) (s : AS) (l : List Int) : Prop where
  dg : DG most sz K s.cs DOp.zero
  sz : s.sz = sz
  l : ctn s.cs = l
structure DEnd (most sz K : Int) (l : List Int) (code v : Int) (s : AS) (o : DOp) : Prop where
  ds : DS most sz K s l
  pc : o.pc = 0
  nz : o ≠ DOp.zero
  co : o.code = code
  va : o.value = v
theorem arena_sz (s : AS) (r : Rq) : (arenaI s r).2.sz = s.sz := by
  unfold arenaI
  cases r with
  | ld a => dsimp only; split <;> rfl
  | st a v => dsimp only; split <;> rfl
  | cas a x y => dsimp only; split <;> rfl
  | rs n =>
    dsimp only
    split
    · rfl
    · split <;> rfl
theorem ctn_len (cs : List Int) : (ctn cs).length = (gt cs 1 - gt cs 0).toNat := by unfold ctn; simp

def phiS (o : DOp) : Int := if o.pc = 2 then 6 else if o.pc = 1 then 5 else if o.pc = 3 then 4 else if o.pc = 4 then 3 else if o.pc = 12 then 2 else 1
theorem th_pcs {cs : List Int} {own th : DOp} (h : ThS cs own th) (pc : th.pc ≠ 0) : (th.kind = 3 ∧ (th.pc = 2 ∨ th.pc = 1 ∨ th.pc = 3 ∨ th.pc = 4 ∨ th.pc = 12 ∨ th.pc = 13)) ∨ (th.kind = 4 ∧ (th.pc = 2 ∨ th.pc = 1)) := by
  cases h with
  | idle p => exact absurd p pc
  | st2 k p | st1 k p | st3 k p | st4 k p | st12 k p | st13 k p => exact .inl ⟨k, by omega⟩
  | lk2 k p | lk1 k p => exact .inr ⟨k, by omega⟩
theorem stolen_phi {o : DOp} {g : Int} (h : o.pc = 2 ∨ o.pc = 1 ∨ o.pc = 3 ∨ o.pc = 4 ∨ o.pc = 12 ∨ o.pc = 13) : (o.stolen g).pc = 0 ∨ (phiS (o.stolen g) + 1 ≤ phiS o ∧ (o.pc ≠ 2 → (o.stolen g).t = o.t) ∧ (o.pc = 2 → (o.stolen g).t = g) ∧ (o.stolen g).pc ≠ 2) := by
  rcases h with c | c | c | c | c | c
  · rw [show o.stolen g = { o with t := g, pc := 1 } from by unfold DOp.stolen; rw [if_pos c]]
    right; unfold phiS; simp [c]
  · unfold DOp.stolen
    rw [if_neg (show ¬ o.pc = 2 by omega), if_pos c]
    refine pif (P := fun x : DOp => x.pc = 0 ∨ (phiS x + 1 ≤ phiS o ∧ (o.pc ≠ 2 → x.t = o.t) ∧ (o.pc = 2 → x.t = g) ∧ x.pc ≠ 2)) (fun _ => .inl rfl) fun _ => .inr ?_
    unfold phiS; simp [c]
  · rw [show o.stolen g = { o with a := g, pc := 4 } from by unfold DOp.stolen; rw [if_neg (show ¬ o.pc = 2 by omega), if_neg (show ¬ o.pc = 1 by omega), if_pos c]]
    right; unfold phiS; simp [c]
  · unfold DOp.stolen
    rw [if_neg (show ¬ o.pc = 2 by omega), if_neg (show ¬ o.pc = 1 by omega), if_neg (show ¬ o.pc = 3 by omega), if_pos c]
    refine pif (P := fun x : DOp => x.pc = 0 ∨ (phiS x + 1 ≤ phiS o ∧ (o.pc ≠ 2 → x.t = o.t) ∧ (o.pc = 2 → x.t = g) ∧ x.pc ≠ 2)) (fun _ => .inl rfl) fun _ => .inr ?_
    unfold phiS; simp [c]
  · rw [show o.stolen g = { o with x := g, pc := 13 } from by unfold DOp.stolen; rw [if_neg (show ¬ o.pc = 2 by omega), if_neg (show ¬ o.pc = 1 by omega), if_neg (show ¬ o.pc = 3 by omega), if_neg (show ¬ o.pc = 4 by omega), if_pos c]]
    right; unfold phiS; simp [c]
  · left
    unfold DOp.stolen
    rw [if_neg (show ¬ o.pc = 2 by omega), if_neg (show ¬ o.pc = 1 by omega), if_neg (show ¬ o.pc = 3 by omega), if_neg (show ¬ o.pc = 4 by omega), if_neg (show ¬ o.pc = 12 by omega), if_pos c]
    exact pif (P := fun x : DOp => x.pc = 0) (fun _ => rfl) fun _ => rfl
theorem looked_phi {o : DOp} {g : Int} (h : o.pc = 2 ∨ o.pc = 1) : (o.looked g).pc = 0 ∨ (phiS (o.looked g) + 1 ≤ phiS o ∧ (o.pc ≠ 2 → (o.looked g).t = o.t) ∧ (o.pc = 2 → (o.looked g).t = g) ∧ (o.looked g).pc ≠ 2) := by
  rcases h with c | c
  · rw [show o.looked g = { o with t := g, pc := 1 } from by unfold DOp.looked; rw [if_pos c]]
    right; unfold phiS; simp [c]
  · left
    unfold DOp.looked
    rw [if_neg (show ¬ o.pc = 2 by omega)]
    exact pif (P := fun x : DOp => x.pc = 0) (fun _ => rfl) fun _ => rfl
theorem hand_zero (cs : List Int) : hand cs DOp.zero = [] := handp (.inl rfl)
def ThEnd (most sz K : Int) (l : List Int) (kind : Int) (s : AS) (o : DOp) : Prop :=
  if kind = 3 then (if l = [] then DEnd most sz K [] 5 0 s o else ∃ v l', l = v :: l' ∧ DEnd most sz K l' 4 v s o) else DEnd most sz K l (if l = [] then 8 else 7) 0 s o
theorem solo_th {most sz K : Int} {l : List Int} (hK : K ≤ 100000000) : ∀ (m : Nat) {s : AS} {o : DOp}, phiS o ≤ (m : Int) → DG most sz K s.cs DOp.zero → s.sz = sz → Mach most o → ThS s.cs DOp.zero o → o.pc ≠ 0 → (o.pc ≠ 2 → o.t = gt s.cs 0) → ctn s.cs = l →
    ThEnd most sz K l o.kind (runD m s o).1 (runD m s o).2
  | 0, s, o, hp, g, hs, hm, os, pc, hI, hl => by
    exfalso
    have q := th_pcs os pc
    unfold phiS at hp
    rcases q with ⟨_, c | c | c | c | c | c⟩ | ⟨_, c | c⟩ <;> simp [c] at hp
  | m + 1, s, o, hp, g, hs, hm, os, pc, hI, hl => by
    have hn0 : newer DOp.zero = 0 := new0 (.inr (.inl (by decide)))
    obtain ⟨w, s', he, R⟩ := th_step g (by rw [hn0]; exact Int.le_refl _) hm (.idle rfl) os pc
    have hst := step_some pc he
    have hs' : s'.sz = sz := by have := arena_sz s o.req; rw [he] at this; exact this.trans hs
    have same := o.after_same w
    have hr : runD (m + 1) s o = runD m s' (o.after w) := by rw [runD, hst]
    have hlen : l.length = (gt s.cs 1 - gt s.cs 0).toNat := by rw [← hl]; exact ctn_len _
    have hph : (o.after w).pc = 0 ∨ (phiS (o.after w) + 1 ≤ phiS o ∧ (o.pc ≠ 2 → (o.after w).t = o.t) ∧ (o.pc = 2 → (o.after w).t = w) ∧ (o.after w).pc ≠ 2) := by
      unfold DOp.after
      rcases th_pcs os pc with ⟨k, c⟩ | ⟨k, c⟩
      · rw [if_neg (show ¬ o.kind = 1 by omega), if_neg (show ¬ o.kind = 2 by omega), if_pos k]; exact stolen_phi c
      · rw [if_neg (show ¬ o.kind = 1 by omega), if_neg (show ¬ o.kind = 2 by omega), if_neg (show ¬ o.kind = 3 by omega)]; exact looked_phi c
    rw [hr]
    have run0 : (o.after w).pc = 0 → runD m s' (o.after w) = (s', o.after w) := fun p => runD_end m p
    have nz : (o.after w).code ≠ 0 → (o.after w) ≠ DOp.zero := fun c e => c (congrArg DOp.code e)
    cases R.eff with
    | same p c =>
      obtain ⟨p1, p2, p3, p4⟩ := hph.resolve_left p
      have hm' : Mach most (o.after w) := fun _ => ⟨same.2.1.trans (hm pc).1, same.2.2.1.trans (hm pc).2⟩
      rw [← same.1]
      refine solo_th hK m (by omega) R.dg hs' hm' R.me p (fun _ => ?_) (by rw [c]; exact hl)
      rw [c]
      by_cases q : o.pc = 2
      · rw [p3 q]
        have d := g.dep (x := 0) (by rw [hn0]; exact Int.le_refl _) (by omega) (by have := g.a3; have := g.c1; omega)
        have e2 : arenaI s o.req = (some (gt s.cs 0), s.log (acc s 0 0 (gt s.cs 0) 0 true)) := by rw [req2 (hm pc).1 q]; exact ld_ok d
        rw [e2] at he
        exact (Option.some.inj (congrArg Prod.fst he)).symm
      · rw [p2 q]; exact hI q
    | empty k p co va c b t =>
      have e : l = [] := by rw [← hl]; exact ctn_nil (by omega)
      unfold ThEnd
      rw [run0 p, if_pos k, if_pos e]
      exact ⟨⟨R.dg, hs', by rw [c, hl]; exact e⟩, p, nz (by rw [co]; decide), co, va⟩
    | lost k p co va c t =>
      exfalso
      by_cases q : o.pc = 2
      · have ha : o.after w = { o with t := w, pc := 1 } := by
          unfold DOp.after
          rw [if_neg (show ¬ o.kind = 1 by omega), if_neg (show ¬ o.kind = 2 by omega), if_pos k]
          unfold DOp.stolen; rw [if_pos q]
        rw [ha] at p
        exact absurd p (show ¬ (1 : Int) = 0 by decide)
      · have := hI q
        omega
    | got k p co va t t' b' c =>
      rcases c with ⟨c, _⟩ | ⟨_, _, c, _⟩
      · have e : l = (o.after w).value :: ctn s'.cs := by rw [← hl]; exact c
        unfold ThEnd
        rw [run0 p, if_pos k, if_neg (by rw [e]; simp)]
        exact ⟨_, _, e, ⟨⟨R.dg, hs', rfl⟩, p, nz (by rw [co]; decide), co, rfl⟩⟩
      · rw [hand_zero] at c; cases c
    | look k p co va c h t =>
      unfold ThEnd
      rw [run0 p, if_neg (show ¬ o.kind = 3 by omega)]
      have n2 : o.pc ≠ 2 := fun q => by
        have ha : o.after w = { o with t := w, pc := 1 } := by
          unfold DOp.after
          rw [if_neg (show ¬ o.kind = 1 by omega), if_neg (show ¬ o.kind = 2 by omega), if_neg (show ¬ o.kind = 3 by omega)]
          unfold DOp.looked; rw [if_pos q]
        rw [ha] at p
        exact absurd p (show ¬ (1 : Int) = 0 by decide)
      have ht := hI n2
      refine ⟨⟨R.dg, hs', by rw [c]; exact hl⟩, p, nz (by rcases co with co | co <;> rw [co] <;> decide), ?_, va⟩
      by_cases e : l = []
      · rw [if_pos e]
        rw [e] at hlen
        have hlen : 0 = (gt s.cs 1 - gt s.cs 0).toNat := hlen
        exact co.resolve_left fun x => by have := h.1 x; omega
      · rw [if_neg e]
        have : 0 < l.length := by cases l with | nil => exact absurd rfl e | cons a b => exact Nat.succ_pos _
        exact h.2 (by omega)

section
variable {most sz K : Int} {s : AS} {l : List Int} (D : DS most sz K s l) (hK : K ≤ 10000000) (h1 : 1 ≤ most) (h2 : most ≤ 4096)
include D hK h1 h2
theorem DS.steal : if l = [] then DEnd most sz K [] 5 0 (runD (9 + 2 * l.length) s (DOp.steal 0 most)).1 (runD (9 + 2 * l.length) s (DOp.steal 0 most)).2 else ∃ v l', l = v :: l' ∧ DEnd most sz K l' 4 v (runD (9 + 2 * l.length) s (DOp.steal 0 most)).1 (runD (9 + 2 * l.length) s (DOp.steal 0 most)).2 := by
  have e : DOp.steal 0 most = ⟨3, 2, 0, most, 0, 0, 0, 0, 0, 0, 0, 0, 0, false, 0, 0⟩ := by
    unfold DOp.steal DOp.begin
    rw [if_neg (by omega), if_neg (by omega)]
  rw [e]
  have := solo_th (most := most) (sz := sz) (K := K) (l := l) (by omega) (9 + 2 * l.length) (s := s) (o := ⟨3, 2, 0, most, 0, 0, 0, 0, 0, 0, 0, 0, 0, false, 0, 0⟩) (by unfold phiS; rw [if_pos rfl]; omega) D.dg D.sz (fun _ => ⟨rfl, rfl⟩) (.st2 rfl rfl) (show ¬ (2 : Int) = 0 by decide) (fun q => absurd rfl q) D.l
  unfold ThEnd at this
  rw [if_pos rfl] at this
  exact this
end

end Go.Mx

namespace Go.Mx

structure Qt (s : AS) : Prop where
  wt : s.wt = false
  lg : s.lg = []
  cs : (s.cs.length : Int) ≤ s.sz
  sz : s.sz ≤ 1048576
abbrev FlatT := Int × (Int × (Int × (Int × (Int × (Int × (Int × (Int × (Int × (Int × (Int × (Int × (Int × (Bool × Den KP2)))))))))))))
def DOp.flat (o : DOp) : FlatT := (o.kind, (o.pc, (o.base, (o.most, (o.v, (o.t, (o.b, (o.a, (o.c, (o.a2, (o.c2, (o.i, (o.x, (o.won, (o.code, (o.value, ()))))))))))))))))

theorem DS.start {low most : Int} (hc : CapE low most) (m : AS) (hs : m.sz = cellsOf low most) (hcs : m.cs = laid low []) : DS most (cellsOf low most) 0 m [] := by
  have hp := ps0_pi (todos := []) (thieves := 0) hc (Int.le_refl _)
  have g := hp.dg
  have ez : ((ps0 low most [] 0).act 0).1 = DOp.zero := rfl
  rw [ez] at g
  have g : DG most (cellsOf low most) 0 (laid low []) DOp.zero := g
  refine ⟨by rw [hcs]; exact g, hs, ?_⟩
  rw [hcs]
  have hz : Bl (laid low []) DOp.zero = gt (laid low []) 1 := Bl_up (lowp (.inl rfl))
  have b := g.bn
  have t := g.t0
  rw [hz] at b
  exact ctn_nil (by omega)
end Go.Mx
