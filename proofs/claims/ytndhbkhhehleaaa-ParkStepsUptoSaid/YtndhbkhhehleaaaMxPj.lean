/-
  Parking: how many steps a machine makes.
-/
import Derived.Test.YtndhbkhhehleaaaMxPb
set_option linter.unusedVariables false
set_option linter.unusedSimpArgs false
set_option linter.unusedSectionVars false
namespace Go.Mx

/-- At most so many accesses more, till it has ended or is parked. -/
def POp.mu (o : POp) : Int :=
  if o.st.kind = 1 then (if o.st.at_ = 1 then 2 * o.st.workers + 3 else if o.st.at_ = 2 then 2 * o.st.workers + 2 else if o.st.at_ = 3 then 2 * o.st.workers + 1
    else if o.st.at_ = 4 then (if o.look.pc = 2 then 2 * (o.st.workers - o.st.k) + 2 else 2 * (o.st.workers - o.st.k) + 1) else if o.st.at_ = 6 then 2 else if o.st.at_ = 7 then 1 else 0)
  else if o.st.kind = 2 then (if o.st.at_ = 8 then o.st.workers + 1 else if o.st.at_ = 9 then o.st.workers - o.st.k + 1 else 1)
  else if o.st.kind = 3 then 1 else (if o.st.at_ = 10 then 2 * o.st.workers - 1 else if o.st.at_ = 9 then 2 * (o.st.workers - o.st.k) else 2 * (o.st.workers - o.st.k) - 1)
/-- It has ended, or is parked, or is nearer to it. -/
def POp.Near (o o' : POp) : Prop := o'.st.at_ = 0 ∨ (o'.st.kind = 1 ∧ o'.st.at_ = 5) ∨ o'.mu + 1 ≤ o.mu
section
variable {ds : List (Den KP2)} {o : POp} {r : R9} {s : AS}
theorem near_plain (hk : o.st.kind ≠ 0) (ha : o.st.at_ ≠ 0) (h4 : o.st.at_ ≠ 4) (hA : ∀ g, o.Near (o.after g)) : o.Near (stepP s o).2 := by
  unfold stepP
  rw [if_neg hk, if_neg ha, if_neg h4]
  cases e : (arenaA s o.st.req).1 with
  | none => exact .inl rfl
  | some g => exact hA g
theorem near_around (w2 : o.st.workers ≤ 64) (hk : o.st.kind = 1) (k0 : 0 ≤ o.st.k) (k1 : o.st.k < o.st.workers) (l : DOp) (hm : 2 * (o.st.workers - o.st.k) + 1 ≤ o.mu) : o.Near (POp.around { o with look := l }) := by
  have e1 := w64_succ k0 (by omega)
  unfold POp.around
  dsimp only
  rw [e1]
  by_cases c : o.st.workers ≤ o.st.k + 1
  · rw [if_pos c]; exact .inr (.inl ⟨hk, rfl⟩)
  · rw [if_neg c]
    refine .inr (.inr ?_)
    have : ∀ (l' : DOp), POp.mu { o with st := { o.st with k := o.st.k + 1, at_ := 4 }, look := l' } ≤ 2 * (o.st.workers - (o.st.k + 1)) + 2 := fun l' => by
      unfold POp.mu
      dsimp only
      rw [if_pos hk]
      simp only [show ¬ (4 : Int) = 1 by decide, show ¬ (4 : Int) = 2 by decide, show ¬ (4 : Int) = 3 by decide, if_false, if_true]
      split <;> omega
    have := this (DOp.look (aget (n := 64) (a := KP2) o.ds (PSt.other { o.st with k := o.st.k + 1, at_ := 4 }).toNat).1 (aget (n := 64) (a := KP2) o.ds (PSt.other { o.st with k := o.st.k + 1, at_ := 4 }).toNat).2.1)
    exact Int.le_trans (Int.add_le_add_right this 1) (by omega)
theorem RunP.near (R : RunP ds o r) (hp : ¬ (o.st.kind = 1 ∧ o.st.at_ = 5)) (s : AS) : o.Near (stepP s o).2 := by
  have w1 := R.w1
  have w2 := R.w2
  have hk0 := R.k0
  obtain ⟨ha0, _⟩ := R.a0
  rcases R.at_ with ⟨hk, _, _, c⟩ | ⟨hk, c⟩ | ⟨hk, c, _⟩ | ⟨hk, c⟩
  · rcases c with ⟨h1, _⟩ | ⟨h1, _⟩ | ⟨h1, _, h3, _⟩ | ⟨h1, _, h3, h4, h5⟩ | ⟨h1, _⟩ | ⟨h1, _⟩ | ⟨h1, _⟩
    · refine near_plain hk0 ha0 (by omega) fun g => .inr (.inr ?_)
      have e1 : o.after g = { o with st := { o.st with at_ := 2 } } := by simp [POp.after, POp.rested, hk, h1]
      rw [e1]; simp [POp.mu, hk, h1]; omega
    · refine near_plain hk0 ha0 (by omega) fun g => .inr (.inr ?_)
      have e1 : o.after g = { o with st := { o.st with at_ := 3 } } := by simp [POp.after, POp.rested, hk, h1]
      rw [e1]; simp [POp.mu, hk, h1]; omega
    · refine near_plain hk0 ha0 (by omega) fun g => ?_
      by_cases g1 : g = 1
      · have e1 : o.after g = { o with st := o.st.back 17 } := by simp [POp.after, POp.rested, hk, h1, g1]
        rw [e1]; refine .inr (.inr ?_); simp [POp.mu, hk, h1, PSt.back]; omega
      · have e1 : o.after g = o.around := by simp [POp.after, POp.rested, hk, h1, g1]
        rw [e1]
        exact near_around w2 hk (by omega) (by omega) o.look (by simp [POp.mu, hk, h1]; omega)
    · unfold stepP
      rw [if_neg hk0, if_neg ha0, if_pos h1]
      show o.Near (o.looked (stepD arenaI s o.look).2)
      have nz : o.look ≠ DOp.zero := by
        rcases h5 with ⟨_, h6⟩ | ⟨_, h6⟩
        · rw [h6]; intro e; have := congrArg DOp.kind e; simp [DOp.zero] at this
        · rw [h6]; intro e; have := congrArg DOp.kind e; simp [DOp.zero] at this
      have dark : ∀ l : DOp, l.answer.1 = 1 → o.Near (o.looked l) := fun l hl => by
        unfold POp.looked; rw [if_neg (by omega), if_neg (by omega), if_neg (by omega)]; exact .inl rfl
      have ov : ∀ c v, (o.look.over c v).answer.1 = c := fun c v => by
        unfold DOp.answer
        have hne : o.look.over c v ≠ DOp.zero := by
          rcases h5 with ⟨_, h6⟩ | ⟨_, h6⟩
          · rw [h6]; intro e; have := congrArg DOp.kind e; simp [DOp.zero, DOp.over] at this
          · rw [h6]; intro e; have := congrArg DOp.kind e; simp [DOp.zero, DOp.over] at this
        rw [if_neg hne]; rfl
      unfold stepD
      rcases h5 with ⟨_, h6⟩ | ⟨_, h6⟩
      · rw [if_neg nz, if_neg (by rw [h6]; simp)]
        cases e : (arenaI s o.look.req).1 with
        | none => exact dark _ (ov 1 0)
        | some g =>
          have a1 : o.look.after g = ⟨4, 1, (dqAt ds r.who).1, (dqAt ds r.who).2.1, 0, g, 0, 0, 0, 0, 0, 0, 0, false, 0, 0⟩ := by rw [h6]; rfl
          have a2 : (o.look.after g).answer = (0, 0) := by
            rw [a1]; unfold DOp.answer; rw [if_neg (fun e => by have := congrArg DOp.kind e; simp [DOp.zero] at this)]; rfl
          have e1 : o.looked (o.look.after g) = { o with look := o.look.after g } := by unfold POp.looked; rw [a2]; rfl
          show o.Near (o.looked (o.look.after g))
          rw [e1, a1]
          refine .inr (.inr ?_)
          unfold POp.mu
          simp only [hk, h1, h6]
          simp
          omega
      · rw [if_neg nz, if_neg (by rw [h6]; simp)]
        have hm : o.mu = 2 * (o.st.workers - o.st.k) + 1 := by unfold POp.mu; simp only [hk, h1, h6]; simp
        cases e : (arenaI s o.look.req).1 with
        | none => exact dark _ (ov 1 0)
        | some g =>
          show o.Near (o.looked (o.look.after g))
          by_cases c : r.t < g
          · have a1 : o.look.after g = o.look.over 7 0 := by rw [h6]; exact if_pos c
            have e1 : o.looked (o.look.after g) = { o with look := o.look.after g, st := o.st.back 16 } := by unfold POp.looked; rw [a1, ov]; rfl
            rw [e1]
            refine .inr (.inr ?_)
            rw [hm]
            simp [POp.mu, hk, PSt.back]; omega
          · have a1 : o.look.after g = o.look.over 8 0 := by rw [h6]; exact if_neg c
            have e1 : o.looked (o.look.after g) = POp.around { o with look := o.look.after g } := by unfold POp.looked; rw [a1, ov]; rfl
            rw [e1]
            exact near_around w2 hk (by omega) h4 _ (by omega)
    · exact absurd ⟨hk, h1⟩ hp
    · refine near_plain hk0 ha0 (by omega) fun g => ?_
      by_cases g1 : g = 1
      · have e1 : o.after g = { o with st := { o.st with at_ := 7 } } := by simp [POp.after, POp.rested, hk, h1, g1]
        rw [e1]; refine .inr (.inr ?_); simp [POp.mu, hk, h1]
      · have e1 : o.after g = { o with st := o.st.over o.st.then_ 0 } := by simp [POp.after, POp.rested, hk, h1, g1, PSt.over]
        rw [e1]; exact .inl rfl
    · refine near_plain hk0 ha0 (by omega) fun g => ?_
      have e1 : o.after g = { o with st := o.st.over o.st.then_ 0 } := by simp [POp.after, POp.rested, hk, h1, PSt.over]
      rw [e1]; exact .inl rfl
  · rcases c with ⟨h1, _, h3, _⟩ | ⟨h1, _, _, h4, h5⟩ | ⟨h1, _⟩
    · refine near_plain hk0 ha0 (by omega) fun g => ?_
      by_cases g1 : g ≤ 0
      · have e1 : o.after g = { o with st := PSt.over { o.st with at_ := 9 } 19 0 } := by simp [POp.after, PSt.woken, hk, h1, g1]
        rw [e1]; exact .inl rfl
      · by_cases c : o.st.workers = 1
        · have e1 : o.after g = { o with st := PSt.over { o.st with at_ := 9 } 19 0 } := by simp [POp.after, PSt.woken, hk, h1, g1, c]
          rw [e1]; exact .inl rfl
        · have e1 : o.after g = { o with st := { o.st with at_ := 9 } } := by simp [POp.after, PSt.woken, hk, h1, g1, c]
          rw [e1]; refine .inr (.inr ?_); simp [POp.mu, hk, h1]; omega
    · refine near_plain hk0 ha0 (by omega) fun g => ?_
      have ek := w64_succ (k := o.st.k) (by omega) (by omega)
      by_cases g1 : g = 1
      · have e1 : o.after g = { o with st := { o.st with at_ := 7 } } := by simp [POp.after, PSt.woken, hk, h1, g1]
        rw [e1]; refine .inr (.inr ?_); simp [POp.mu, hk, h1]; omega
      · by_cases c : o.st.k + 1 = o.st.workers
        · have e1 : o.after g = { o with st := PSt.over { o.st with k := w64 (o.st.k + 1) } 19 0 } := by
            unfold POp.after PSt.woken
            rw [if_neg (by omega), if_pos hk, if_neg (by omega), if_pos h1, if_neg g1, if_pos (by omega)]
          rw [e1]; exact .inl rfl
        · have e1 : o.after g = { o with st := { o.st with k := o.st.k + 1 } } := by simp [POp.after, PSt.woken, hk, h1, g1, ek, c]
          rw [e1]; refine .inr (.inr ?_); simp [POp.mu, hk, h1]; omega
    · refine near_plain hk0 ha0 (by omega) fun g => ?_
      have e1 : o.after g = { o with st := o.st.over 18 o.st.other } := by simp [POp.after, PSt.woken, hk, h1]
      rw [e1]; exact .inl rfl
  · refine near_plain hk0 ha0 (by omega) fun g => ?_
    by_cases g1 : g = 1
    · have e1 : o.after g = { o with st := o.st.over 17 0 } := by simp [POp.after, hk, g1]
      rw [e1]; exact .inl rfl
    · have e1 : o.after g = { o with st := o.st.over 16 0 } := by simp [POp.after, hk, g1]
      rw [e1]; exact .inl rfl
  · have fin : ∀ k : Int, 1 ≤ k → k ≤ o.st.workers → 2 * (o.st.workers - k) + 1 ≤ o.mu → o.Near { o with st := PSt.fin { o.st with at_ := 9, k := k } } := fun k k0 k1 hm => by
      unfold PSt.fin
      dsimp only
      by_cases c : o.st.workers ≤ k
      · rw [if_pos c]; exact .inl rfl
      · rw [if_neg c]; refine .inr (.inr ?_)
        have : POp.mu { o with st := { o.st with at_ := 9, k := k } } = 2 * (o.st.workers - k) := by simp [POp.mu, hk]
        exact Int.le_trans (Int.le_of_eq (congrArg (· + 1) this)) hm
    rcases c with ⟨h1, _, h3, _⟩ | ⟨h1, _, _, h4, h5⟩ | ⟨h1, _, _, h4, h5⟩
    · refine near_plain hk0 ha0 (by omega) fun g => ?_
      have e1 : o.after g = { o with st := PSt.fin { o.st with at_ := 9, k := o.st.k } } := by
        unfold POp.after PSt.finished
        rw [if_neg (by omega), if_neg (by omega), if_neg (by omega), if_pos h1]
      rw [e1]
      exact fin _ (by omega) (by omega) (by simp [POp.mu, hk, h1]; omega)
    · have ek := w64_succ (k := o.st.k) (by omega) (by omega)
      refine near_plain hk0 ha0 (by omega) fun g => ?_
      by_cases g1 : g = 1
      · have e1 : o.after g = { o with st := { o.st with at_ := 7 } } := by simp [POp.after, PSt.finished, hk, h1, g1]
        rw [e1]; refine .inr (.inr ?_); simp [POp.mu, hk, h1]
      · have e1 : o.after g = { o with st := PSt.fin { o.st with at_ := 9, k := o.st.k + 1 } } := by simp [POp.after, PSt.finished, hk, h1, g1, ek]
        rw [e1]
        exact fin _ (by omega) (by omega) (by simp [POp.mu, hk, h1]; omega)
    · have ek := w64_succ (k := o.st.k) (by omega) (by omega)
      refine near_plain hk0 ha0 (by omega) fun g => ?_
      have e1 : o.after g = { o with st := PSt.fin { o.st with at_ := 9, k := o.st.k + 1 } } := by simp [POp.after, PSt.finished, hk, h1, ek]
      rw [e1]
      exact fin _ (by omega) (by omega) (by simp [POp.mu, hk, h1]; omega)
theorem RunP.stays (R : RunP ds o r) (hk : o.st.kind = 1) (ha : o.st.at_ = 5) (s : AS) : (stepP s o).2.st.at_ = 0 ∨ ((stepP s o).2.st.kind = 1 ∧ (stepP s o).2.st.at_ = 5) := by
  unfold stepP
  rw [if_neg R.k0, if_neg (by omega), if_neg (by omega)]
  cases e : (arenaA s o.st.req).1 with
  | none => exact .inl rfl
  | some g =>
    show (o.after g).st.at_ = 0 ∨ _
    by_cases g1 : g = 1
    · have e1 : o.after g = o := by simp [POp.after, POp.rested, hk, ha, g1]
      show (o.after g).st.at_ = 0 ∨ ((o.after g).st.kind = 1 ∧ (o.after g).st.at_ = 5)
      rw [e1]; exact .inr ⟨hk, ha⟩
    · have e1 : o.after g = { o with st := o.st.over 16 0 } := by simp [POp.after, POp.rested, hk, ha, g1]
      rw [e1]; exact .inl rfl
end
/-- A step makes one access at most, and none behind the end. -/
theorem stepP_log (s : AS) (o : POp) : (stepP s o).1.lg.length ≤ s.lg.length + 1 ∧ (o.answer.1 ≠ 0 → (stepP s o).1 = s) := by
  have hI : ∀ r, (arenaI s r).1 = none ∨ True := fun _ => .inr trivial
  have lgd : ∀ (x : AS) (a : Acc), x.lg = s.lg → (AS.log x a).lg.length ≤ s.lg.length + 1 := fun x a e => by
    have := wl_len x.wt x.lg a
    rw [e] at this
    show (wl x.wt x.lg a).length ≤ _
    rw [e]; exact this
  have la : ∀ r, (arenaI s r).2.lg.length ≤ s.lg.length + 1 := fun r => by
    cases r with
    | ld a => exact pif (P := fun p : Option Int × AS => p.2.lg.length ≤ s.lg.length + 1) (fun _ => lgd s _ rfl) fun _ => Nat.le_succ _
    | st a v => exact pif (P := fun p : Option Int × AS => p.2.lg.length ≤ s.lg.length + 1) (fun _ => lgd _ _ rfl) fun _ => Nat.le_succ _
    | cas a x y => exact pif (P := fun p : Option Int × AS => p.2.lg.length ≤ s.lg.length + 1) (fun _ => lgd _ _ rfl) fun _ => Nat.le_succ _
    | rs n => exact pif (P := fun p : Option Int × AS => p.2.lg.length ≤ s.lg.length + 1) (fun _ => Nat.le_succ _) fun _ => pif (P := fun p : Option Int × AS => p.2.lg.length ≤ s.lg.length + 1) (fun _ => Nat.le_succ _) fun _ => lgd _ _ rfl
  have lA : ∀ r, (arenaA s r).2.lg.length ≤ s.lg.length + 1 := fun r => by
    cases r with
    | rq r => exact la r
    | add a d => exact pif (P := fun p : Option Int × AS => p.2.lg.length ≤ s.lg.length + 1) (fun _ => lgd _ _ rfl) fun _ => Nat.le_succ _
  constructor
  · unfold stepP
    refine pif (P := fun p : AS × POp => p.1.lg.length ≤ s.lg.length + 1) (fun _ => Nat.le_succ _) fun _ => pif (P := fun p : AS × POp => p.1.lg.length ≤ s.lg.length + 1) (fun _ => Nat.le_succ _) fun _ => pif (P := fun p : AS × POp => p.1.lg.length ≤ s.lg.length + 1) (fun _ => ?_) fun _ => ?_
    · show (stepD arenaI s o.look).1.lg.length ≤ _
      unfold stepD
      refine pif (P := fun p : AS × DOp => p.1.lg.length ≤ s.lg.length + 1) (fun _ => Nat.le_succ _) fun _ => pif (P := fun p : AS × DOp => p.1.lg.length ≤ s.lg.length + 1) (fun _ => Nat.le_succ _) fun _ => ?_
      split <;> exact la _
    · split <;> exact lA _
  · intro h
    unfold POp.answer at h
    unfold stepP
    by_cases a : o.st.kind = 0
    · rw [if_pos a]
    · rw [if_neg a] at h
      by_cases b : o.st.at_ = 0
      · rw [if_neg a, if_pos b]
      · rw [if_pos b] at h; exact absurd rfl h
end Go.Mx
