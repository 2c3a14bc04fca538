/-
  Why calls answer as they do: how a step keeps it.
-/
import Derived.Test.YtjkecefbbijajaaMxWa
set_option linter.unusedVariables false
set_option linter.unusedSimpArgs false
set_option linter.unusedSectionVars false
namespace Go.Mx

theorem WI.go {W : List Nat} {S : Nat → PS} {td : List DTd} {most : Int} {k : Nat} {q : PS} (h : WI W S most k q) (ai : AI W most k q) (hi : HI W td (k + 1) q) {w : Nat} (hw : w < q.acts.length) (hr : 0 ≤ (q.act w).2) (hW : W[k]? = some w) {N : Int} (pi : PI most q N) (nn : N ≤ 900000000) {v : Int} {m' : AS} {x : DOp} (r : GoR most q (k : Int) w v m' x N)
    (hS : q.m = (S k).m) (hS1 : S (k + 1) = q.go (k : Int) w) : WI W S most (k + 1) (q.go (k : Int) w) := by
  obtain ⟨e1, e2⟩ := r.act hw
  have pc : (q.act w).1.pc ≠ 0 := fun z => by have := (pi.run w hw).2 z; omega
  obtain ⟨base, hmost⟩ := pi.mach w hw pc
  obtain ⟨c0, r1, r2, r3, r4, r5⟩ := ai.s0 w hw hr
  obtain ⟨w', b, q1, q2, q3, _⟩ := hi.c1 _ c0 r1
  have yr := h.run w c0 hw hr r1
  obtain ⟨e, l1, l2, l3⟩ := r.log pi.wt
  have en : En S k e := by
    unfold En
    rw [hS1, e1, l1, ← hS, List.getElem?_append_right (Nat.le_refl _), Nat.sub_self]; rfl
  have eT : tA S k = gt q.m.cs 0 := by unfold tA; rw [hS]
  have eB : bA S k = gt q.m.cs 1 := by unfold bA; rw [hS]
  have hb : (dBeg c0).toNat = b := by omega
  rw [hb] at r5 yr
  have np : ∀ n : Nat, stepsOf (q.act w).1 = (n : Int) → NP W w b n k := fun n hn => ⟨hW, by omega, by omega⟩
  have hpk := pk_succ (w := w) hW
  rw [if_pos rfl] at hpk
  have hxe := r.ex
  have kx : x.kind = (q.act w).1.kind := by rw [hxe]; exact ((q.act w).1.after_same v).1
  -- what the step's machine knows, or why it ended so
  have main : (x.pc ≠ 0 → YR W S (k + 1) w b x) ∧ (x.pc = 0 → WhyC W S most w b k (dKind c0) x.code) := by
    by_cases w0 : w = 0
    · subst w0
      have os := pi.os
      have push : (q.act 0).1.kind = 1 → (x.pc ≠ 0 → YR W S (k + 1) 0 b x) ∧ (x.pc = 0 → WhyC W S most 0 b k (dKind c0) x.code) := fun k1 => by
        refine ⟨fun xp => ⟨fun _ _ xp1 xp2 => ?_, fun z => by omega, fun z => by omega, fun z => by omega⟩, fun xp => ⟨fun _ => ?_, fun z => by omega, fun z => by omega⟩⟩
        · by_cases p1 : (q.act 0).1.pc = 1
          · exfalso
            have : x.pc = 2 := by rw [hxe]; simp [DOp.after, DOp.pushed, k1, p1]
            exact xp2 this
          · by_cases p2 : (q.act 0).1.pc = 2
            · have ex : x = { (q.act 0).1 with t := v, pc := 3 } := by rw [hxe]; simp [DOp.after, DOp.pushed, k1, p2]
              refine ⟨k, Nat.lt_succ_self k, np 1 (by simp [stepsOf, k1, p2]), ?_, ?_⟩
              · rw [ex, eT]
                rw [req2 base p2] at l3
                exact l3.2.1
              · rw [ex, eB]
                cases os with
                | pu2 _ _ hb => exact hb
                | idle p => omega
                | pu1 k' p | pu3 k' p | pu4 k' p | pu5 k' p | pu6 k' p | pu7 k' p | pu8 k' p | pu9 k' p | pu10 k' p | pu11 k' p => omega
                | po1 k' p | po3 k' p | po11 k' p | po2 k' p | po4 k' p | po12 k' p | po13 k' p | pe k' p | pf k' p => omega
            · obtain ⟨m, m1, m2, m3, m4⟩ := yr.pu k1 pc p1 p2
              obtain ⟨a1, a2⟩ := push_after (v := v) k1 p1 p2
              exact ⟨m, by omega, m2, by rw [hxe, a1]; exact m3, by rw [hxe, a2]; exact m4⟩
        · cases r.own rfl with
          | same p => exact absurd xp p
          | low _ p => exact absurd xp p
          | won _ p => exact absurd xp p
          | got k' => omega
          | empty k' => omega
          | push _ _ co va c hh hh' t fb p11 =>
            obtain ⟨m, m1, m2, m3, m4⟩ := yr.pu k1 pc (by omega) (by omega)
            exact ⟨m, by omega, m2, .inr ⟨co, by omega⟩⟩
          | full _ _ co va c hh hh' t fb fc bb t0 p4 =>
            obtain ⟨m, m1, m2, m3, m4⟩ := yr.pu k1 pc (by omega) (by omega)
            exact ⟨m, by omega, m2, .inl ⟨co, by omega⟩⟩
      -- a pop that has no TOP yet
      have early : (q.act 0).1.kind = 2 → x.pc ≠ 0 → (x.pc ≠ 4 ∧ x.pc ≠ 12 ∧ x.pc ≠ 13 ∧ (x.pc = 11 → x.i = 0)) → (x.pc ≠ 0 → YR W S (k + 1) 0 b x) ∧ (x.pc = 0 → WhyC W S most 0 b k (dKind c0) x.code) := fun k2 xp hx =>
        ⟨fun _ => ⟨fun z => by omega, fun _ z => by omega, fun _ z1 z2 => by omega, fun z => by omega⟩, fun z => absurd z xp⟩
      cases os with
      | idle p => exact absurd p pc
      | pu1 k' p | pu2 k' p | pu3 k' p | pu4 k' p | pu5 k' p | pu6 k' p | pu7 k' p | pu8 k' p | pu9 k' p | pu10 k' p | pu11 k' p => exact push k'
      | po1 k' p =>
        have ex : x.pc = 3 := by rw [hxe]; simp [DOp.after, DOp.popped, k', p]
        exact early k' (by omega) ⟨by omega, by omega, by omega, fun z => by omega⟩
      | po3 k' p i =>
        have ex : x.pc = 11 ∧ x.i = (q.act 0).1.i := by rw [hxe]; simp [DOp.after, DOp.popped, k', p]
        exact early k' (by omega) ⟨by omega, by omega, by omega, fun z => by omega⟩
      | po11 k' p i =>
        have ex : x.pc = 2 := by rw [hxe]; simp [DOp.after, DOp.popped, k', p, i]
        exact early k' (by omega) ⟨by omega, by omega, by omega, fun z => by omega⟩
      | po2 k' p i wn bb a =>
        rw [req2 base p] at l3
        have hv : v = gt q.m.cs 0 := l3.2.1
        have ex : x = if (q.act 0).1.b < v then { (q.act 0).1 with t := v, i := 1, pc := 11 } else { (q.act 0).1 with t := v, i := 1, pc := 4 } := by rw [hxe]; simp [DOp.after, DOp.popped, k', p]
        have xt : x.t = v ∧ x.b = (q.act 0).1.b ∧ x.pc ≠ 0 ∧ (x.pc = 11 → (q.act 0).1.b < v) := by
          rw [ex]
          by_cases z : (q.act 0).1.b < v
          · rw [if_pos z]; exact ⟨rfl, rfl, by show (11 : Int) ≠ 0; decide, fun _ => z⟩
          · rw [if_neg z]; exact ⟨rfl, rfl, by show (4 : Int) ≠ 0; decide, fun q => absurd (show (4 : Int) = 11 from q) (by decide)⟩
        refine ⟨fun _ => ⟨fun z => by omega, fun _ _ => ⟨k, Nat.lt_succ_self k, np 3 (by simp [stepsOf, k', p]), by rw [xt.1, eT, hv], by rw [xt.2.1, eB, bb]⟩, fun _ z1 z2 z3 => ?_, fun z => by omega⟩, fun z => absurd z xt.2.2.1⟩
        exfalso
        have := xt.2.2.2 z1
        omega
      | po4 k' p i wn bb a =>
        obtain ⟨m, m1, m2, m3, m4⟩ := yr.po k' (.inl p)
        have ex : x = if v < 1 then DOp.over { (q.act 0).1 with c := v, pc := 12 } 1 0 else { (q.act 0).1 with c := v, pc := 12 } := by rw [hxe]; simp [DOp.after, DOp.popped, k', p]
        by_cases z : v < 1
        · exfalso
          rw [if_pos z] at ex
          have x0 : x.pc = 0 := by rw [ex]; rfl
          have x1 : x.code = 1 := by rw [ex]; rfl
          cases r.own rfl with
          | same p => exact p x0
          | low _ p => exact p x0
          | won _ p => exact p x0
          | push k'' => omega
          | full k'' => omega
          | got _ _ co => omega
          | empty _ _ co => omega
        · rw [if_neg z] at ex
          have xp : x.pc = 12 := by rw [ex]
          exact ⟨fun _ => ⟨fun z => by omega, fun _ _ => ⟨m, by omega, m2, by rw [ex]; exact m3, by rw [ex]; exact m4⟩, fun _ z1 => by omega, fun z => by omega⟩, fun z => by omega⟩
      | po12 k' p i wn bb a t0 t tb c =>
        obtain ⟨m, m1, m2, m3, m4⟩ := yr.po k' (.inr (.inl p))
        have ex : x = if (q.act 0).1.t < (q.act 0).1.b then DOp.over { (q.act 0).1 with x := v, pc := 13 } 4 v else { (q.act 0).1 with x := v, pc := 13 } := by rw [hxe]; simp [DOp.after, DOp.popped, k', p]
        by_cases z : (q.act 0).1.t < (q.act 0).1.b
        · rw [if_pos z] at ex
          have x0 : x.pc = 0 := by rw [ex]; rfl
          have x1 : x.code = 4 := by rw [ex]; rfl
          have hs : stepsOf (q.act 0).1 = 5 := by simp [stepsOf, k', p]
          exact ⟨fun y => absurd x0 y, fun _ => ⟨fun z => by omega, fun _ => ⟨m, by omega, m2, .inr (.inl ⟨by omega, x1, by omega⟩)⟩, fun z => by omega⟩⟩
        · rw [if_neg z] at ex
          have xp : x.pc = 13 := by rw [ex]
          exact ⟨fun _ => ⟨fun z => by omega, fun _ _ => ⟨m, by omega, m2, by rw [ex]; exact m3, by rw [ex]; exact m4⟩, fun _ z1 => by omega, fun z => by omega⟩, fun z => by omega⟩
      | po13 k' p i wn bb t0 t tb =>
        obtain ⟨m, m1, m2, m3, m4⟩ := yr.po k' (.inr (.inr (.inl p)))
        have ex : x = { (q.act 0).1 with won := decide (v = 1), pc := 11 } := by rw [hxe]; simp [DOp.after, DOp.popped, k', p]
        have xp : x.pc = 11 := by rw [ex]
        rw [req13 base p] at l3
        obtain ⟨z1, hv, _⟩ := l3
        have hv : v = if gt q.m.cs 0 = (q.act 0).1.t then 1 else 0 := hv
        refine ⟨fun _ => ⟨fun z => by omega, fun _ _ => ⟨m, by omega, m2, by rw [ex]; exact m3, by rw [ex]; exact m4⟩, fun _ _ _ _ => ⟨k, e, Nat.lt_succ_self k, np 6 (by simp [stepsOf, k', p]), en, by rw [z1]; rfl, ?_⟩, fun z => by omega⟩, fun z => by omega⟩
        rw [ex, z1]
        show decide (gt q.m.cs 0 = (q.act 0).1.t) = decide (v = 1)
        by_cases y : gt q.m.cs 0 = (q.act 0).1.t
        · rw [if_pos y] at hv; rw [decide_eq_true y, hv]; rfl
        · rw [if_neg y] at hv; rw [decide_eq_false y, hv]; rfl
      | pe k' p i wn bb t tt =>
        obtain ⟨m, m1, m2, m3, m4⟩ := yr.po k' (.inr (.inr (.inr ⟨p, by omega⟩)))
        have ex : x = (q.act 0).1.over 5 0 := by rw [hxe]; simp [DOp.after, DOp.popped, k', p, i, wn]
        have x0 : x.pc = 0 := by rw [ex]; rfl
        have x1 : x.code = 5 := by rw [ex]; rfl
        exact ⟨fun y => absurd x0 y, fun _ => ⟨fun z => by omega, fun _ => ⟨m, by omega, m2, .inl ⟨by omega, x1⟩⟩, fun z => by omega⟩⟩
      | pf k' p i bb t tt =>
        obtain ⟨m, m1, m2, m3, m4⟩ := yr.po k' (.inr (.inr (.inr ⟨p, by omega⟩)))
        obtain ⟨m6, e6, n1, n2, n3, n4, n5⟩ := yr.pf k' p (by omega) t
        cases wn : (q.act 0).1.won with
        | true =>
          have ex : x = (q.act 0).1.over 4 (q.act 0).1.x := by rw [hxe]; simp [DOp.after, DOp.popped, k', p, i, wn]
          have x0 : x.pc = 0 := by rw [ex]; rfl
          have x1 : x.code = 4 := by rw [ex]; rfl
          exact ⟨fun y => absurd x0 y, fun _ => ⟨fun z => by omega, fun _ => ⟨m, by omega, m2, .inr (.inr ⟨by omega, m6, e6, by omega, n2, n3, n4, .inl ⟨x1, by rw [n5, wn]⟩⟩)⟩, fun z => by omega⟩⟩
        | false =>
          have ex : x = (q.act 0).1.over 5 0 := by rw [hxe]; simp [DOp.after, DOp.popped, k', p, i, wn]
          have x0 : x.pc = 0 := by rw [ex]; rfl
          have x1 : x.code = 5 := by rw [ex]; rfl
          exact ⟨fun y => absurd x0 y, fun _ => ⟨fun z => by omega, fun _ => ⟨m, by omega, m2, .inr (.inr ⟨by omega, m6, e6, by omega, n2, n3, n4, .inr ⟨x1, by rw [n5, wn]⟩⟩)⟩, fun z => by omega⟩⟩
    · have k3 := pi.kind w (by omega) hw pc
      have hd2 : dKind c0 = 2 := by omega
      have codes : x.pc = 0 → x.code ≠ 1 := fun x0 z => by
        cases r.thief w0 with
        | same p => exact p x0
        | empty _ _ co => omega
        | lost _ _ co => omega
        | got _ _ co => omega
        | look _ _ co => omega
      have run : ∀ m, m < k + 1 → NP W w b 1 m → x.pc ≠ 0 → (x.pc ≠ 0 → YR W S (k + 1) w b x) ∧ (x.pc = 0 → WhyC W S most w b k (dKind c0) x.code) := fun m hm hn xp =>
        ⟨fun _ => ⟨fun z => by omega, fun z => by omega, fun z => by omega, fun _ _ => ⟨m, hm, hn⟩⟩, fun z => absurd z xp⟩
      cases pi.th w (by omega) hw with
      | idle p => exact absurd p pc
      | st2 _ p =>
        have ex : x.pc = 1 := by rw [hxe]; simp [DOp.after, DOp.stolen, k3, p]
        exact ⟨fun _ => .fresh (.inl ex), fun z => by omega⟩
      | st1 _ p t0 t =>
        have np1 := np 1 (by simp [stepsOf, k3, p])
        have ex : x = if v ≤ (q.act w).1.t then DOp.over { (q.act w).1 with b := v, pc := 3 } 5 0 else { (q.act w).1 with b := v, pc := 3 } := by rw [hxe]; simp [DOp.after, DOp.stolen, k3, p]
        rw [req1 base p] at l3
        have hv : v = gt q.m.cs 1 := l3.2.1
        by_cases z : v ≤ (q.act w).1.t
        · rw [if_pos z] at ex
          have x0 : x.pc = 0 := by rw [ex]; rfl
          have x1 : x.code = 5 := by rw [ex]; rfl
          exact ⟨fun y => absurd x0 y, fun _ => ⟨fun z => by omega, fun z => by omega, fun _ => ⟨k, Nat.le_refl k, np1, .inl ⟨x1, by omega⟩⟩⟩⟩
        · rw [if_neg z] at ex
          exact run k (Nat.lt_succ_self k) np1 (by rw [ex]; show (3 : Int) ≠ 0; decide)
      | st3 _ p =>
        obtain ⟨m, m1, m2⟩ := yr.st k3 (.inl p)
        exact run m (by omega) m2 (by rw [hxe]; simp [DOp.after, DOp.stolen, k3, p])
      | st4 _ p =>
        obtain ⟨m, m1, m2⟩ := yr.st k3 (.inr (.inl p))
        have ex : x = if v < 1 then DOp.over { (q.act w).1 with c := v, pc := 12 } 1 0 else { (q.act w).1 with c := v, pc := 12 } := by rw [hxe]; simp [DOp.after, DOp.stolen, k3, p]
        by_cases z : v < 1
        · rw [if_pos z] at ex
          exact absurd (show x.code = 1 by rw [ex]; rfl) (codes (by rw [ex]; rfl))
        · rw [if_neg z] at ex
          exact run m (by omega) m2 (by rw [ex]; show (12 : Int) ≠ 0; decide)
      | st12 _ p =>
        obtain ⟨m, m1, m2⟩ := yr.st k3 (.inr (.inr (.inl p)))
        exact run m (by omega) m2 (by rw [hxe]; simp [DOp.after, DOp.stolen, k3, p])
      | st13 _ p t0 t =>
        obtain ⟨m, m1, m2⟩ := yr.st k3 (.inr (.inr (.inr p)))
        have np5 := np 5 (by simp [stepsOf, k3, p])
        have ex : x = if v = 1 then (q.act w).1.over 4 (q.act w).1.x else (q.act w).1.over 6 0 := by rw [hxe]; simp [DOp.after, DOp.stolen, k3, p]
        rw [req13 base p] at l3
        obtain ⟨z1, hv, _⟩ := l3
        have hv : v = if gt q.m.cs 0 = (q.act w).1.t then 1 else 0 := hv
        have ok : aOk e = decide (gt q.m.cs 0 = (q.act w).1.t) := by rw [z1]; rfl
        have k2 : aKind e = 2 := by rw [z1]; rfl
        by_cases y : gt q.m.cs 0 = (q.act w).1.t
        · rw [if_pos y] at hv
          rw [decide_eq_true y] at ok
          rw [if_pos hv] at ex
          have x0 : x.pc = 0 := by rw [ex]; rfl
          have x1 : x.code = 4 := by rw [ex]; rfl
          exact ⟨fun y => absurd x0 y, fun _ => ⟨fun z => by omega, fun z => by omega, fun _ => ⟨m, by omega, m2, .inr ⟨k, e, Nat.le_refl k, np5, en, k2, .inl ⟨x1, ok⟩⟩⟩⟩⟩
        · rw [if_neg y] at hv
          rw [decide_eq_false y] at ok
          rw [if_neg (by omega)] at ex
          have x0 : x.pc = 0 := by rw [ex]; rfl
          have x1 : x.code = 6 := by rw [ex]; rfl
          exact ⟨fun y => absurd x0 y, fun _ => ⟨fun z => by omega, fun z => by omega, fun _ => ⟨m, by omega, m2, .inr ⟨k, e, Nat.le_refl k, np5, en, k2, .inr ⟨x1, ok⟩⟩⟩⟩⟩
      | lk2 k' => omega
      | lk1 k' => omega
  -- put together
  have idx : ∀ j, j < q.acts.length → 0 ≤ (q.act j).2 → j ≠ w → (q.act j).2.toNat ≠ (q.act w).2.toNat := fun j hj hrj hjw z => by
    obtain ⟨c', s1, s2, _⟩ := ai.s0 j hj hrj
    rw [z, r1] at s1
    cases s1
    omega
  by_cases xp : x.pc = 0
  · have eg := r.off xp
    have ec : (q.go (k : Int) w).calls = endAt q.calls (q.act w).2.toNat (k : Int) x.code x.value := by rw [eg]
    have ea : ∀ j, (q.go (k : Int) w).act j = if j = w then (x, -1) else q.act j := fun j => by
      rw [eg]
      exact act_set (p := { q with m := m', calls := endAt q.calls (q.act w).2.toNat (k : Int) x.code x.value }) (x := (x, -1)) (j := j) hw
    have el : (q.go (k : Int) w).acts.length = q.acts.length := by rw [eg]; exact List.length_set
    refine ⟨fun j c hj hrj hc => ?_, fun i c hc he => ?_⟩
    · rw [el] at hj
      rw [ea] at hrj hc ⊢
      by_cases z : j = w
      · rw [if_pos z] at hrj; exact absurd (show (0 : Int) ≤ -1 from hrj) (by decide)
      · rw [if_neg z] at hrj hc ⊢
        rw [ec, endAt_get r1] at hc
        rcases hc with ⟨y, _⟩ | ⟨_, hc⟩
        · exact absurd y (idx j hj hrj z)
        · exact (h.run j c hj hrj hc).later
    · rw [ec, endAt_get r1] at hc
      rcases hc with ⟨_, rfl⟩ | ⟨_, hc⟩
      · have := main.2 xp
        show WhyC W S most (dWho c0).toNat (dBeg c0).toNat ((k : Int)).toNat (dKind c0) x.code
        rw [Int.toNat_natCast, hb, r2, Int.toNat_natCast]
        exact this
      · exact h.fin i c hc he
  · have eg := r.on xp
    have ec : (q.go (k : Int) w).calls = q.calls := by rw [eg]
    have ea : ∀ j, (q.go (k : Int) w).act j = if j = w then (x, (q.act w).2) else q.act j := fun j => by
      rw [eg]
      exact act_set (p := { q with m := m' }) (x := (x, (q.act w).2)) (j := j) hw
    have el : (q.go (k : Int) w).acts.length = q.acts.length := by rw [eg]; exact List.length_set
    refine ⟨fun j c hj hrj hc => ?_, fun i c hc he => by rw [ec] at hc; exact h.fin i c hc he⟩
    rw [el] at hj
    rw [ec] at hc
    rw [ea] at hrj hc ⊢
    by_cases z : j = w
    · subst z
      rw [if_pos rfl] at hrj hc ⊢
      have hc : q.calls[(q.act j).2.toNat]? = some c := hc
      rw [r1] at hc
      cases hc
      rw [hb]
      exact main.1 xp
    · rw [if_neg z] at hrj hc ⊢
      exact (h.run j c hj hrj hc).later
theorem stN_wi {low most thieves : Int} {todos : List DTd} {picks : List Int} (hj : judgeE low most todos thieves picks = 0) {k : Nat} (hk : k ≤ picks.length) : WI (whos thieves picks) (stN low most todos thieves picks) most k (stN low most todos thieves picks k) := by
  refine stN_ind hj (P := fun k p => WI (whos thieves picks) (stN low most todos thieves picks) most k p) ⟨fun w c0 _ _ h => (by cases h), fun i c h => (by cases h)⟩ (fun k w a h _ _ => ⟨fun v c0 hv hr hc => (h.run v c0 hv hr hc).later, h.fin⟩) (fun k w q v m' x a h aq r es => ?_) hk
  exact (h.pre (by rw [a.al]; exact a.wl) a.pi aq.pre).go aq.ai aq.hi (aq.wl a) aq.run a.W aq.pi (by have := a.lt; obtain ⟨_, j2, _⟩ := judge_ok hj; omega) r aq.m es
end Go.Mx
