/-
  A deque of a park play: one owner, many thieves, among others' cells.
  A park play: the modes of its actors, and what holds between the picks.
  A park play: an actor takes up its next machine; what a step does to the memory.
  A park play: a step.
  A park play: what each step does.
  A park play: what each step of worker 0 does; a pick as a whole.
  A park play: where it begins; induction over the picks; what is told at the end.
  A park play: flags, SLEEPERS, and no wake-up is lost.
  A park play: how many accesses each actor has made.
-/
import Derived.Test.YtndhbkhhehleaaaMxSm
import Derived.Test.YtndhbkhhehleaaaMxPv
set_option linter.unusedVariables false
set_option linter.unusedSimpArgs false
set_option linter.unusedSectionVars false
namespace Go.Mx

structure DvI (most sz N off : Int) (A J : AS) (f : Int → Int) (bl : List Int) (own : DOp) : Prop where
  emb : Emb A.cs J.cs off f
  dg : DG most sz N A.cs own
  sz : A.sz = sz
  os : OwnS most A.cs own
  mo : Mach most own
  ki : KI A.cs own f bl
  ko : own.pc ≠ 0 → own.kind = 1 ∨ own.kind = 2
structure ThI (most : Int) (A : List Int) (bl : List Int) (own th : DOp) : Prop where
  ths : ThS A own th
  mt : Mach most th
  kt : KT th bl
  ra : (th.a = 0 ∨ (3 ≤ th.a ∧ th.a < (A.length : Int))) ∧ th.a2 = 0
  kth : th.pc ≠ 0 → th.kind = 3
theorem arena_who (A : AS) (r : Rq) : (arenaI A r).2.who = A.who ∧ (arenaI A r).2.wt = A.wt := by
  cases r with
  | ld a => exact pif (P := fun p : Option Int × AS => p.2.who = A.who ∧ p.2.wt = A.wt) (fun _ => ⟨rfl, rfl⟩) fun _ => ⟨rfl, rfl⟩
  | st a v => exact pif (P := fun p : Option Int × AS => p.2.who = A.who ∧ p.2.wt = A.wt) (fun _ => ⟨rfl, rfl⟩) fun _ => ⟨rfl, rfl⟩
  | cas a x y => exact pif (P := fun p : Option Int × AS => p.2.who = A.who ∧ p.2.wt = A.wt) (fun _ => ⟨rfl, rfl⟩) fun _ => ⟨rfl, rfl⟩
  | rs n => exact pif (P := fun p : Option Int × AS => p.2.who = A.who ∧ p.2.wt = A.wt) (fun _ => ⟨rfl, rfl⟩) fun _ => pif (P := fun p : Option Int × AS => p.2.who = A.who ∧ p.2.wt = A.wt) (fun _ => ⟨rfl, rfl⟩) fun _ => ⟨rfl, rfl⟩
structure DqE (off : Int) (who : Int) (e : Acc) : Prop where
  who : e.1 = who
  kd : e.2.1 = 4 ∨ (off ≤ e.2.2.1 ∧ 0 ≤ e.2.1 ∧ e.2.1 ≤ 2)
theorem arena_log {J J' : AS} {r : Rq} {v : Int} (h : arenaI J r = (some v, J')) (w : J.wt = true) {off : Int} (ha : (∃ n, r = .rs n) ∨ off ≤ reqA r) : ∃ e, J'.lg = J.lg ++ [e] ∧ DqE off J.who e := by
  have lg : ∀ (s : AS) (e : Acc), s.wt = true → (s.log e).lg = s.lg ++ [e] := fun s e q => by
    unfold AS.log wl; rw [q]; rfl
  cases r with
  | ld a =>
    have h : (if J.In a then _ else _) = _ := h
    by_cases q : J.In a
    · rw [if_pos q] at h
      cases h
      refine ⟨_, lg _ _ w, rfl, .inr ⟨?_, (by decide : (0:Int) ≤ 0), (by decide : (0:Int) ≤ 2)⟩⟩
      rcases ha with ⟨n, e⟩ | e
      · cases e
      · exact e
    · rw [if_neg q] at h; cases h
  | st a x =>
    have h : (if J.In a then _ else _) = _ := h
    by_cases q : J.In a
    · rw [if_pos q] at h
      cases h
      refine ⟨_, lg _ _ w, rfl, .inr ⟨?_, (by decide : (0:Int) ≤ 1), (by decide : (1:Int) ≤ 2)⟩⟩
      rcases ha with ⟨n, e⟩ | e
      · cases e
      · exact e
    · rw [if_neg q] at h; cases h
  | cas a x y =>
    have h : (if J.In a then _ else _) = _ := h
    by_cases q : J.In a
    · rw [if_pos q] at h
      cases h
      refine ⟨_, lg _ _ w, rfl, .inr ⟨?_, (by decide : (0:Int) ≤ 2), (by decide : (2:Int) ≤ 2)⟩⟩
      rcases ha with ⟨n, e⟩ | e
      · cases e
      · exact e
    · rw [if_neg q] at h; cases h
  | rs n =>
    have h : (if n < 1 then _ else if _ then _ else _) = _ := h
    by_cases q : n < 1
    · rw [if_pos q] at h; cases h
    · rw [if_neg q] at h
      split at h
      · cases h
      · cases h
        exact ⟨_, lg _ _ w, rfl, .inl rfl⟩
structure OwnT (most sz N off : Int) (A J : AS) (f : Int → Int) (bl : List Int) (own : DOp) (v : Int) (A' : AS) (v' : Int) (J' : AS) (f' : Int → Int) (bl' : List Int) : Prop where
  acc : arenaI A own.req = (some v, A')
  sim : SimR off f A J own v A' f' v' J'
  r : OwnR most sz N A own A' (own.after v)
  dv : DvI most sz (N + 1) off A' J' f' bl' (own.after v)
  step : stepD arenaI J (mapO off f own) = (J', mapO off f' (own.after v))
  ths : ∀ th, ThI most A.cs bl own th → ThI most A'.cs bl' (own.after v) th ∧ mapO off f' th = mapO off f th
  code : (own.after v).pc = 0 → (own.after v).code ≠ 0 ∧ (own.after v).code ≠ 1
theorem DvI.own {most sz N off : Int} {A J : AS} {f : Int → Int} {bl : List Int} {own : DOp} (D : DvI most sz N off A J f bl own) (nn : N + 1 ≤ 1000000000) (hJ : J.sz ≤ 1048576) (hroom : J.sz - (J.cs.length : Int) ≥ A.sz - (A.cs.length : Int)) (pp : own.pc ≠ 0) :
    ∃ v A' v' J' f' bl', OwnT most sz N off A J f bl own v A' v' J' f' bl' := by
  obtain ⟨E, g, hs, os, mo, K, ko⟩ := D
  have hk := ko pp
  have hk0 : own.kind ≠ 0 := by omega
  have main : ∀ v A', arenaI A own.req = (some v, A') → OwnR most sz N A own A' (own.after v) → (∃ f' bl' v' J', SimR off f A J own v A' f' v' J' ∧ KI A'.cs (own.after v) f' bl' ∧ ∀ s ∈ bl, s ∈ bl') →
      ∃ v A' v' J' f' bl', OwnT most sz N off A J f bl own v A' v' J' f' bl' := by
    rintro v A' ha R ⟨f', bl', v', J', S, K', sub⟩
    have hk' : (own.after v).kind = own.kind := (own.after_same v).1
    have az : A'.sz = sz := by
      have e := arena_sz A own.req
      rw [ha] at e
      rw [← hs]; exact e
    have al := S.alen
    refine ⟨v, A', v', J', f', bl', ha, S, R, ⟨S.emb, R.dg, az, R.os, fun p => ?_, K', fun _ => by rw [hk']; exact hk⟩, S.step hk0 pp, fun th ⟨ts, mt, kt, ra, kth⟩ => ⟨⟨R.th th ts, mt, fun a b => sub _ (kt a b), ⟨ra.1.imp id fun z => ⟨z.1, by omega⟩, ra.2⟩, kth⟩, ?_⟩, fun p0 => ?_⟩
    · obtain ⟨_, hb, hm, _⟩ := own.after_same v
      rw [hb, hm]; exact mo pp
    · have e1 : fz f' th.a = fz f th.a := by
        rcases ra.1 with z | ⟨z1, z2⟩
        · rw [z, fz0, fz0]
        · rw [fz_pos z1, fz_pos z1]; exact S.old _ (by omega) z2
      unfold mapO
      rw [e1, ra.2, fz0, fz0]
    · cases R.eff with
      | same p => exact absurd p0 p
      | push k p co => rw [co]; decide
      | full k p co => rw [co]; decide
      | low k p => exact absurd p0 p
      | got k p co => rw [co]; decide
      | empty k p co => rw [co]; decide
      | won k p => exact absurd p0 p
  rcases hk with k | k
  · obtain ⟨v, A', ha, R⟩ := own_push g nn hs mo os k pp
    exact main v A' ha R (sim_push E g hs hJ hroom mo os K k pp ha)
  · obtain ⟨v, A', ha, R⟩ := own_pop g nn hs mo os k pp
    obtain ⟨v', J', S, K'⟩ := sim_pop E g hs mo os K k pp ha
    exact main v A' ha R ⟨f, bl, v', J', S, K', fun s h => h⟩
structure ThT (most sz N off : Int) (A J : AS) (f : Int → Int) (bl : List Int) (own th : DOp) (v : Int) (A' : AS) (v' : Int) (J' : AS) : Prop where
  acc : arenaI A th.req = (some v, A')
  sim : SimR off f A J th v A' f v' J'
  r : ThR most sz N A own th A' (th.after v)
  dv : DvI most sz (N + 1) off A' J' f bl own
  step : stepD arenaI J (mapO off f th) = (J', mapO off f (th.after v))
  me : ThI most A'.cs bl own (th.after v)
  ths : ∀ t2, ThI most A.cs bl own t2 → ThI most A'.cs bl own t2
  code : (th.after v).pc = 0 → (th.after v).code ≠ 0 ∧ (th.after v).code ≠ 1
theorem DvI.thief {most sz N off : Int} {A J : AS} {f : Int → Int} {bl : List Int} {own th : DOp} (D : DvI most sz N off A J f bl own) (T : ThI most A.cs bl own th) (nn : N + 1 ≤ 1000000000) (pp : th.pc ≠ 0) :
    ∃ v A' v' J', ThT most sz N off A J f bl own th v A' v' J' := by
  obtain ⟨E, g, hs, os, mo, K, ko⟩ := D
  obtain ⟨ts, mt, kt, ra, kth⟩ := T
  have k := kth pp
  have hk0 : th.kind ≠ 0 := by omega
  have hnw := newer_nn os g.c1 g.cm
  obtain ⟨v, A', ha, R⟩ := th_step g hnw mt os ts pp
  obtain ⟨v', J', S, K', kt'⟩ := sim_thief E g hs hnw mt ts K kt pp ha
  have hk' : (th.after v).kind = th.kind := (th.after_same v).1
  obtain ⟨a2, aa⟩ := stolen_a th v k
  have al := S.alen
  have az : A'.sz = sz := by
    have e := arena_sz A th.req
    rw [ha] at e
    rw [← hs]; exact e
  refine ⟨v, A', v', J', ha, S, R, ⟨S.emb, R.dg.up nn, az, R.os, mo, K', ko⟩, S.step hk0 pp, ⟨R.me, fun p => ?_, kt', ⟨?_, by rw [a2]; exact ra.2⟩, fun _ => by rw [hk']; exact k⟩, fun t2 ⟨ts2, mt2, kt2, ra2, kth2⟩ => ⟨R.ths _ ts2, mt2, kt2, ⟨ra2.1.imp id fun z => ⟨z.1, by omega⟩, ra2.2⟩, kth2⟩, fun p0 => ?_⟩
  · obtain ⟨_, hb, hm, _⟩ := th.after_same v
    rw [hb, hm]; exact mt pp
  · rw [aa]
    by_cases p3 : th.pc = 3
    · rw [if_pos p3]
      have hb0 := (mt pp).1
      rw [req3 hb0 p3, ld_ok ⟨by decide, by have := E.a3; omega⟩] at ha
      cases ha
      have := (K.af _ K.cur)
      have h1 := this.1
      have h2 := this.2.1
      have h3 : 1 ≤ gt A.cs (cA A.cs) := g.c1
      exact .inr ⟨h1, by show cA A.cs < (A.cs.length : Int); omega⟩
    · rw [if_neg p3]; exact ra.1.imp id fun z => ⟨z.1, by omega⟩
  · cases R.eff with
    | same p => exact absurd p0 p
    | empty k p co => rw [co]; decide
    | lost k p co => rw [co]; decide
    | got k p co => rw [co]; decide
    | look k p co => rcases co with co | co <;> rw [co] <;> decide
theorem DvI.beg {most sz N off : Int} {A J : AS} {f : Int → Int} {bl : List Int} {own : DOp} (D : DvI most sz N off A J f bl own) (p : own.pc = 0) {k v : Int} (hk : k = 1 ∨ k = 2) : DvI most sz N off A J f bl (DOp.begin k 1 0 most v) ∧ (∀ th, ThI most A.cs bl own th → ThI most A.cs bl (DOp.begin k 1 0 most v) th) ∧ hand A.cs own = [] ∧ hand A.cs (DOp.begin k 1 0 most v) = [] := by
  have m1 : 1 ≤ most := by have := D.dg.c1; have := D.dg.cm; omega
  have m2 := D.dg.mx
  have l0 : ¬ lowered own := lowp (.inl p)
  have e := begin_eq (k := k) (pc := 1) (base := 0) (most := most) (v := v) m1 m2
  rw [e]
  have l1 : ¬ lowered (⟨k, 1, 0, most, v, 0, 0, 0, 0, 0, 0, 0, 0, false, 0, 0⟩ : DOp) := lowp (.inr (.inl rfl))
  have b1 : Bl A.cs (⟨k, 1, 0, most, v, 0, 0, 0, 0, 0, 0, 0, 0, false, 0, 0⟩ : DOp) = Bl A.cs own := (Bl_up l1).trans (Bl_up l0).symm
  have n1 : newer (⟨k, 1, 0, most, v, 0, 0, 0, 0, 0, 0, 0, 0, false, 0, 0⟩ : DOp) = newer own := (new0 (.inr (.inl (show (1 : Int) < 6 by decide)))).trans (new0 (.inr (.inl (by omega)))).symm
  refine ⟨⟨D.emb, D.dg.re b1 n1, D.sz, ?_, fun _ => ⟨rfl, rfl⟩, D.ki.keep rfl rfl (fun _ _ => rfl) (fun _ h => by simp at h), fun _ => hk⟩, fun th T => { T with ths := ?_ }, handp (.inl p), handp (.inr (.inl rfl))⟩
  · rcases hk with rfl | rfl
    · exact .pu1 rfl rfl
    · exact .po1 rfl rfl rfl rfl
  · refine T.ths.keep rfl (fun a => ?_) (fun a b => ⟨b, rfl, fun _ e => e⟩) (fun _ => rfl)
    rcases a with a | ⟨_, a, _⟩
    · exact .inl a
    · exact absurd a l0
theorem ThI.begin {most : Int} {A bl : List Int} {own : DOp} (m1 : 1 ≤ most) (m2 : most ≤ 4096) {v : Int} : ThI most A bl own (DOp.begin 3 2 0 most v) := by
  rw [begin_eq m1 m2]
  exact ⟨.st2 rfl rfl, fun _ => ⟨rfl, rfl⟩, fun _ h => by simp at h, ⟨.inl rfl, rfl⟩, fun _ => rfl⟩
theorem ThI.zero {most : Int} {A bl : List Int} {own : DOp} : ThI most A bl own DOp.zero :=
  ⟨.idle rfl, fun h => absurd rfl h, fun h => absurd h (by decide), ⟨.inl rfl, rfl⟩, fun h => absurd rfl h⟩
theorem DvI.other {most sz N off : Int} {A J J' : AS} {f : Int → Int} {bl : List Int} {own : DOp} (D : DvI most sz N off A J f bl own) (nn : N + 1 ≤ 1000000000) (h : ∀ x, 0 ≤ x → x < (A.cs.length : Int) → gt J'.cs (f x) = gt J.cs (f x)) (hl : J'.cs.length = J.cs.length) : DvI most sz (N + 1) off A J' f bl own := by
  obtain ⟨E, g, hs, os, mo, K, ko⟩ := D
  have a3 := E.a3
  exact ⟨⟨E.b0, E.b1, E.b2, E.a3, by rw [hl]; exact E.jl, fun x a b => by rw [hl]; exact E.rng x a b, E.inj, fun x a b n => by rw [h x a b]; exact E.cell x a b n, by rw [h 2 (by decide) (by omega)]; exact E.buf⟩, g.up nn, hs, os, mo, K, ko⟩
end Go.Mx

namespace Go.Mx

inductive SM where
  | idle | pend | on | cnt | ask | look (k : Int) (b : Bool) (t : Int) | park | back (h : Bool) | less (h : Bool) | steal | halt
  deriving DecidableEq
inductive WM where
  | idle | pend | push | pop | wk | wc (k : Int) | wu (k : Int) | fs | fc (k : Int) | fu (k : Int)
  deriving DecidableEq
def SM.ended (h : Bool) : SM := if h = true then .halt else .pend
def updN {α : Type} (f : Nat → α) (i : Nat) (x : α) : Nat → α := fun j => if j = i then x else f j
theorem updN_at {α : Type} (f : Nat → α) (i : Nat) (x : α) : updN f i x i = x := if_pos rfl
theorem updN_ne {α : Type} {f : Nat → α} {i j : Nat} {x : α} (h : j ≠ i) : updN f i x j = f j := if_neg h
def howOf (h : Bool) : Int := if h = true then 17 else 16
def R9.is (r : R9) : SM → Prop
  | .on => r.at_ = 1 ∧ r.k = 0
  | .cnt => r.at_ = 2 ∧ r.k = 0
  | .ask => r.at_ = 3 ∧ r.k = 0
  | .look k b t => r.k = k ∧ 1 ≤ k ∧ (b = false ∧ r.at_ = 4 ∨ b = true ∧ r.at_ = 5 ∧ r.t = t)
  | .park => r.at_ = 6
  | .back h => r.at_ = 7 ∧ r.how = howOf h
  | .less h => r.at_ = 8 ∧ r.how = howOf h
  | _ => False
def ResI (P : Int) (ds : List (Den KP2)) (i : Nat) (o : POp) (m : SM) : Prop := ∃ r, RunP ds o r ∧ r.base = 0 ∧ r.workers = P ∧ r.self = (i : Int) ∧ r.is m
def SlI (P : Int) (ds : List (Den KP2)) (off : Int) (f : Int → Int) (i : Nat) (a : GAct) (th : DOp) : SM → Prop
  | .idle => a.busy = 0 ∧ a.steals = false ∧ a.halted = false ∧ th.pc = 0
  | .pend => a.busy = 0 ∧ a.steals = true ∧ a.halted = false ∧ th.pc = 0
  | .halt => a.busy = 0 ∧ a.steals = false ∧ a.halted = true ∧ th.pc = 0
  | .steal => a.busy = 1 ∧ a.steals = true ∧ a.halted = false ∧ th.pc ≠ 0 ∧ th.kind = 3 ∧ a.dq = mapO off f th
  | m => a.busy = 2 ∧ a.steals = false ∧ a.halted = false ∧ th.pc = 0 ∧ ResI P ds i a.lot m
def WakI (P : Int) (o : POp) (at_ k : Int) : Prop := ∃ r, RunP [] o r ∧ r.base = 0 ∧ r.workers = P ∧ r.self = 0 ∧ r.at_ = at_ ∧ r.k = k ∧ 0 ≤ k ∧ k < P
def W0I (P : Int) (off : Int) (f : Int → Int) (a : GAct) (own : DOp) : WM → Prop
  | .idle => a.busy = 0 ∧ a.wakes = false ∧ own.pc = 0
  | .pend => a.busy = 0 ∧ a.wakes = true ∧ own.pc = 0
  | .push => a.busy = 1 ∧ a.wakes = false ∧ own.pc ≠ 0 ∧ own.kind = 1 ∧ a.dq = mapO off f own
  | .pop => a.busy = 1 ∧ a.wakes = false ∧ own.pc ≠ 0 ∧ own.kind = 2 ∧ a.dq = mapO off f own
  | .wk => a.busy = 2 ∧ a.wakes = false ∧ own.pc = 0 ∧ WakI P a.lot 9 0
  | .wc k => a.busy = 2 ∧ a.wakes = false ∧ own.pc = 0 ∧ 1 ≤ k ∧ WakI P a.lot 10 k
  | .wu k => a.busy = 2 ∧ a.wakes = false ∧ own.pc = 0 ∧ 1 ≤ k ∧ WakI P a.lot 11 k
  | .fs => a.busy = 2 ∧ a.wakes = false ∧ own.pc = 0 ∧ WakI P a.lot 13 0
  | .fc k => a.busy = 2 ∧ a.wakes = false ∧ own.pc = 0 ∧ 1 ≤ k ∧ WakI P a.lot 14 k
  | .fu k => a.busy = 2 ∧ a.wakes = false ∧ own.pc = 0 ∧ 1 ≤ k ∧ WakI P a.lot 15 k
structure PkS where
  g : PG
  A : AS
  own : DOp
  f : Int → Int
  bl : List Int
  th : Nat → DOp
  wm : WM
  sm : Nat → SM
def midP (first : Int) (P : Nat) : Int := 2 + (P : Int) + (4 + first)
def othP (first : Int) (P : Nat) (j : Int) : Int := midP first P + 5 * (j - 1)
def topA (A : List Int) (j : Int) : Int := if j = 0 then gt A 0 else 0
def botA (A : List Int) (j : Int) : Int := if j = 0 then gt A 1 else 0
structure MemI (first most : Int) (P : Nat) (N : Int) (A J : AS) (f : Int → Int) (bl : List Int) (own : DOp) : Prop where
  p1 : 1 ≤ P
  p8 : P ≤ 8
  cap : CapE first most
  dv : DvI most (cellsOf first most) N (2 + (P : Int)) A J f bl own
  room : J.sz - (J.cs.length : Int) ≥ A.sz - (A.cs.length : Int)
  jz : J.sz ≤ 1048576
  wt : J.wt = true
  ff : ∀ x, 0 ≤ x → x < (A.cs.length : Int) → 2 + (P : Int) ≤ f x ∧ (f x < midP first P ∨ midP first P + 5 * ((P : Int) - 1) ≤ f x)
  jl : midP first P + 5 * ((P : Int) - 1) ≤ (J.cs.length : Int)
  zs : ∀ j : Int, 1 ≤ j → j < (P : Int) → gt J.cs (othP first P j) = 0 ∧ gt J.cs (othP first P j + 1) = 0
structure PkI (first most : Int) (P : Nat) (s : PkS) (N : Int) : Prop where
  mem : MemI first most P N s.A s.g.m s.f s.bl s.own
  len : s.g.acts.length = P
  w0 : W0I (P : Int) (2 + (P : Int)) s.f (s.g.act 0) s.own s.wm
  sl : ∀ i, 1 ≤ i → i < P → SlI (P : Int) (dsP first most P) (2 + (P : Int)) s.f i (s.g.act i) (s.th i) (s.sm i)
  th : ∀ i, 1 ≤ i → i < P → ThI most s.A.cs s.bl s.own (s.th i)
  lt : ∀ i, 1 ≤ i → i < P → ∀ k t, s.sm i = .look k true t → 0 ≤ t ∧ t ≤ topA s.A.cs (((i : Int) + k) % (P : Int))
theorem layP_at {first most : Int} (f1 : 1 ≤ first) (P : Nat) : ∀ i j : Nat, j < i → (layP first most P i).2[j]? = some ((((layP first most P j).1.length : Nat) : Int), (lows most j, ()))
  | 0, j, h => absurd h (Nat.not_lt_zero j)
  | i + 1, j, h => by
    show ((layP first most P i).2 ++ [_])[j]? = _
    have hl := (layP_len (most := most) f1 P i).2
    by_cases e : j < i
    · rw [List.getElem?_append_left (by omega)]; exact layP_at f1 P i j e
    · obtain rfl : j = i := by omega
      rw [List.getElem?_append_right (by omega), hl, Nat.sub_self]; rfl
theorem dsP_at {first most : Int} (f1 : 1 ≤ first) {P j : Nat} (h : j < P) : dqAt (dsP first most P) (j : Int) = (if j = 0 then 2 + (P : Int) else othP first P (j : Int), ((if j = 0 then most else 1), ())) := by
  unfold dqAt dsP
  rw [Int.toNat_natCast, layP_at f1 P P j h, Option.getD_some, (layP_len (most := most) f1 P j).1]
  unfold lows othP midP
  by_cases e : j = 0
  · subst e; simp
  · simp only [if_neg e]; rw [show 2 + (P : Int) + (4 + first + 5 * ((j : Int) - 1)) = 2 + (P : Int) + (4 + first) + 5 * ((j : Int) - 1) by omega]
theorem MemI.tops {first most : Int} {P : Nat} {N : Int} {A J : AS} {f : Int → Int} {bl : List Int} {own : DOp} (I : MemI first most P N A J f bl own) {j : Nat} (h : j < P) : ((2 + (P : Int) ≤ (dqAt (dsP first most P) (j : Int)).1 ∧ (dqAt (dsP first most P) (j : Int)).1 + 1 < (J.cs.length : Int)) ∧ gt J.cs (dqAt (dsP first most P) (j : Int)).1 = topA A.cs (j : Int) ∧ gt J.cs ((dqAt (dsP first most P) (j : Int)).1 + 1) = botA A.cs (j : Int)) := by
  have f1 := I.cap.1
  have hl := I.jl
  have E := I.dv.emb
  have a3 := E.a3
  rw [dsP_at f1 h]
  unfold topA botA
  by_cases e : j = 0
  · subst e
    have r0 := E.rng 0 (by omega) (by omega)
    have r1 := E.rng 1 (by omega) (by omega)
    rw [if_pos rfl, if_pos (show ((0 : Nat) : Int) = 0 from rfl), if_pos (show ((0 : Nat) : Int) = 0 from rfl)]
    have c0 := E.cell 0 (by omega) (by omega) (by decide)
    have c1 := E.cell 1 (by omega) (by omega) (by decide)
    rw [E.b0] at c0 r0
    rw [E.b1] at c1 r1
    exact ⟨⟨Int.le_refl _, by show 2 + (P : Int) + 1 < _; omega⟩, c0, c1⟩
  · have e' : ¬ (j : Int) = 0 := by omega
    rw [if_neg e, if_neg e]
    obtain ⟨z0, z1⟩ := I.zs (j : Int) (by omega) (by omega)
    refine ⟨⟨?_, ?_⟩, z0.trans (if_neg e').symm, z1.trans (if_neg e').symm⟩
    · show 2 + (P : Int) ≤ othP first P j; unfold othP midP; omega
    · show othP first P j + 1 < _; unfold othP; omega
end Go.Mx

namespace Go.Mx

section
variable {first most : Int} {P : Nat} {N : Int} {A J A' J' : AS} {f f' : Int → Int} {bl bl' : List Int} {own own' : DOp}
theorem MemI.lot (M : MemI first most P N A J f bl own) (nn : N + 1 ≤ 1000000000) (hc : ∀ y, 2 + (P : Int) ≤ y → gt J'.cs y = gt J.cs y) (hl : J'.cs.length = J.cs.length) (hs : J'.sz = J.sz) (hw : J'.wt = J.wt) : MemI first most P (N + 1) A J' f bl own := by
  obtain ⟨p1, p8, cap, dv, room, jz, wt, ff, jl, zs⟩ := M
  have f1 := cap.1
  refine ⟨p1, p8, cap, dv.other nn (fun x a b => hc _ (ff x a b).1) hl, by rw [hs, hl]; exact room, by rw [hs]; exact jz, by rw [hw]; exact wt, ff, by rw [hl]; exact jl, fun j a b => ?_⟩
  obtain ⟨z0, z1⟩ := zs j a b
  rw [hc _ (by unfold othP midP; omega), hc _ (by unfold othP midP; omega)]
  exact ⟨z0, z1⟩
theorem MemI.dq (M : MemI first most P N A J f bl own) {o : DOp} {v v' : Int} (S : SimR (2 + (P : Int)) f A J o v A' f' v' J') (ha : arenaI A o.req = (some v, A')) (dv' : DvI most (cellsOf first most) (N + 1) (2 + (P : Int)) A' J' f' bl' own') : MemI first most P (N + 1) A' J' f' bl' own' := by
  obtain ⟨p1, p8, cap, dv, room, jz, wt, ff, jl, zs⟩ := M
  have f1 := cap.1
  have sl := S.len
  have al := S.alen
  have az : A'.sz = A.sz := by
    have e := arena_sz A o.req
    rw [ha] at e
    exact e
  have jw : J'.wt = J.wt := by
    have e := (arena_who J (mapO (2 + (P : Int)) f o).req).2
    rw [S.acc] at e
    exact e
  refine ⟨p1, p8, cap, dv', by rw [S.sz, az]; omega, by rw [S.sz]; exact jz, by rw [jw]; exact wt, fun x a b => ?_, by omega, fun j a b => ?_⟩
  · by_cases h : x < (A.cs.length : Int)
    · rw [S.old x a h]; exact ff x a h
    · have := S.new x (by omega) b
      unfold midP at jl ⊢
      omega
  · obtain ⟨z0, z1⟩ := zs j a b
    have out : ∀ y, midP first P ≤ y → y < midP first P + 5 * ((P : Int) - 1) → gt J'.cs y = gt J.cs y := fun y c d => S.rest y (by unfold midP at c; omega) (by omega) fun x e g q => by
      have := (ff x e g).2
      omega
    rw [out _ (by unfold othP; omega) (by unfold othP; omega), out _ (by unfold othP; omega) (by unfold othP; omega)]
    exact ⟨z0, z1⟩
theorem MemI.lotc (M : MemI first most P N A J f bl own) {o : DOp} {v v' : Int} (S : SimR (2 + (P : Int)) f A J o v A' f' v' J') {y : Int} (y0 : 0 ≤ y) (y1 : y < 2 + (P : Int)) : gt J'.cs y = gt J.cs y := by
  have h := M.jl
  have f1 := M.cap.1
  have := M.p1
  exact S.rest y y0 (by unfold midP at h; omega) fun x e g q => by
    have := (M.ff x e g).1
    omega
theorem MemI.dlog (M : MemI first most P N A J f bl own) {o : DOp} {v v' : Int} (S : SimR (2 + (P : Int)) f A J o v A' f' v' J') : ∃ e, J'.lg = J.lg ++ [e] ∧ DqE (2 + (P : Int)) J.who e :=
  arena_log S.acc M.wt (S.adr.imp id fun ⟨x, a, b, e⟩ => by rw [e]; exact (M.ff x a b).1)
end
theorem SlI.f' {P : Int} {ds : List (Den KP2)} {off : Int} {f f' : Int → Int} {i : Nat} {a : GAct} {th : DOp} {m : SM} (h : SlI P ds off f i a th m) (e : mapO off f' th = mapO off f th) : SlI P ds off f' i a th m := by
  cases m <;> first | exact h | (unfold SlI at h ⊢; rw [e]; exact h)
section
variable {first most : Int} {P : Nat} {s : PkS} {N N' : Int} (I : PkI first most P s N)
include I
theorem PkI.go0 {A' J' : AS} {f' : Int → Int} {bl' : List Int} {own' : DOp} {wm' : WM} {a : GAct} {td : List DTd} {tk : List (Den KP2)} {wk : Int} (M : MemI first most P N' A' J' f' bl' own') (ths : ∀ th, ThI most s.A.cs s.bl s.own th → ThI most A'.cs bl' own' th ∧ mapO (2 + (P : Int)) f' th = mapO (2 + (P : Int)) s.f th) (top : gt s.A.cs 0 ≤ gt A'.cs 0) (w : W0I (P : Int) (2 + (P : Int)) f' a own' wm') :
    PkI first most P ⟨⟨J', td, s.g.acts.set 0 a, tk, wk⟩, A', own', f', bl', s.th, wm', s.sm⟩ N' := by
  have p1 := I.mem.p1
  have hl := I.len
  have act : ∀ j, (⟨J', td, s.g.acts.set 0 a, tk, wk⟩ : PG).act j = if j = 0 then a else s.g.act j := fun j => gact_set (g := ⟨J', td, s.g.acts.set 0 a, tk, wk⟩) rfl (by omega)
  refine ⟨M, by show (s.g.acts.set 0 a).length = P; rw [List.length_set]; exact hl, ?_, fun i a b => ?_, fun i a b => (ths _ (I.th i a b)).1, fun i a b k t e => ?_⟩
  · show W0I _ _ f' (PG.act ⟨J', td, s.g.acts.set 0 a, tk, wk⟩ 0) own' wm'
    rw [act, if_pos rfl]; exact w
  · show SlI _ _ _ f' i (PG.act ⟨J', td, s.g.acts.set 0 _, tk, wk⟩ i) (s.th i) (s.sm i)
    rw [act, if_neg (by omega)]
    exact (I.sl i a b).f' (ths _ (I.th i a b)).2
  · obtain ⟨t0, t1⟩ := I.lt i a b k t e
    refine ⟨t0, Int.le_trans t1 ?_⟩
    unfold topA
    split
    · exact top
    · exact Int.le_refl 0
theorem PkI.goS {A' J' : AS} {i : Nat} (i1 : 1 ≤ i) (i2 : i < P) {m' : SM} {th' : DOp} {a : GAct} {tk : List (Den KP2)} (M : MemI first most P N' A' J' s.f s.bl s.own) (ths : ∀ th, ThI most s.A.cs s.bl s.own th → ThI most A'.cs s.bl s.own th) (top : gt s.A.cs 0 ≤ gt A'.cs 0)
    (h : SlI (P : Int) (dsP first most P) (2 + (P : Int)) s.f i a th' m') (t : ThI most A'.cs s.bl s.own th') (l : ∀ k t, m' = .look k true t → 0 ≤ t ∧ t ≤ topA A'.cs (((i : Int) + k) % (P : Int))) :
    PkI first most P ⟨⟨J', s.g.todos, s.g.acts.set i a, tk, s.g.woken⟩, A', s.own, s.f, s.bl, updN s.th i th', s.wm, updN s.sm i m'⟩ N' := by
  have p1 := I.mem.p1
  have hl := I.len
  have act : ∀ j, (⟨J', s.g.todos, s.g.acts.set i a, tk, s.g.woken⟩ : PG).act j = if j = i then a else s.g.act j := fun j => gact_set (g := ⟨J', s.g.todos, s.g.acts.set i a, tk, s.g.woken⟩) rfl (by omega)
  refine ⟨M, by show (s.g.acts.set i a).length = P; rw [List.length_set]; exact hl, ?_, fun j a1 b1 => ?_, fun j a1 b1 => ?_, fun j a1 b1 k t e => ?_⟩
  · show W0I _ _ s.f (PG.act ⟨J', s.g.todos, s.g.acts.set i a, tk, s.g.woken⟩ 0) s.own s.wm
    rw [act, if_neg (by omega)]; exact I.w0
  · show SlI _ _ _ s.f j (PG.act ⟨J', s.g.todos, s.g.acts.set i a, tk, s.g.woken⟩ j) (updN s.th i th' j) (updN s.sm i m' j)
    rw [act]
    by_cases e : j = i
    · subst e; rw [if_pos rfl, updN_at, updN_at]; exact h
    · rw [if_neg e, updN_ne e, updN_ne e]; exact I.sl j a1 b1
  · show ThI most A'.cs s.bl s.own (updN s.th i th' j)
    by_cases e : j = i
    · subst e; rw [updN_at]; exact t
    · rw [updN_ne e]; exact ths _ (I.th j a1 b1)
  · have e : updN s.sm i m' j = .look k true t := e
    show _ ∧ t ≤ topA A'.cs _
    by_cases q : j = i
    · subst q; rw [updN_at] at e; exact l k t e
    · rw [updN_ne q] at e
      obtain ⟨t0, t1⟩ := I.lt j a1 b1 k t e
      refine ⟨t0, Int.le_trans t1 ?_⟩
      unfold topA
      split
      · exact top
      · exact Int.le_refl 0
theorem PkI.whoS (w : Nat) : PkI first most P { s with g := s.g.whoS w } N :=
  ⟨⟨I.mem.p1, I.mem.p8, I.mem.cap, ⟨I.mem.dv.emb, I.mem.dv.dg, I.mem.dv.sz, I.mem.dv.os, I.mem.dv.mo, I.mem.dv.ki, I.mem.dv.ko⟩, I.mem.room, I.mem.jz, I.mem.wt, I.mem.ff, I.mem.jl, I.mem.zs⟩, I.len, I.w0, I.sl, I.th, I.lt⟩
end
structure KeepM (s s' : PkS) : Prop where
  A : s'.A = s.A
  f : s'.f = s.f
  bl : s'.bl = s.bl
  cs : s'.g.m.cs = s.g.m.cs
  lg : s'.g.m.lg = s.g.m.lg
  taken : s'.g.taken = s.g.taken
  woken : s'.g.woken = s.g.woken
def WM.on : WM → Prop
  | .idle => False
  | .pend => False
  | _ => True
def SM.act : SM → Prop
  | .idle => False
  | .pend => False
  | .halt => False
  | _ => True
def Act (s : PkS) (who : Nat) : Prop := (who = 0 → s.wm.on) ∧ (who ≠ 0 → (s.sm who).act)
inductive PrkR (most : Int) (s : PkS) (who : Nat) (s' : PkS) : Prop
  | on (o : s'.own = s.own) (t : s'.th = s.th) (w : s'.wm = s.wm) (sm : s'.sm = s.sm) (td : s'.g.todos = s.g.todos) (ac : Act s who)
  | push (w0 : who = 0) (m : s.wm = .idle) (t : DTd) (ts : List DTd) (td : s.g.todos = t :: ts) (td' : s'.g.todos = ts) (k : t.1 = 0) (w : s'.wm = .push) (o : s'.own = DOp.push 0 most t.2.1) (op : s.own.pc = 0) (th : s'.th = s.th) (sm : s'.sm = s.sm) (ha : hand s.A.cs s.own = []) (ha' : hand s.A.cs s'.own = [])
  | pop (w0 : who = 0) (m : s.wm = .idle) (t : DTd) (ts : List DTd) (td : s.g.todos = t :: ts) (td' : s'.g.todos = ts) (k : ¬ t.1 = 0) (k1 : t.1 = 1) (w : s'.wm = .pop) (o : s'.own = DOp.pop 0 most) (op : s.own.pc = 0) (th : s'.th = s.th) (sm : s'.sm = s.sm) (ha : hand s.A.cs s.own = []) (ha' : hand s.A.cs s'.own = [])
  | fin (w0 : who = 0) (m : s.wm = .idle) (t : DTd) (ts : List DTd) (td : s.g.todos = t :: ts) (td' : s'.g.todos = ts) (k : ¬ t.1 = 0) (k1 : ¬ t.1 = 1) (w : s'.wm = .fs) (o : s'.own = s.own) (th : s'.th = s.th) (sm : s'.sm = s.sm)
  | wake (w0 : who = 0) (m : s.wm = .pend) (w : s'.wm = .wk) (o : s'.own = s.own) (th : s'.th = s.th) (sm : s'.sm = s.sm) (td : s'.g.todos = s.g.todos)
  | rest (w0 : who ≠ 0) (m : s.sm who = .idle) (sm : s'.sm = updN s.sm who .on) (th : s'.th = s.th) (o : s'.own = s.own) (w : s'.wm = s.wm) (td : s'.g.todos = s.g.todos)
  | steal (w0 : who ≠ 0) (m : s.sm who = .pend) (sm : s'.sm = updN s.sm who .steal) (th : s'.th = updN s.th who (DOp.steal 0 most)) (o : s'.own = s.own) (w : s'.wm = s.wm) (td : s'.g.todos = s.g.todos)
theorem updN_self {α : Type} (f : Nat → α) (i : Nat) : updN f i (f i) = f := by
  funext j
  unfold updN
  split
  · rename_i e; rw [e]
  · rfl
theorem W0I.busy {P off : Int} {f : Int → Int} {a : GAct} {own : DOp} {m : WM} (h : W0I P off f a own m) : (a.busy = 0 ↔ ¬ m.on) ∧ (m = .pend → a.wakes = true) ∧ (m = .idle → a.wakes = false) ∧ (¬ m.on → m = .idle ∨ m = .pend) := by
  cases m <;> simp only [W0I] at h <;> obtain ⟨h1, h2, _⟩ := h <;> simp [WM.on, h1, h2]
theorem SlI.busy {P : Int} {ds : List (Den KP2)} {off : Int} {f : Int → Int} {i : Nat} {a : GAct} {th : DOp} {m : SM} (h : SlI P ds off f i a th m) : (a.halted = true ↔ m = .halt) ∧ (m.act → a.busy ≠ 0) ∧ (¬ m.act → a.busy = 0) ∧ (a.steals = true ↔ m = .pend ∨ m = .steal) ∧ (¬ m.act → th.pc = 0) := by
  cases m <;> simp only [SlI] at h <;> obtain ⟨h1, h2, h3, h4⟩ := h <;> simp [SM.act, h1, h2, h3, h4]
theorem PkI.pre {first most : Int} {P : Nat} {s : PkS} {N : Int} (I : PkI first most P s N) {who : Nat} (hw : who < P) :
    ((who = 0 ∧ s.wm = .idle ∧ s.g.todos = []) ∨ (who ≠ 0 ∧ s.sm who = .halt)) ∧ s.g.pick (P : Int) (dsP first most P) who = s.g.whoS who ∨
    ∃ s', PkI first most P s' N ∧ KeepM s s' ∧ PrkR most s who s' ∧ s'.g.m.who = (who : Int) ∧ Act s' who ∧ s.g.pick (P : Int) (dsP first most P) who = if who = 0 then s'.g.workGo else s'.g.sleepGo who := by
  have p1 := I.mem.p1
  have p8 := I.mem.p8
  have m1 : 1 ≤ most := by have := I.mem.cap; unfold CapE at this; omega
  have m2 : most ≤ 4096 := I.mem.cap.2.2
  have J := I.whoS who
  have ok := dsP_ok I.mem.cap p1 p8
  have d0 : dqAt (dsP first most P) 0 = (2 + (P : Int), (most, ())) := dsP_0 (first := first) (most := most) p1
  by_cases e : who = 0
  · subst e
    obtain ⟨b1, b2, b3, b4⟩ := I.w0.busy
    unfold PG.pick
    rw [if_pos rfl]
    unfold PG.work
    show _ ∧ (if (s.g.act 0).busy = 0 then _ else _) = _ ∨ ∃ s', _ ∧ _ ∧ _ ∧ _ ∧ _ ∧ (if (s.g.act 0).busy = 0 then _ else _) = _
    by_cases hb : (s.g.act 0).busy = 0
    · rw [if_pos hb]
      rcases b4 (b1.1 hb) with m | m
      · have w0 := I.w0
        rw [m] at w0
        obtain ⟨_, hwk, hpc⟩ := w0
        have nb : (s.g.whoS 0).begin (P : Int) (dqAt (dsP first most P) 0) = match s.g.todos with | [] => none | t :: ts => some { s.g.whoS 0 with todos := ts, acts := s.g.acts.set 0 ((s.g.act 0).todo (P : Int) (dqAt (dsP first most P) 0) t) } := by
          unfold PG.begin
          rw [if_neg (show ¬ ((s.g.whoS 0).act 0).wakes = true by show ¬ (s.g.act 0).wakes = true; rw [hwk]; decide)]; rfl
        cases ht : s.g.todos with
        | nil =>
          rw [ht] at nb
          rw [nb]
          exact .inl ⟨.inl ⟨rfl, m, rfl⟩, rfl⟩
        | cons t ts =>
          rw [ht] at nb
          have nb : (s.g.whoS 0).begin (P : Int) (dqAt (dsP first most P) 0) = some { s.g.whoS 0 with todos := ts, acts := s.g.acts.set 0 ((s.g.act 0).todo (P : Int) (dqAt (dsP first most P) 0) t) } := nb
          rw [nb, d0]
          refine .inr ?_
          by_cases k : t.1 = 0
          · obtain ⟨D, T, h1, h2⟩ := J.mem.dv.beg hpc (k := 1) (v := t.2.1) (.inl rfl)
            have ea : (s.g.act 0).todo (P : Int) (2 + (P : Int), (most, ())) t = { s.g.act 0 with busy := 1, dq := DOp.push (2 + (P : Int)) most t.2.1 } := by unfold GAct.todo; rw [if_pos k]
            rw [ea]
            refine ⟨_, J.go0 (own' := DOp.begin 1 1 0 most t.2.1) (wm' := .push) (a := { s.g.act 0 with busy := 1, dq := DOp.push (2 + (P : Int)) most t.2.1 }) (td := ts) (tk := s.g.taken) (wk := s.g.woken) { J.mem with dv := D } (fun th h => ⟨T th h, rfl⟩) (Int.le_refl _) ⟨rfl, hwk, ?_, ?_, ?_⟩, ⟨rfl, rfl, rfl, rfl, rfl, rfl, rfl⟩, .push rfl m t ts ht rfl k rfl rfl hpc rfl rfl h1 h2, rfl, ⟨fun _ => trivial, fun q => absurd rfl q⟩, rfl⟩
            · rw [begin_eq m1 m2]; exact (by decide : (1 : Int) ≠ 0)
            · rw [begin_eq m1 m2]
            · show DOp.begin 1 1 (2 + (P : Int)) most t.2.1 = _
              rw [mapO_begin m1 m2]
          by_cases k1 : t.1 = 1
          · obtain ⟨D, T, h1, h2⟩ := J.mem.dv.beg hpc (k := 2) (v := 0) (.inr rfl)
            have ea : (s.g.act 0).todo (P : Int) (2 + (P : Int), (most, ())) t = { s.g.act 0 with busy := 1, dq := DOp.pop (2 + (P : Int)) most } := by unfold GAct.todo; rw [if_neg k, if_pos k1]
            rw [ea]
            refine ⟨_, J.go0 (own' := DOp.begin 2 1 0 most 0) (wm' := .pop) (a := { s.g.act 0 with busy := 1, dq := DOp.pop (2 + (P : Int)) most }) (td := ts) (tk := s.g.taken) (wk := s.g.woken) { J.mem with dv := D } (fun th h => ⟨T th h, rfl⟩) (Int.le_refl _) ⟨rfl, hwk, ?_, ?_, ?_⟩, ⟨rfl, rfl, rfl, rfl, rfl, rfl, rfl⟩, .pop rfl m t ts ht rfl k k1 rfl rfl hpc rfl rfl h1 h2, rfl, ⟨fun _ => trivial, fun q => absurd rfl q⟩, rfl⟩
            · rw [begin_eq m1 m2]; exact (by decide : (1 : Int) ≠ 0)
            · rw [begin_eq m1 m2]
            · show DOp.begin 2 1 (2 + (P : Int)) most 0 = _
              rw [mapO_begin m1 m2]
          · have ea : (s.g.act 0).todo (P : Int) (2 + (P : Int), (most, ())) t = { s.g.act 0 with busy := 2, lot := finD 0 (P : Int) 0 } := by unfold GAct.todo; rw [if_neg k, if_neg k1]
            rw [ea]
            refine ⟨_, J.go0 (own' := s.own) (wm' := .fs) (a := { s.g.act 0 with busy := 2, lot := finD 0 (P : Int) 0 }) (td := ts) (tk := s.g.taken) (wk := s.g.woken) J.mem (fun th h => ⟨h, rfl⟩) (Int.le_refl _) ⟨rfl, hwk, hpc, ?_⟩, ⟨rfl, rfl, rfl, rfl, rfl, rfl, rfl⟩, .fin rfl m t ts ht rfl k k1 rfl rfl rfl rfl, rfl, ⟨fun _ => trivial, fun q => absurd rfl q⟩, rfl⟩
            rcases RelP.fin ok.right i640 with ⟨z, _⟩ | R
            · cases z
            · exact ⟨_, R, rfl, rfl, rfl, rfl, rfl, Int.le_refl _, by omega⟩
      · have w0 := I.w0
        rw [m] at w0
        obtain ⟨_, hwk, hpc⟩ := w0
        have nb : (s.g.whoS 0).begin (P : Int) (dqAt (dsP first most P) 0) = some ((s.g.whoS 0).put 0 { s.g.act 0 with wakes := false, busy := 2, lot := wakeD 0 (P : Int) 0 }) := by
          unfold PG.begin
          rw [if_pos (show ((s.g.whoS 0).act 0).wakes = true from hwk)]; rfl
        rw [nb]
        refine .inr ⟨_, J.go0 (own' := s.own) (wm' := .wk) (a := { s.g.act 0 with wakes := false, busy := 2, lot := wakeD 0 (P : Int) 0 }) (td := s.g.todos) (tk := s.g.taken) (wk := s.g.woken) J.mem (fun th h => ⟨h, rfl⟩) (Int.le_refl _) ⟨rfl, rfl, hpc, ?_⟩, ⟨rfl, rfl, rfl, rfl, rfl, rfl, rfl⟩, .wake rfl m rfl rfl rfl rfl rfl, rfl, ⟨fun _ => trivial, fun q => absurd rfl q⟩, rfl⟩
        rcases RelP.wake ok.right i640 with ⟨z, _⟩ | R
        · cases z
        · exact ⟨_, R, rfl, rfl, rfl, rfl, rfl, Int.le_refl _, by omega⟩
    · rw [if_neg hb]
      have hon : s.wm.on := Classical.byContradiction fun q => hb (b1.2 q)
      exact .inr ⟨_, J, ⟨rfl, rfl, rfl, rfl, rfl, rfl, rfl⟩, .on rfl rfl rfl rfl rfl ⟨fun _ => hon, fun q => absurd rfl q⟩, rfl, ⟨fun _ => hon, fun q => absurd rfl q⟩, rfl⟩
  · have i1 : 1 ≤ who := by omega
    obtain ⟨b1, b2, b3, b4, b5⟩ := (I.sl who i1 hw).busy
    unfold PG.pick
    rw [if_neg e]
    unfold PG.sleep
    show _ ∧ (if (s.g.act who).halted = true then _ else if (s.g.act who).busy = 0 then _ else _) = _ ∨ ∃ s', _ ∧ _ ∧ _ ∧ _ ∧ _ ∧ (if (s.g.act who).halted = true then _ else if (s.g.act who).busy = 0 then _ else _) = _
    by_cases hh : (s.g.act who).halted = true
    · rw [if_pos hh]
      exact .inl ⟨.inr ⟨e, b1.1 hh⟩, rfl⟩
    rw [if_neg hh]
    refine .inr ?_
    have hl := I.len
    by_cases hb : (s.g.act who).busy = 0
    · rw [if_pos hb]
      have nact : ¬ (s.sm who).act := fun q => b2 q hb
      have hpc := b5 nact
      have nh : ¬ s.sm who = .halt := fun q => hh (b1.2 q)
      have R : RunP (dsP first most P) (restD 0 (P : Int) (who : Int) (dsP first most P)) ⟨1, (who : Int), 0, 0, 0, (P : Int), Sl.none, 0, 0, 0⟩ := by
        rcases RelP.rest (s := Sl.none) (ok.restOk (who := (who : Int)) (by omega) (by omega)) i640 ok.bs with ⟨z, _⟩ | R
        · cases z
        · exact R
      have hm : s.sm who = .idle ∨ s.sm who = .pend := by
        revert nact nh
        cases s.sm who <;> simp [SM.act]
      rcases hm with m | m
      · have hs : ¬ (s.g.act who).steals = true := fun q => by
          rcases b4.1 q with z | z <;> rw [m] at z <;> cases z
        have ea : (s.g.act who).rest (P : Int) (dsP first most P) (who : Int) = { s.g.act who with busy := 2, lot := restD 0 (P : Int) (who : Int) (dsP first most P) } := by unfold GAct.rest; rw [if_neg hs]
        have sl := I.sl who i1 hw
        rw [m] at sl
        refine ⟨_, J.goS i1 hw (m' := .on) (th' := s.th who) (a := { s.g.act who with busy := 2, lot := restD 0 (P : Int) (who : Int) (dsP first most P) }) (tk := s.g.taken) J.mem (fun _ h => h) (Int.le_refl _) ⟨rfl, sl.2.1, sl.2.2.1, hpc, _, R, rfl, rfl, rfl, rfl, rfl⟩ (I.th who i1 hw) (fun k t q => (by cases q)), ⟨rfl, rfl, rfl, rfl, rfl, rfl, rfl⟩, .rest e m rfl (updN_self _ _) rfl rfl rfl, rfl, ⟨fun q => absurd q e, fun _ => ?_⟩, ?_⟩
        · show (updN s.sm who .on who).act
          rw [updN_at]; trivial
        · show (PG.put _ who (GAct.rest _ _ _ (s.g.act who))).sleepGo who = _
          rw [ea, if_neg e]; rfl
      · have hs : (s.g.act who).steals = true := b4.2 (.inl m)
        have ea : (s.g.act who).rest (P : Int) (dsP first most P) (who : Int) = { s.g.act who with busy := 1, lot := restD 0 (P : Int) (who : Int) (dsP first most P), dq := DOp.steal (2 + (P : Int)) most } := by unfold GAct.rest; rw [if_pos hs, d0]
        have sl := I.sl who i1 hw
        rw [m] at sl
        refine ⟨_, J.goS i1 hw (m' := .steal) (th' := DOp.begin 3 2 0 most 0) (a := { s.g.act who with busy := 1, lot := restD 0 (P : Int) (who : Int) (dsP first most P), dq := DOp.steal (2 + (P : Int)) most }) (tk := s.g.taken) J.mem (fun _ h => h) (Int.le_refl _) ⟨rfl, hs, sl.2.2.1, ?_, ?_, ?_⟩ (ThI.begin m1 m2) (fun k t q => (by cases q)), ⟨rfl, rfl, rfl, rfl, rfl, rfl, rfl⟩, .steal e m rfl rfl rfl rfl rfl, rfl, ⟨fun q => absurd q e, fun _ => ?_⟩, ?_⟩
        · rw [begin_eq m1 m2]; exact (by decide : (2 : Int) ≠ 0)
        · rw [begin_eq m1 m2]
        · show DOp.begin 3 2 (2 + (P : Int)) most 0 = _
          rw [mapO_begin m1 m2]
        · show (updN s.sm who .steal who).act
          rw [updN_at]; trivial
        · show (PG.put _ who (GAct.rest _ _ _ (s.g.act who))).sleepGo who = _
          rw [ea, if_neg e]; rfl
    · rw [if_neg hb]
      have hon : (s.sm who).act := Classical.byContradiction fun q => hb (b3 q)
      exact ⟨_, J, ⟨rfl, rfl, rfl, rfl, rfl, rfl, rfl⟩, .on rfl rfl rfl rfl rfl ⟨fun q => absurd q e, fun _ => hon⟩, rfl, ⟨fun q => absurd q e, fun _ => hon⟩, by rw [if_neg e]⟩
end Go.Mx

namespace Go.Mx

def LotC (P : Nat) (s s' : PkS) (c v : Int) : Prop := ∀ y, 0 ≤ y → y < 2 + (P : Int) → gt s'.g.m.cs y = if y = c then v else gt s.g.m.cs y
def LotS (P : Nat) (s s' : PkS) : Prop := ∀ y, 0 ≤ y → y < 2 + (P : Int) → gt s'.g.m.cs y = gt s.g.m.cs y
def LogE (s s' : PkS) (e : Acc) : Prop := s'.g.m.lg = s.g.m.lg ++ [e]
structure KeepD (s s' : PkS) : Prop where
  A : s'.A = s.A
  own : s'.own = s.own
  th : s'.th = s.th
  taken : s'.g.taken = s.g.taken
  todos : s'.g.todos = s.g.todos
structure KeepS (s s' : PkS) : Prop extends KeepD s s' where
  wm : s'.wm = s.wm
  woken : s'.g.woken = s.g.woken
structure Keep0 (s s' : PkS) : Prop extends KeepD s s' where
  sm : s'.sm = s.sm
abbrev SLc (s : PkS) : Int := gt s.g.m.cs 0
abbrev DNc (s : PkS) : Int := gt s.g.m.cs 1
abbrev FLc (s : PkS) (i : Int) : Int := gt s.g.m.cs (2 + i)
abbrev lgA (who : Nat) (k a x y : Int) (ok : Bool) : Acc := ((who : Int), (k, (a, (x, (y, (ok, ()))))))
inductive PgoR (first most : Int) (P : Nat) (N : Int) (s : PkS) (who : Nat) (s' : PkS) : Prop
  | on (w : who ≠ 0) (m : s.sm who = .on) (m' : s'.sm = updN s.sm who .cnt) (k : KeepS s s') (c : LotC P s s' (2 + who) 1) (l : LogE s s' (lgA who 1 (2 + who) 1 0 true))
  | cnt (w : who ≠ 0) (m : s.sm who = .cnt) (m' : s'.sm = updN s.sm who .ask) (k : KeepS s s') (c : LotC P s s' 0 (w64 (SLc s + 1))) (l : LogE s s' (lgA who 3 0 1 (w64 (SLc s + 1)) true))
  | ask (w : who ≠ 0) (m : s.sm who = .ask) (m' : s'.sm = updN s.sm who (if DNc s = 1 then .back true else .look 1 false 0)) (k : KeepS s s') (c : LotS P s s') (l : LogE s s' (lgA who 0 1 (DNc s) 0 true))
  | look1 (w : who ≠ 0) (j t : Int) (j1 : 1 ≤ j) (j2 : j < P) (m : s.sm who = .look j false t) (m' : s'.sm = updN s.sm who (.look j true (topA s.A.cs (((who : Int) + j) % (P : Int))))) (k : KeepS s s') (c : LotS P s s') (l : ∃ e, LogE s s' e ∧ DqE (2 + (P : Int)) who e)
  | look2 (w : who ≠ 0) (j t : Int) (j1 : 1 ≤ j) (j2 : j < P) (m : s.sm who = .look j true t) (tt : t ≤ topA s.A.cs (((who : Int) + j) % (P : Int))) (m' : s'.sm = updN s.sm who (if t < botA s.A.cs (((who : Int) + j) % (P : Int)) then .back false else if (P : Int) ≤ j + 1 then .park else .look (j + 1) false 0)) (k : KeepS s s') (c : LotS P s s') (l : ∃ e, LogE s s' e ∧ DqE (2 + (P : Int)) who e)
  | park (w : who ≠ 0) (m : s.sm who = .park) (m' : s'.sm = updN s.sm who (if FLc s who = 1 then .park else .pend)) (k : KeepS s s') (c : LotS P s s') (l : LogE s s' (lgA who 0 (2 + who) (FLc s who) 0 true))
  | back (w : who ≠ 0) (h : Bool) (m : s.sm who = .back h) (f : FLc s who = 1) (m' : s'.sm = updN s.sm who (.less h)) (k : KeepS s s') (c : LotC P s s' (2 + who) 0) (l : LogE s s' (lgA who 2 (2 + who) 1 0 true))
  | fail (w : who ≠ 0) (h : Bool) (m : s.sm who = .back h) (f : FLc s who ≠ 1) (m' : s'.sm = updN s.sm who (.ended h)) (k : KeepS s s') (c : LotS P s s') (l : LogE s s' (lgA who 2 (2 + who) 1 0 false))
  | less (w : who ≠ 0) (h : Bool) (m : s.sm who = .less h) (m' : s'.sm = updN s.sm who (.ended h)) (k : KeepS s s') (c : LotC P s s' 0 (w64 (SLc s + (-1)))) (l : LogE s s' (lgA who 3 0 (-1) (w64 (SLc s + (-1))) true))
  | steal (w : who ≠ 0) (m : s.sm who = .steal) (x : DOp) (r : ThR most (cellsOf first most) N s.A s.own (s.th who) s'.A x) (k3 : (s.th who).kind = 3 ∧ ∃ v, x = (s.th who).after v ∧ ((s.th who).pc = 2 → v = gt s.A.cs 0) ∧ ((s.th who).pc = 1 → v = gt s.A.cs 1)) (o : s'.own = s.own) (th : s'.th = updN s.th who x) (td : s'.g.todos = s.g.todos) (wm : s'.wm = s.wm) (wk : s'.g.woken = s.g.woken)
      (run : x.pc ≠ 0 → s'.sm = s.sm ∧ s'.g.taken = s.g.taken) (off : x.pc = 0 → s'.sm = updN s.sm who .idle ∧ s'.g.taken = took who (x.code, x.value) s.g.taken) (c : LotS P s s') (l : ∃ e, LogE s s' e ∧ DqE (2 + (P : Int)) who e)
  | own (w : who = 0) (m : s.wm = .push ∧ s.own.kind = 1 ∨ s.wm = .pop ∧ s.own.kind = 2) (pc : s.own.pc ≠ 0) (r : OwnR most (cellsOf first most) N s.A s.own s'.A s'.own) (af : ∃ v, s'.own = s.own.after v) (th : s'.th = s.th) (td : s'.g.todos = s.g.todos) (sm : s'.sm = s.sm) (wk : s'.g.woken = s.g.woken)
      (run : s'.own.pc ≠ 0 → s'.wm = s.wm ∧ s'.g.taken = s.g.taken) (off : s'.own.pc = 0 → s'.wm = (if s'.own.code = 2 then .pend else .idle) ∧ s'.g.taken = took 0 (s'.own.code, s'.own.value) s.g.taken) (c : LotS P s s') (l : ∃ e, LogE s s' e ∧ DqE (2 + (P : Int)) who e)
  | wk (w : who = 0) (m : s.wm = .wk) (m' : s'.wm = if SLc s ≤ 0 ∨ P = 1 then .idle else .wc 1) (k : Keep0 s s') (wo : s'.g.woken = s.g.woken) (c : LotS P s s') (l : LogE s s' (lgA who 0 0 (SLc s) 0 true))
  | wc (w : who = 0) (j : Int) (j1 : 1 ≤ j) (j2 : j < P) (m : s.wm = .wc j) (f : FLc s j = 1) (m' : s'.wm = .wu j) (k : Keep0 s s') (wo : s'.g.woken = s.g.woken) (c : LotC P s s' (2 + j) 0) (l : LogE s s' (lgA who 2 (2 + j) 1 0 true))
  | wn (w : who = 0) (j : Int) (j1 : 1 ≤ j) (j2 : j < P) (m : s.wm = .wc j) (f : FLc s j ≠ 1) (m' : s'.wm = if (P : Int) ≤ j + 1 then .idle else .wc (j + 1)) (k : Keep0 s s') (wo : s'.g.woken = s.g.woken) (c : LotS P s s') (l : LogE s s' (lgA who 2 (2 + j) 1 0 false))
  | wu (w : who = 0) (j : Int) (m : s.wm = .wu j) (m' : s'.wm = .idle) (k : Keep0 s s') (wo : s'.g.woken = w64 (s.g.woken + 1)) (c : LotC P s s' 0 (w64 (SLc s + (-1)))) (l : LogE s s' (lgA who 3 0 (-1) (w64 (SLc s + (-1))) true))
  | fs (w : who = 0) (m : s.wm = .fs) (m' : s'.wm = if P = 1 then .idle else .fc 1) (k : Keep0 s s') (wo : s'.g.woken = s.g.woken) (c : LotC P s s' 1 1) (l : LogE s s' (lgA who 1 1 1 0 true))
  | fc (w : who = 0) (j : Int) (j1 : 1 ≤ j) (j2 : j < P) (m : s.wm = .fc j) (f : FLc s j = 1) (m' : s'.wm = .fu j) (k : Keep0 s s') (wo : s'.g.woken = s.g.woken) (c : LotC P s s' (2 + j) 0) (l : LogE s s' (lgA who 2 (2 + j) 1 0 true))
  | fn (w : who = 0) (j : Int) (j1 : 1 ≤ j) (j2 : j < P) (m : s.wm = .fc j) (f : FLc s j ≠ 1) (m' : s'.wm = if (P : Int) ≤ j + 1 then .idle else .fc (j + 1)) (k : Keep0 s s') (wo : s'.g.woken = s.g.woken) (c : LotS P s s') (l : LogE s s' (lgA who 2 (2 + j) 1 0 false))
  | fu (w : who = 0) (j : Int) (j1 : 1 ≤ j) (j2 : j < P) (m : s.wm = .fu j) (m' : s'.wm = if (P : Int) ≤ j + 1 then .idle else .fc (j + 1)) (k : Keep0 s s') (wo : s'.g.woken = s.g.woken) (c : LotC P s s' 0 (w64 (SLc s + (-1)))) (l : LogE s s' (lgA who 3 0 (-1) (w64 (SLc s + (-1))) true))
theorem r9_some {ds : List (Den KP2)} {s s' : AS} {r : R9} {g : Int} (ha : r.at_ ≠ 0) (h : arenaA s (r.req ds) = (some g, s')) : stepR9 ds s r = (s', r.after g) := by
  unfold stepR9
  rw [if_neg ha, h]
theorem addr2 {i : Int} (a : 0 ≤ i) (b : i < 64) : w64 (w64 2 + i) = 2 + i := by
  rw [show w64 2 = 2 by decide, w64_of] <;> omega
theorem add_ok {s : AS} {a d : Int} (h : 0 ≤ a ∧ a < (s.cs.length : Int)) : arenaA s (.add a d) = (some (w64 (gt s.cs a + d)), AS.log { s with cs := s.cs.set a.toNat (w64 (gt s.cs a + d)) } (acc s 3 a d (w64 (gt s.cs a + d)) true)) := if_pos h
theorem who_mod {a k P : Int} (a0 : 0 ≤ a) (a1 : a < P) (k0 : 0 ≤ k) (k1 : k < P) (p8 : P ≤ 64) : Int.tmod (w64 (a + k)) P = (a + k) % P := by
  rw [w64_of (by omega) (by omega)]
  exact Int.tmod_eq_emod_of_nonneg (by omega)
theorem RelP.ans {ds : List (Den KP2)} {o : POp} {r : R9} (R : RelP ds o r) : o.answer = r.answer := R.answer.1
section
variable {P : Int} {ds : List (Den KP2)} {off : Int} {f : Int → Int} {i : Nat} {a : GAct} {th : DOp} {o : POp} {r : R9}
theorem is_at {m : SM} (h : r.is m) : r.at_ ≠ 0 ∧ 1 ≤ r.at_ ∧ r.at_ ≤ 8 := by
  cases m <;> simp only [R9.is] at h <;> omega
theorem SlI.lot (R : RelP ds o r) (hb : a.busy = 2) (hs : a.steals = false) (hh : a.halted = false) (hp : th.pc = 0) (b : r.base = 0) (w : r.workers = P) (sf : r.self = (i : Int)) {m : SM} (his : r.is m) : SlI P ds off f i (a.rested o) th m := by
  have ha := (is_at his).1
  have an : o.answer.1 = 0 := by rw [R.ans]; unfold R9.answer; rw [if_pos ha]
  have e : a.rested o = { a with lot := o } := by unfold GAct.rested; rw [if_pos an]
  have RR : RunP ds o r := by
    rcases R with ⟨z, _⟩ | R
    · exact absurd z ha
    · exact R
  have main : ResI P ds i (a.rested o).lot m := ⟨r, by rw [e]; exact RR, b, w, sf, his⟩
  rw [e] at main ⊢
  cases m <;> first | exact ⟨hb, hs, hh, hp, main⟩ | exact absurd his id
theorem SlI.end_ (R : RelP ds o r) (hb : a.busy = 2) (hs : a.steals = false) (hh : a.halted = false) (hp : th.pc = 0) (ha : r.at_ = 0) {h : Bool} (hc : r.code = howOf h) : SlI P ds off f i (a.rested o) th (.ended h) := by
  have an : o.answer.1 = howOf h := by rw [R.ans]; unfold R9.answer; rw [if_neg (fun z => z ha)]; exact hc
  unfold GAct.rested
  cases h with
  | true =>
    have an : o.answer.1 = 17 := an
    rw [if_neg (by omega), if_pos an]
    exact ⟨rfl, hs, rfl, hp⟩
  | false =>
    have an : o.answer.1 = 16 := an
    rw [if_neg (by omega), if_neg (by omega), if_pos an]
    exact ⟨rfl, rfl, hh, hp⟩
theorem lotGo {g : PG} {who : Nat} (hb : (g.act who).busy = 2) (R : RunP ds (g.act who).lot r) {m' : AS} {r' : R9} (hs : stepR9 ds g.m r = (m', r')) : ∃ o', RelP ds o' r' ∧ g.sleepGo who = { g with m := m', acts := g.acts.set who ((g.act who).rested o') } := by
  obtain ⟨h1, h2⟩ := RelP.step (.inr R) g.m
  rw [hs] at h1 h2
  refine ⟨_, h2, ?_⟩
  unfold PG.sleepGo
  rw [if_neg (by omega)]
  unfold PG.lotS
  rw [h1]
theorem lotGo0 {g : PG} (hb : (g.act 0).busy = 2) (R : RunP ds (g.act 0).lot r) {m' : AS} {r' : R9} (hs : stepR9 ds g.m r = (m', r')) : ∃ o', RelP ds o' r' ∧ g.workGo = { g with m := m', acts := g.acts.set 0 { g.act 0 with lot := o', busy := if r'.answer.1 ≠ 0 then 0 else 2 }, woken := if r'.answer.1 = 18 then w64 (g.woken + 1) else g.woken } := by
  obtain ⟨h1, h2⟩ := RelP.step (.inr R) g.m
  rw [hs] at h1 h2
  refine ⟨_, h2, ?_⟩
  unfold PG.workGo
  rw [if_pos hb]
  unfold PG.lot0
  rw [h1, h2.ans, hb]
end
theorem log_wt {s : AS} (w : s.wt = true) (e : Acc) : (s.log e).lg = s.lg ++ [e] := by
  unfold AS.log wl; rw [w]; rfl
section
variable {first most : Int} {P : Nat} {s : PkS} {N : Int} (I : PkI first most P s N) (nn : N + 1 ≤ 1000000000) {who : Nat} (hw : who < P) (hme : s.g.m.who = (who : Int))
include I nn hw hme
theorem PkI.goL (w : who ≠ 0) {r : R9} (hb : (s.g.act who).busy = 2) (R : RunP (dsP first most P) (s.g.act who).lot r) {m' : AS} {r' : R9} (hs : stepR9 (dsP first most P) s.g.m r = (m', r')) (hm : SM)
    (hsl : ∀ o', RelP (dsP first most P) o' r' → SlI (P : Int) (dsP first most P) (2 + (P : Int)) s.f who ((s.g.act who).rested o') (s.th who) hm) (l : ∀ k t, hm = .look k true t → 0 ≤ t ∧ t ≤ topA s.A.cs (((who : Int) + k) % (P : Int)))
    (hc : ∀ y, 2 + (P : Int) ≤ y → gt m'.cs y = gt s.g.m.cs y) (hl : m'.cs.length = s.g.m.cs.length) (hz : m'.sz = s.g.m.sz) (hwt : m'.wt = s.g.m.wt) (hwho : m'.who = s.g.m.who) :
    ∃ s', PkI first most P s' (N + 1) ∧ s'.g = s.g.sleepGo who ∧ s'.g.m = m' ∧ s'.sm = updN s.sm who hm ∧ KeepS s s' ∧ s'.f = s.f ∧ s'.bl = s.bl := by
  obtain ⟨o', R', e⟩ := lotGo hb R hs
  refine ⟨_, I.goS (by omega) hw (m' := hm) (th' := s.th who) (a := (s.g.act who).rested o') (tk := s.g.taken) (I.mem.lot nn hc hl hz hwt) (fun _ h => h) (Int.le_refl _) (hsl o' R') (I.th who (by omega) hw) l, e.symm, rfl, rfl, ⟨⟨rfl, rfl, updN_self _ _, rfl, rfl⟩, rfl, rfl⟩, rfl, rfl⟩
theorem PkI.goW {r : R9} (hb : (s.g.act 0).busy = 2) (hwk : (s.g.act 0).wakes = false) (R : RunP [] (s.g.act 0).lot r) {m' : AS} {r' : R9} (hs : stepR9 [] s.g.m r = (m', r')) (hm : WM)
    (hw0 : ∀ o', RelP [] o' r' → W0I (P : Int) (2 + (P : Int)) s.f { s.g.act 0 with lot := o', busy := if r'.answer.1 ≠ 0 then 0 else 2 } s.own hm)
    (hc : ∀ y, 2 + (P : Int) ≤ y → gt m'.cs y = gt s.g.m.cs y) (hl : m'.cs.length = s.g.m.cs.length) (hz : m'.sz = s.g.m.sz) (hwt : m'.wt = s.g.m.wt) (hwho : m'.who = s.g.m.who) :
    ∃ s', PkI first most P s' (N + 1) ∧ s'.g = s.g.workGo ∧ s'.g.m = m' ∧ s'.wm = hm ∧ Keep0 s s' ∧ s'.g.woken = (if r'.answer.1 = 18 then w64 (s.g.woken + 1) else s.g.woken) ∧ s'.f = s.f ∧ s'.bl = s.bl := by
  obtain ⟨o', R', e⟩ := lotGo0 hb R hs
  refine ⟨_, I.go0 (own' := s.own) (wm' := hm) (a := { s.g.act 0 with lot := o', busy := if r'.answer.1 ≠ 0 then 0 else 2 }) (td := s.g.todos) (tk := s.g.taken) (wk := if r'.answer.1 = 18 then w64 (s.g.woken + 1) else s.g.woken) (I.mem.lot nn hc hl hz hwt) (fun _ h => ⟨h, rfl⟩) (Int.le_refl _) (hw0 o' R'), e.symm, rfl, rfl, ⟨⟨rfl, rfl, rfl, rfl, rfl⟩, rfl⟩, rfl, rfl, rfl⟩
end
section
variable {P : Nat} {J : AS} (p8 : P ≤ 8) (hl : 2 + (P : Int) ≤ (J.cs.length : Int)) (wt : J.wt = true)
include p8 hl wt
theorem lotSet {c v : Int} (c0 : 0 ≤ c) (c1 : c < 2 + (P : Int)) (e : Acc) : let m' := AS.log { J with cs := J.cs.set c.toNat v } e
    (∀ y, 2 + (P : Int) ≤ y → gt m'.cs y = gt J.cs y) ∧ m'.cs.length = J.cs.length ∧ (∀ y, 0 ≤ y → y < 2 + (P : Int) → gt m'.cs y = if y = c then v else gt J.cs y) ∧ m'.lg = J.lg ++ [e] :=
  ⟨fun y h => gt_set_ne c0 (by omega) (by omega), List.length_set, fun y a b => gt_set c0 (by omega) a, log_wt (s := { J with cs := J.cs.set c.toNat v }) wt e⟩
theorem lotGet (e : Acc) : let m' := AS.log J e
    (∀ y, 2 + (P : Int) ≤ y → gt m'.cs y = gt J.cs y) ∧ m'.cs.length = J.cs.length ∧ (∀ y, 0 ≤ y → y < 2 + (P : Int) → gt m'.cs y = gt J.cs y) ∧ m'.lg = J.lg ++ [e] :=
  ⟨fun _ _ => rfl, rfl, fun _ _ _ => rfl, log_wt wt e⟩
end
end Go.Mx

namespace Go.Mx

theorem RunP.lk {ds : List (Den KP2)} {o : POp} {r : R9} (R : RunP ds o r) (h : r.at_ = 4 ∨ r.at_ = 5) : r.k < r.workers := by
  have := R.w
  rcases R.at_ with ⟨_, _, _, c⟩ | ⟨_, c⟩ | ⟨_, c⟩ | ⟨_, c⟩
  · rcases c with c | c | c | ⟨c1, c2, c3, c4, c5⟩ | c | c | c <;> omega
  all_goals omega
theorem emod_nat {a P : Int} (p : 1 ≤ P) : ∃ j : Nat, a % P = (j : Int) ∧ (j : Int) < P := by
  have h0 := Int.emod_nonneg a (show P ≠ 0 by omega)
  have h1 := Int.emod_lt_of_pos a (show 0 < P by omega)
  exact ⟨(a % P).toNat, by omega, by omega⟩
section
variable {first most : Int} {P : Nat} {s : PkS} {N : Int} (I : PkI first most P s N) (nn : N + 1 ≤ 1000000000) {who : Nat} (hw : who < P) (hme : s.g.m.who = (who : Int))
include I nn hw hme
theorem PkI.goSl (w : who ≠ 0) (ac : (s.sm who).act) : ∃ s', PkI first most P s' (N + 1) ∧ s'.g = s.g.sleepGo who ∧ PgoR first most P N s who s' := by
  have p1 := I.mem.p1
  have p8 := I.mem.p8
  have wt := I.mem.wt
  have JL : 2 + (P : Int) ≤ (s.g.m.cs.length : Int) := by
    have h := I.mem.jl
    have f1 := I.mem.cap.1
    unfold midP at h; omega
  have sl := I.sl who (by omega) hw
  have a2 : w64 (w64 2 + (who : Int)) = 2 + (who : Int) := addr2 (by omega) (by omega)
  have lgE : ∀ {s' : PkS} {m' : AS} {k a x y : Int} {ok : Bool}, s'.g.m = m' → m'.lg = s.g.m.lg ++ [acc s.g.m k a x y ok] → LogE s s' (lgA who k a x y ok) := fun {s' m' k a x y ok} e h => by
    unfold LogE
    rw [e, h]
    unfold acc
    rw [hme]
  have lgD : ∀ {s' : PkS} {m' : AS} {a x y : Int} {ok : Bool}, s'.g.m = m' → m'.lg = s.g.m.lg ++ [acc s.g.m 0 a x y ok] → 2 + (P : Int) ≤ a → ∃ e, LogE s s' e ∧ DqE (2 + (P : Int)) who e := fun {s' m' a x y ok} e h q => ⟨lgA who 0 a x y ok, lgE e h, rfl, .inr ⟨q, (by decide : (0 : Int) ≤ 0), (by decide : (0 : Int) ≤ 2)⟩⟩
  cases e : s.sm who with
  | idle => rw [e] at ac; exact ac.elim
  | pend => rw [e] at ac; exact ac.elim
  | halt => rw [e] at ac; exact ac.elim
  | on =>
    rw [e] at sl
    obtain ⟨hb, hst, hh, hpc, r, R, hb0, hw', hs', h1, hk⟩ := sl
    have q : r.req (dsP first most P) = .rq (.st (2 + (who : Int)) 1) := by simp [R9.req, h1, hb0, hs', a2]
    obtain ⟨c1, c2, c3, c4⟩ := lotSet p8 JL wt (c := 2 + (who : Int)) (v := 1) (by omega) (by omega) (acc s.g.m 1 (2 + who) 1 0 true)
    have hs := r9_some (ds := dsP first most P) (r := r) (s := s.g.m) (by omega) (by rw [q]; exact st_ok ⟨by omega, by omega⟩)
    have ea : r.after 0 = r.to 2 := by simp [R9.after, R9.rested, h1]
    obtain ⟨s', I', eg, em, es, k, ef, eb⟩ := I.goL nn hw hme w hb R hs .cnt (fun o' R' => .lot R' hb hst hh hpc (by rw [ea]; exact hb0) (by rw [ea]; exact hw') (by rw [ea]; exact hs') (by rw [ea]; exact ⟨rfl, hk⟩)) (fun _ _ q => by cases q) c1 c2 rfl rfl rfl
    exact ⟨s', I', eg, .on w e es k (fun y a b => by rw [em]; exact c3 y a b) (lgE em c4)⟩
  | cnt =>
    rw [e] at sl
    obtain ⟨hb, hst, hh, hpc, r, R, hb0, hw', hs', h1, hk⟩ := sl
    have q : r.req (dsP first most P) = .add 0 1 := by simp [R9.req, h1, hb0]
    obtain ⟨c1, c2, c3, c4⟩ := lotSet p8 JL wt (c := 0) (v := w64 (gt s.g.m.cs 0 + 1)) (by omega) (by omega) (acc s.g.m 3 0 1 (w64 (gt s.g.m.cs 0 + 1)) true)
    have hs := r9_some (ds := dsP first most P) (r := r) (s := s.g.m) (by omega) (by rw [q]; exact add_ok ⟨by omega, by omega⟩)
    have ea : r.after (w64 (gt s.g.m.cs 0 + 1)) = r.to 3 := by simp [R9.after, R9.rested, h1]
    obtain ⟨s', I', eg, em, es, k, ef, eb⟩ := I.goL nn hw hme w hb R hs .ask (fun o' R' => .lot R' hb hst hh hpc (by rw [ea]; exact hb0) (by rw [ea]; exact hw') (by rw [ea]; exact hs') (by rw [ea]; exact ⟨rfl, hk⟩)) (fun _ _ q => by cases q) c1 c2 rfl rfl rfl
    exact ⟨s', I', eg, .cnt w e es k (fun y a b => by rw [em]; exact c3 y a b) (lgE em c4)⟩
  | ask =>
    rw [e] at sl
    obtain ⟨hb, hst, hh, hpc, r, R, hb0, hw', hs', h1, hk⟩ := sl
    have q : r.req (dsP first most P) = .rq (.ld 1) := by simp [R9.req, h1, hb0, show w64 1 = 1 by decide]
    obtain ⟨c1, c2, c3, c4⟩ := lotGet p8 JL wt (acc s.g.m 0 1 (gt s.g.m.cs 1) 0 true)
    have hs := r9_some (ds := dsP first most P) (r := r) (s := s.g.m) (by omega) (by rw [q]; exact ld_ok ⟨by omega, by omega⟩)
    have key : (r.after (gt s.g.m.cs 1)).base = 0 ∧ (r.after (gt s.g.m.cs 1)).workers = (P : Int) ∧ (r.after (gt s.g.m.cs 1)).self = (who : Int) ∧ (r.after (gt s.g.m.cs 1)).is (if DNc s = 1 then .back true else .look 1 false 0) := by
      by_cases d : gt s.g.m.cs 1 = 1
      · have ea : r.after (gt s.g.m.cs 1) = R9.to { r with how := 17 } 7 := by simp [R9.after, R9.rested, h1, d]
        rw [ea, if_pos d]
        exact ⟨hb0, hw', hs', rfl, rfl⟩
      · have ea : r.after (gt s.g.m.cs 1) = { r with k := 1, at_ := 4 } := by
          simp [R9.after, R9.rested, h1, d, R9.around, hk, hw', show w64 1 = 1 by decide]; omega
        rw [ea, if_neg d]
        exact ⟨hb0, hw', hs', rfl, Int.le_refl _, .inl ⟨rfl, rfl⟩⟩
    obtain ⟨s', I', eg, em, es, k, ef, eb⟩ := I.goL nn hw hme w hb R hs (if DNc s = 1 then .back true else .look 1 false 0) (fun o' R' => .lot R' hb hst hh hpc key.1 key.2.1 key.2.2.1 key.2.2.2) (fun _ _ q => by split at q <;> cases q) c1 c2 rfl rfl rfl
    exact ⟨s', I', eg, .ask w e es k (fun y a b => by rw [em]; exact c3 y a b) (lgE em c4)⟩
  | look k b t =>
    rw [e] at sl
    obtain ⟨hb, hst, hh, hpc, r, R, hb0, hw', hs', hk, k1, h⟩ := sl
    have k2 : k < (P : Int) := by rw [← hk, ← hw']; exact R.lk (by omega)
    obtain ⟨j, hj, hjP⟩ := emod_nat (a := (who : Int) + k) (P := (P : Int)) (by omega)
    have rw_ : r.who = (j : Int) := by
      unfold R9.who
      rw [hs', hk, hw', who_mod (by omega) (by omega) (by omega) k2 (by omega), hj]
    obtain ⟨⟨t1, t2⟩, t3, t4⟩ := I.mem.tops (j := j) (by omega)
    obtain ⟨B, hB⟩ : ∃ B : Int, (dqAt (dsP first most P) (j : Int)).1 = B := ⟨_, rfl⟩
    rw [hB] at t1 t2 t3 t4
    have t1 : 2 + (P : Int) ≤ B := t1
    have t2 : B + 1 < (s.g.m.cs.length : Int) := t2
    rcases h with ⟨rfl, h1⟩ | ⟨rfl, h1, ht⟩
    · have q : r.req (dsP first most P) = .rq (.ld B) := by simp [R9.req, h1, rw_, hB]
      obtain ⟨c1, c2, c3, c4⟩ := lotGet p8 JL wt (acc s.g.m 0 B (topA s.A.cs (j : Int)) 0 true)
      have hs := r9_some (ds := dsP first most P) (r := r) (s := s.g.m) (by omega) (by rw [q]; exact ld_ok ⟨by omega, by omega⟩)
      rw [t3] at hs
      have ea : r.after (topA s.A.cs (j : Int)) = R9.to { r with t := topA s.A.cs (j : Int) } 5 := by simp [R9.after, R9.rested, h1]
      have t0 : 0 ≤ topA s.A.cs (j : Int) := by
        unfold topA
        have := I.mem.dv.dg.t0
        split <;> omega
      obtain ⟨s', I', eg, em, es, k', ef, eb⟩ := I.goL nn hw hme w hb R hs (.look k true (topA s.A.cs (j : Int))) (fun o' R' => .lot R' hb hst hh hpc (by rw [ea]; exact hb0) (by rw [ea]; exact hw') (by rw [ea]; exact hs') (by rw [ea]; exact ⟨hk, k1, .inr ⟨rfl, rfl, rfl⟩⟩)) (fun k5 t5 q => by
        cases q
        rw [hj]; exact ⟨t0, Int.le_refl _⟩) c1 c2 rfl rfl rfl
      exact ⟨s', I', eg, .look1 w k t k1 k2 e (by rw [hj]; exact es) k' (fun y a b => by rw [em]; exact c3 y a b) (lgD em c4 t1)⟩
    · have bi := t2
      have wb : w64 (B + 1) = B + 1 := by
        have := I.mem.dv.emb.jl
        rw [w64_of] <;> omega
      have q : r.req (dsP first most P) = .rq (.ld (B + 1)) := by simp [R9.req, h1, rw_, hB, wb]
      obtain ⟨c1, c2, c3, c4⟩ := lotGet p8 JL wt (acc s.g.m 0 (B + 1) (botA s.A.cs (j : Int)) 0 true)
      have hs := r9_some (ds := dsP first most P) (r := r) (s := s.g.m) (by omega) (by rw [q]; exact ld_ok ⟨by omega, by omega⟩)
      rw [t4] at hs
      have tt := (I.lt who (by omega) hw k t e).2
      rw [hj] at tt
      have key : (r.after (botA s.A.cs (j : Int))).base = 0 ∧ (r.after (botA s.A.cs (j : Int))).workers = (P : Int) ∧ (r.after (botA s.A.cs (j : Int))).self = (who : Int) ∧ (r.after (botA s.A.cs (j : Int))).is (if t < botA s.A.cs (j : Int) then .back false else if (P : Int) ≤ k + 1 then .park else .look (k + 1) false 0) := by
        by_cases d : t < botA s.A.cs (j : Int)
        · have ea : r.after (botA s.A.cs (j : Int)) = R9.to { r with how := 16 } 7 := by simp [R9.after, R9.rested, h1, ht, d]
          rw [ea, if_pos d]
          exact ⟨hb0, hw', hs', rfl, rfl⟩
        · have wk : w64 (k + 1) = k + 1 := by rw [w64_of] <;> omega
          have ea : r.after (botA s.A.cs (j : Int)) = r.around 4 (r.to 6) := by simp [R9.after, R9.rested, h1, ht, d]
          rw [ea, if_neg d]
          unfold R9.around
          rw [hk, wk, hw']
          by_cases d2 : (P : Int) ≤ k + 1
          · rw [if_pos d2, if_pos d2]
            exact ⟨hb0, hw', hs', rfl⟩
          · rw [if_neg d2, if_neg d2]
            exact ⟨hb0, rfl, hs', rfl, by omega, .inl ⟨rfl, rfl⟩⟩
      obtain ⟨s', I', eg, em, es, k', ef, eb⟩ := I.goL nn hw hme w hb R hs (if t < botA s.A.cs (j : Int) then .back false else if (P : Int) ≤ k + 1 then .park else .look (k + 1) false 0) (fun o' R' => .lot R' hb hst hh hpc key.1 key.2.1 key.2.2.1 key.2.2.2) (fun k5 t5 q => by
        split at q
        · cases q
        split at q <;> cases q) c1 c2 rfl rfl rfl
      exact ⟨s', I', eg, .look2 w k t k1 k2 e (by rw [hj]; exact tt) (by rw [hj]; exact es) k' (fun y a b => by rw [em]; exact c3 y a b) (lgD em c4 (by omega))⟩
  | park =>
    rw [e] at sl
    obtain ⟨hb, hst, hh, hpc, r, R, hb0, hw', hs', his⟩ := sl
    have h1 : r.at_ = 6 := his
    have q : r.req (dsP first most P) = .rq (.ld (2 + (who : Int))) := by simp [R9.req, h1, hb0, hs', a2]
    obtain ⟨c1, c2, c3, c4⟩ := lotGet p8 JL wt (acc s.g.m 0 (2 + who) (gt s.g.m.cs (2 + who)) 0 true)
    have hs := r9_some (ds := dsP first most P) (r := r) (s := s.g.m) (by omega) (by rw [q]; exact ld_ok ⟨by omega, by omega⟩)
    obtain ⟨s', I', eg, em, es, k, ef, eb⟩ := I.goL nn hw hme w hb R hs (if FLc s who = 1 then .park else .pend) (fun o' R' => by
      by_cases d : gt s.g.m.cs (2 + who) = 1
      · have ea : r.after (gt s.g.m.cs (2 + who)) = r := by simp [R9.after, R9.rested, h1, d]
        rw [if_pos d]
        rw [ea] at R'
        exact .lot R' hb hst hh hpc hb0 hw' hs' his
      · have ea : r.after (gt s.g.m.cs (2 + who)) = r.end_ 16 0 := by simp [R9.after, R9.rested, h1, d]
        rw [if_neg d]
        rw [ea] at R'
        exact SlI.end_ (h := false) R' hb hst hh hpc rfl rfl) (fun _ _ q => by split at q <;> cases q) c1 c2 rfl rfl rfl
    exact ⟨s', I', eg, .park w e es k (fun y a b => by rw [em]; exact c3 y a b) (lgE em c4)⟩
  | back h =>
    rw [e] at sl
    obtain ⟨hb, hst, hh, hpc, r, R, hb0, hw', hs', h1, hhow⟩ := sl
    have q : r.req (dsP first most P) = .rq (.cas (2 + (who : Int)) 1 0) := by simp [R9.req, h1, hb0, hs', a2]
    by_cases d : gt s.g.m.cs (2 + who) = 1
    · obtain ⟨c1, c2, c3, c4⟩ := lotSet p8 JL wt (c := 2 + (who : Int)) (v := 0) (by omega) (by omega) (acc s.g.m 2 (2 + who) 1 0 true)
      have hs := r9_some (ds := dsP first most P) (r := r) (s := s.g.m) (by omega) (by rw [q]; exact cas_ok ⟨by omega, by omega⟩ d)
      have ea : r.after 1 = r.to 8 := by simp [R9.after, R9.rested, h1]
      obtain ⟨s', I', eg, em, es, k, ef, eb⟩ := I.goL nn hw hme w hb R hs (.less h) (fun o' R' => .lot R' hb hst hh hpc (by rw [ea]; exact hb0) (by rw [ea]; exact hw') (by rw [ea]; exact hs') (by rw [ea]; exact ⟨rfl, hhow⟩)) (fun _ _ q => by cases q) c1 c2 rfl rfl rfl
      exact ⟨s', I', eg, .back w h e d es k (fun y a b => by rw [em]; exact c3 y a b) (lgE em c4)⟩
    · obtain ⟨c1, c2, c3, c4⟩ := lotGet p8 JL wt (acc s.g.m 2 (2 + who) 1 0 false)
      have hs := r9_some (ds := dsP first most P) (r := r) (s := s.g.m) (by omega) (by rw [q]; exact cas_no ⟨by omega, by omega⟩ d)
      have ea : r.after 0 = r.end_ r.how 0 := by simp [R9.after, R9.rested, h1]
      obtain ⟨s', I', eg, em, es, k, ef, eb⟩ := I.goL nn hw hme w hb R hs (.ended h) (fun o' R' => by rw [ea] at R'; exact SlI.end_ R' hb hst hh hpc rfl hhow) (fun _ _ q => by cases h <;> cases q) c1 c2 rfl rfl rfl
      exact ⟨s', I', eg, .fail w h e d es k (fun y a b => by rw [em]; exact c3 y a b) (lgE em c4)⟩
  | less h =>
    rw [e] at sl
    obtain ⟨hb, hst, hh, hpc, r, R, hb0, hw', hs', h1, hhow⟩ := sl
    have q : r.req (dsP first most P) = .add 0 (-1) := by simp [R9.req, h1, hb0]
    obtain ⟨c1, c2, c3, c4⟩ := lotSet p8 JL wt (c := 0) (v := w64 (gt s.g.m.cs 0 + (-1))) (by omega) (by omega) (acc s.g.m 3 0 (-1) (w64 (gt s.g.m.cs 0 + (-1))) true)
    have hs := r9_some (ds := dsP first most P) (r := r) (s := s.g.m) (by omega) (by rw [q]; exact add_ok ⟨by omega, by omega⟩)
    have ea : r.after (w64 (gt s.g.m.cs 0 + (-1))) = r.end_ r.how 0 := by simp [R9.after, R9.rested, h1]
    obtain ⟨s', I', eg, em, es, k, ef, eb⟩ := I.goL nn hw hme w hb R hs (.ended h) (fun o' R' => by rw [ea] at R'; exact SlI.end_ R' hb hst hh hpc rfl hhow) (fun _ _ q => by cases h <;> cases q) c1 c2 rfl rfl rfl
    exact ⟨s', I', eg, .less w h e es k (fun y a b => by rw [em]; exact c3 y a b) (lgE em c4)⟩
  | steal =>
    rw [e] at sl
    obtain ⟨hb, hst, hh, hpc, hk3, hdq⟩ := sl
    obtain ⟨v, A', v', J', T⟩ := I.mem.dv.thief (I.th who (by omega) hw) nn hpc
    have M := I.mem.dq T.sim T.acc T.dv
    have b0 := ((I.th who (by omega) hw).mt hpc).1
    have al := I.mem.dv.emb.a3
    have v2 : (s.th who).pc = 2 → v = gt s.A.cs 0 := fun p2 => by
      have := T.acc
      rw [req2 b0 p2, ld_ok ⟨by decide, by omega⟩] at this
      cases this; rfl
    have v1 : (s.th who).pc = 1 → v = gt s.A.cs 1 := fun p1 => by
      have := T.acc
      rw [req1 b0 p1, ld_ok ⟨by decide, by omega⟩] at this
      cases this; rfl
    have k3' : ((s.th who).after v).kind = 3 := by rw [((s.th who).after_same v).1]; exact hk3
    have an : (mapO (2 + (P : Int)) s.f ((s.th who).after v)).answer = if ((s.th who).after v).pc ≠ 0 then (0, 0) else (((s.th who).after v).code, ((s.th who).after v).value) := by
      rw [mapO_answer (by omega)]
      unfold DOp.answer
      rw [if_neg (fun z : (s.th who).after v = DOp.zero => by rw [z] at k3'; exact absurd k3' (by decide))]
    have hgo : s.g.sleepGo who = s.g.dqS who (J', mapO (2 + (P : Int)) s.f ((s.th who).after v)) := by
      unfold PG.sleepGo; rw [if_pos hb, hdq, T.step]
    have top : gt s.A.cs 0 ≤ gt A'.cs 0 := by
      cases T.r.eff with
      | same p c => rw [c]; exact Int.le_refl _
      | empty k p co va c => rw [c]; exact Int.le_refl _
      | lost k p co va c => rw [c]; exact Int.le_refl _
      | got k p co va t t' => omega
      | look k p co va c => rw [c]; exact Int.le_refl _
    obtain ⟨ev, l1, l2⟩ := I.mem.dlog T.sim
    rw [hme] at l2
    have cc : ∀ y, 0 ≤ y → y < 2 + (P : Int) → gt J'.cs y = gt s.g.m.cs y := fun y a b => I.mem.lotc T.sim a b
    by_cases pc' : ((s.th who).after v).pc = 0
    · obtain ⟨cd, _⟩ := T.code pc'
      rw [if_neg (fun z => z pc')] at an
      have ea : s.g.dqS who (J', mapO (2 + (P : Int)) s.f ((s.th who).after v)) = { s.g with m := J', acts := s.g.acts.set who { s.g.act who with dq := mapO (2 + (P : Int)) s.f ((s.th who).after v), busy := 0, steals := false }, taken := took (who : Int) (((s.th who).after v).code, ((s.th who).after v).value) s.g.taken } := by
        unfold PG.dqS
        dsimp only
        rw [an, if_neg (show ¬ (((s.th who).after v).code, ((s.th who).after v).value).1 = 0 from cd)]
      rw [hgo, ea]
      refine ⟨_, I.goS (by omega) hw (m' := .idle) (th' := (s.th who).after v) (a := { s.g.act who with dq := mapO (2 + (P : Int)) s.f ((s.th who).after v), busy := 0, steals := false }) (tk := took (who : Int) (((s.th who).after v).code, ((s.th who).after v).value) s.g.taken) M T.ths top ⟨rfl, rfl, hh, pc'⟩ T.me (fun _ _ q => by cases q), rfl,
        .steal w e _ T.r ⟨hk3, v, rfl, v2, v1⟩ rfl rfl rfl rfl rfl (fun z => absurd pc' z) (fun _ => ⟨rfl, rfl⟩) cc ⟨ev, l1, l2⟩⟩
    · rw [if_pos pc'] at an
      have ea : s.g.dqS who (J', mapO (2 + (P : Int)) s.f ((s.th who).after v)) = { s.g with m := J', acts := s.g.acts.set who { s.g.act who with dq := mapO (2 + (P : Int)) s.f ((s.th who).after v) } } := by
        unfold PG.dqS
        dsimp only
        rw [an, if_pos rfl]
      rw [hgo, ea]
      refine ⟨_, I.goS (by omega) hw (m' := .steal) (th' := (s.th who).after v) (a := { s.g.act who with dq := mapO (2 + (P : Int)) s.f ((s.th who).after v) }) (tk := s.g.taken) M T.ths top ⟨hb, hst, hh, pc', k3', rfl⟩ T.me (fun _ _ q => by cases q), rfl,
        .steal w e _ T.r ⟨hk3, v, rfl, v2, v1⟩ rfl rfl rfl rfl rfl (fun _ => ⟨by show updN s.sm who SM.steal = s.sm; rw [← e]; exact updN_self _ _, rfl⟩) (fun z => absurd z pc') cc ⟨ev, l1, l2⟩⟩
end
end Go.Mx

namespace Go.Mx

theorem wakI_of {P : Int} {o : POp} {r : R9} (R : RelP [] o r) (ha : r.at_ ≠ 0) (b : r.base = 0) (w : r.workers = P) (sf : r.self = 0) (k0 : 0 ≤ r.k) (k1 : r.k < P) : WakI P o r.at_ r.k := by
  rcases R with ⟨z, _⟩ | R
  · exact absurd z ha
  · exact ⟨r, R, b, w, sf, rfl, rfl, k0, k1⟩
theorem r9_run {r : R9} (ha : r.at_ ≠ 0) : r.answer = (0, 0) := by unfold R9.answer; rw [if_pos ha]
theorem r9_end {r : R9} (c v : Int) : (r.end_ c v).answer = (c, v) := by unfold R9.answer; rw [if_neg (fun z => z rfl)]; rfl
theorem who0 {j P : Int} (j0 : 0 ≤ j) (j1 : j < P) (p8 : P ≤ 64) : Int.tmod (w64 (0 + j)) P = j := by
  rw [who_mod (by omega) (by omega) j0 j1 p8, Int.zero_add, Int.emod_eq_of_lt j0 j1]
section
variable {first most : Int} {P : Nat} {s : PkS} {N : Int} (I : PkI first most P s N) (nn : N + 1 ≤ 1000000000) (hme : s.g.m.who = ((0 : Nat) : Int))
include I nn hme
theorem PkI.goS0 (ac : s.wm.on) : ∃ s', PkI first most P s' (N + 1) ∧ s'.g = s.g.workGo ∧ PgoR first most P N s 0 s' := by
  have p1 := I.mem.p1
  have p8 := I.mem.p8
  have wt := I.mem.wt
  have hw : 0 < P := by omega
  have JL : 2 + (P : Int) ≤ (s.g.m.cs.length : Int) := by
    have h := I.mem.jl
    have f1 := I.mem.cap.1
    unfold midP at h; omega
  have w0 := I.w0
  have lgE : ∀ {s' : PkS} {m' : AS} {k a x y : Int} {ok : Bool}, s'.g.m = m' → m'.lg = s.g.m.lg ++ [acc s.g.m k a x y ok] → LogE s s' (lgA 0 k a x y ok) := fun {s' m' k a x y ok} e h => by
    unfold LogE
    rw [e, h]
    unfold acc
    rw [hme]
  have ended : ∀ {r' : R9} {c v : Int} {o' : POp}, r' = R9.end_ r' c v → c ≠ 0 → (s.g.act 0).wakes = false → s.own.pc = 0 → W0I (P : Int) (2 + (P : Int)) s.f { s.g.act 0 with lot := o', busy := if r'.answer.1 ≠ 0 then 0 else 2 } s.own .idle := fun {r' c v o'} e hc h1 h2 => by
    refine ⟨?_, h1, h2⟩
    show (if r'.answer.1 ≠ 0 then (0 : Int) else 2) = 0
    rw [e, r9_end, if_pos (show (c, v).1 ≠ 0 from hc)]
  have busy2 : ∀ {r' : R9}, r'.at_ ≠ 0 → (if r'.answer.1 ≠ 0 then (0 : Int) else 2) = 2 := fun {r'} h => by rw [r9_run h]; rfl
  have wk18 : ∀ {r' : R9}, r'.at_ ≠ 0 → (if r'.answer.1 = 18 then w64 (s.g.woken + 1) else s.g.woken) = s.g.woken := fun {r'} h => by rw [r9_run h]; rfl
  have own : s.own.pc ≠ 0 → (s.g.act 0).busy = 1 → (s.g.act 0).wakes = false → (s.g.act 0).dq = mapO (2 + (P : Int)) s.f s.own → (s.wm = .push ∧ s.own.kind = 1 ∨ s.wm = .pop ∧ s.own.kind = 2) → ∃ s', PkI first most P s' (N + 1) ∧ s'.g = s.g.workGo ∧ PgoR first most P N s 0 s' := fun hpc hb hwk hdq hm => by
    obtain ⟨v, A', v', J', f', bl', T⟩ := I.mem.dv.own nn I.mem.jz I.mem.room hpc
    have M := I.mem.dq T.sim T.acc T.dv
    have kk : (s.own.after v).kind = s.own.kind := (s.own.after_same v).1
    have k0 : (s.own.after v).kind ≠ 0 := by rw [kk]; omega
    have an : (mapO (2 + (P : Int)) f' (s.own.after v)).answer = if (s.own.after v).pc ≠ 0 then (0, 0) else ((s.own.after v).code, (s.own.after v).value) := by
      rw [mapO_answer k0]
      unfold DOp.answer
      rw [if_neg (fun z : s.own.after v = DOp.zero => by rw [z] at k0; exact absurd rfl k0)]
    have hgo : s.g.workGo = s.g.dq0 (J', mapO (2 + (P : Int)) f' (s.own.after v)) := by
      unfold PG.workGo; rw [if_neg (by omega), hdq, T.step]
    have top : gt s.A.cs 0 ≤ gt A'.cs 0 := by
      cases T.r.eff with
      | same p c h t => omega
      | push k p co va c h h' t => omega
      | full k p co va c h h' t => omega
      | low k p h c t => omega
      | got k p co c h h' t => omega
      | empty k p co va c h h' t => omega
      | won k p c h t => omega
    obtain ⟨ev, l1, l2⟩ := I.mem.dlog T.sim
    rw [hme] at l2
    have cc : ∀ y, 0 ≤ y → y < 2 + (P : Int) → gt J'.cs y = gt s.g.m.cs y := fun y a b => I.mem.lotc T.sim a b
    by_cases pc' : (s.own.after v).pc = 0
    · obtain ⟨cd, _⟩ := T.code pc'
      rw [if_neg (fun z => z pc')] at an
      have ea : s.g.dq0 (J', mapO (2 + (P : Int)) f' (s.own.after v)) = { s.g with m := J', acts := s.g.acts.set 0 { s.g.act 0 with dq := mapO (2 + (P : Int)) f' (s.own.after v), busy := 0, wakes := decide ((s.own.after v).code = 2) }, taken := took 0 ((s.own.after v).code, (s.own.after v).value) s.g.taken } := by
        unfold PG.dq0
        dsimp only
        rw [an, if_neg (show ¬ ((s.own.after v).code, (s.own.after v).value).1 = 0 from cd)]
      rw [hgo, ea]
      refine ⟨_, I.go0 (own' := s.own.after v) (wm' := if (s.own.after v).code = 2 then .pend else .idle) (a := { s.g.act 0 with dq := mapO (2 + (P : Int)) f' (s.own.after v), busy := 0, wakes := decide ((s.own.after v).code = 2) }) (td := s.g.todos) (tk := took 0 ((s.own.after v).code, (s.own.after v).value) s.g.taken) (wk := s.g.woken) M T.ths top ?_, rfl,
        .own rfl hm hpc T.r ⟨v, rfl⟩ rfl rfl rfl rfl (fun z => absurd pc' z) (fun _ => ⟨rfl, rfl⟩) cc ⟨ev, l1, l2⟩⟩
      by_cases c2 : (s.own.after v).code = 2
      · rw [if_pos c2]
        exact ⟨rfl, decide_eq_true c2, pc'⟩
      · rw [if_neg c2]
        exact ⟨rfl, decide_eq_false c2, pc'⟩
    · rw [if_pos pc'] at an
      have ea : s.g.dq0 (J', mapO (2 + (P : Int)) f' (s.own.after v)) = { s.g with m := J', acts := s.g.acts.set 0 { s.g.act 0 with dq := mapO (2 + (P : Int)) f' (s.own.after v) } } := by
        unfold PG.dq0
        dsimp only
        rw [an, if_pos rfl]
      rw [hgo, ea]
      refine ⟨_, I.go0 (own' := s.own.after v) (wm' := s.wm) (a := { s.g.act 0 with dq := mapO (2 + (P : Int)) f' (s.own.after v) }) (td := s.g.todos) (tk := s.g.taken) (wk := s.g.woken) M T.ths top ?_, rfl,
        .own rfl hm hpc T.r ⟨v, rfl⟩ rfl rfl rfl rfl (fun _ => ⟨rfl, rfl⟩) (fun z => absurd z pc') cc ⟨ev, l1, l2⟩⟩
      rcases hm with ⟨m, k⟩ | ⟨m, k⟩
      · rw [m]; exact ⟨hb, hwk, pc', kk.trans k, rfl⟩
      · rw [m]; exact ⟨hb, hwk, pc', kk.trans k, rfl⟩
  cases e : s.wm with
  | idle => rw [e] at ac; exact ac.elim
  | pend => rw [e] at ac; exact ac.elim
  | push =>
    rw [e] at w0
    obtain ⟨hb, hwk, hpc, k, hd⟩ := w0
    exact own hpc hb hwk hd (.inl ⟨e, k⟩)
  | pop =>
    rw [e] at w0
    obtain ⟨hb, hwk, hpc, k, hd⟩ := w0
    exact own hpc hb hwk hd (.inr ⟨e, k⟩)
  | wk =>
    rw [e] at w0
    obtain ⟨hb, hwk, hpc, r, R, hb0, hw', hs', h1, hk, k0, k1⟩ := w0
    have q : r.req [] = .rq (.ld 0) := by simp [R9.req, h1, hb0]
    obtain ⟨c1, c2, c3, c4⟩ := lotGet p8 JL wt (acc s.g.m 0 0 (gt s.g.m.cs 0) 0 true)
    have hs := r9_some (ds := []) (r := r) (s := s.g.m) (by omega) (by rw [q]; exact ld_ok ⟨by omega, by omega⟩)
    by_cases d : gt s.g.m.cs 0 ≤ 0 ∨ P = 1
    · have ea : r.after (gt s.g.m.cs 0) = r.end_ 19 0 := by
        by_cases d0 : gt s.g.m.cs 0 ≤ 0
        · simp [R9.after, R9.told, h1, d0]
        · have dP : P = 1 := d.resolve_left d0
          simp [R9.after, R9.told, h1, d0, R9.around, hk, hw', dP, show w64 1 = 1 by decide]
      obtain ⟨s', I', eg, em, ew, k, wo, ef, eb⟩ := I.goW nn hw hme hb hwk R hs .idle (fun o' R' => ended (c := 19) (v := 0) (by rw [ea]; rfl) (by decide) hwk hpc) c1 c2 rfl rfl rfl
      refine ⟨s', I', eg, .wk rfl e (by rw [if_pos d]; exact ew) k ?_ (fun y a b => by rw [em]; exact c3 y a b) (lgE em c4)⟩
      rw [wo, ea, r9_end]; rfl
    · have ea : r.after (gt s.g.m.cs 0) = { r with k := 1, at_ := 10 } := by
        have d0 : ¬ gt s.g.m.cs 0 ≤ 0 := fun z => d (.inl z)
        have dP : ¬ (P : Int) ≤ 1 := fun z => d (.inr (by omega))
        simp [R9.after, R9.told, h1, d0, R9.around, hk, hw', show w64 1 = 1 by decide]; omega
      have at0 : (r.after (gt s.g.m.cs 0)).at_ ≠ 0 := by rw [ea]; exact (by decide : (10 : Int) ≠ 0)
      obtain ⟨s', I', eg, em, ew, k, wo, ef, eb⟩ := I.goW nn hw hme hb hwk R hs (.wc 1) (fun o' R' => ⟨busy2 at0, hwk, hpc, Int.le_refl _, by
        rw [ea] at R'
        exact wakI_of R' (by show (10 : Int) ≠ 0; decide) hb0 hw' hs' (by show (0 : Int) ≤ 1; decide) (by show (1 : Int) < P; omega)⟩) c1 c2 rfl rfl rfl
      exact ⟨s', I', eg, .wk rfl e (by rw [if_neg d]; exact ew) k (wo.trans (wk18 at0)) (fun y a b => by rw [em]; exact c3 y a b) (lgE em c4)⟩
  | wc j =>
    rw [e] at w0
    obtain ⟨hb, hwk, hpc, j1, r, R, hb0, hw', hs', h1, hk, k0, k1⟩ := w0
    have a2 : w64 (w64 2 + j) = 2 + j := addr2 k0 (by omega)
    have rw_ : r.who = j := by unfold R9.who; rw [hs', hk, hw', who0 k0 k1 (by omega)]
    have q : r.req [] = .rq (.cas (2 + j) 1 0) := by simp [R9.req, h1, hb0, rw_, a2]
    by_cases d : gt s.g.m.cs (2 + j) = 1
    · obtain ⟨c1, c2, c3, c4⟩ := lotSet p8 JL wt (c := 2 + j) (v := 0) (by omega) (by omega) (acc s.g.m 2 (2 + j) 1 0 true)
      have hs := r9_some (ds := []) (r := r) (s := s.g.m) (by omega) (by rw [q]; exact cas_ok ⟨by omega, by omega⟩ d)
      have ea : r.after 1 = r.to 11 := by simp [R9.after, R9.told, h1]
      have at0 : (r.after 1).at_ ≠ 0 := by rw [ea]; exact (by decide : (11 : Int) ≠ 0)
      obtain ⟨s', I', eg, em, ew, k, wo, ef, eb⟩ := I.goW nn hw hme hb hwk R hs (.wu j) (fun o' R' => ⟨busy2 at0, hwk, hpc, j1, by
        rw [ea] at R'
        have := wakI_of R' (by show (11 : Int) ≠ 0; decide) hb0 hw' hs' (by show 0 ≤ r.k; omega) (by show r.k < P; omega)
        rw [show (r.to 11).k = j from hk] at this
        exact this⟩) c1 c2 rfl rfl rfl
      exact ⟨s', I', eg, .wc rfl j j1 k1 e d ew k (wo.trans (wk18 at0)) (fun y a b => by rw [em]; exact c3 y a b) (lgE em c4)⟩
    · obtain ⟨c1, c2, c3, c4⟩ := lotGet p8 JL wt (acc s.g.m 2 (2 + j) 1 0 false)
      have hs := r9_some (ds := []) (r := r) (s := s.g.m) (by omega) (by rw [q]; exact cas_no ⟨by omega, by omega⟩ d)
      have wk : w64 (j + 1) = j + 1 := by rw [w64_of] <;> omega
      by_cases d2 : (P : Int) ≤ j + 1
      · have ea : r.after 0 = r.end_ 19 0 := by simp [R9.after, R9.told, h1, R9.around, hk, hw', wk, d2]
        obtain ⟨s', I', eg, em, ew, k, wo, ef, eb⟩ := I.goW nn hw hme hb hwk R hs .idle (fun o' R' => ended (c := 19) (v := 0) (by rw [ea]; rfl) (by decide) hwk hpc) c1 c2 rfl rfl rfl
        refine ⟨s', I', eg, .wn rfl j j1 k1 e d (by rw [if_pos d2]; exact ew) k ?_ (fun y a b => by rw [em]; exact c3 y a b) (lgE em c4)⟩
        rw [wo, ea, r9_end]; rfl
      · have ea : r.after 0 = { r with k := j + 1, at_ := 10 } := by simp [R9.after, R9.told, h1, R9.around, hk, hw', wk, d2]
        have at0 : (r.after 0).at_ ≠ 0 := by rw [ea]; exact (by decide : (10 : Int) ≠ 0)
        obtain ⟨s', I', eg, em, ew, k, wo, ef, eb⟩ := I.goW nn hw hme hb hwk R hs (.wc (j + 1)) (fun o' R' => ⟨busy2 at0, hwk, hpc, by omega, by
          rw [ea] at R'
          exact wakI_of R' (by show (10 : Int) ≠ 0; decide) hb0 hw' hs' (by show 0 ≤ j + 1; omega) (by show j + 1 < P; omega)⟩) c1 c2 rfl rfl rfl
        exact ⟨s', I', eg, .wn rfl j j1 k1 e d (by rw [if_neg d2]; exact ew) k (wo.trans (wk18 at0)) (fun y a b => by rw [em]; exact c3 y a b) (lgE em c4)⟩
  | wu j =>
    rw [e] at w0
    obtain ⟨hb, hwk, hpc, j1, r, R, hb0, hw', hs', h1, hk, k0, k1⟩ := w0
    have q : r.req [] = .add 0 (-1) := by simp [R9.req, h1, hb0]
    obtain ⟨c1, c2, c3, c4⟩ := lotSet p8 JL wt (c := 0) (v := w64 (gt s.g.m.cs 0 + (-1))) (by omega) (by omega) (acc s.g.m 3 0 (-1) (w64 (gt s.g.m.cs 0 + (-1))) true)
    have hs := r9_some (ds := []) (r := r) (s := s.g.m) (by omega) (by rw [q]; exact add_ok ⟨by omega, by omega⟩)
    have ea : r.after (w64 (gt s.g.m.cs 0 + (-1))) = r.end_ 18 r.who := by simp [R9.after, R9.told, h1]
    obtain ⟨s', I', eg, em, ew, k, wo, ef, eb⟩ := I.goW nn hw hme hb hwk R hs .idle (fun o' R' => ended (c := 18) (v := r.who) (by rw [ea]; rfl) (by decide) hwk hpc) c1 c2 rfl rfl rfl
    refine ⟨s', I', eg, .wu rfl j e ew k ?_ (fun y a b => by rw [em]; exact c3 y a b) (lgE em c4)⟩
    rw [wo, ea, r9_end]; rfl
  | fs =>
    rw [e] at w0
    obtain ⟨hb, hwk, hpc, r, R, hb0, hw', hs', h1, hk, k0, k1⟩ := w0
    have q : r.req [] = .rq (.st 1 1) := by simp [R9.req, h1, hb0, show w64 1 = 1 by decide]
    obtain ⟨c1, c2, c3, c4⟩ := lotSet p8 JL wt (c := 1) (v := 1) (by omega) (by omega) (acc s.g.m 1 1 1 0 true)
    have hs := r9_some (ds := []) (r := r) (s := s.g.m) (by omega) (by rw [q]; exact st_ok ⟨by omega, by omega⟩)
    by_cases d : P = 1
    · have ea : r.after 0 = r.end_ 20 0 := by simp [R9.after, R9.told, h1, R9.around, hk, hw', d, show w64 1 = 1 by decide]
      obtain ⟨s', I', eg, em, ew, k, wo, ef, eb⟩ := I.goW nn hw hme hb hwk R hs .idle (fun o' R' => ended (c := 20) (v := 0) (by rw [ea]; rfl) (by decide) hwk hpc) c1 c2 rfl rfl rfl
      refine ⟨s', I', eg, .fs rfl e (by rw [if_pos d]; exact ew) k ?_ (fun y a b => by rw [em]; exact c3 y a b) (lgE em c4)⟩
      rw [wo, ea, r9_end]; rfl
    · have ea : r.after 0 = { r with k := 1, at_ := 14 } := by simp [R9.after, R9.told, h1, R9.around, hk, hw', show w64 1 = 1 by decide]; omega
      have at0 : (r.after 0).at_ ≠ 0 := by rw [ea]; exact (by decide : (14 : Int) ≠ 0)
      obtain ⟨s', I', eg, em, ew, k, wo, ef, eb⟩ := I.goW nn hw hme hb hwk R hs (.fc 1) (fun o' R' => ⟨busy2 at0, hwk, hpc, Int.le_refl _, by
        rw [ea] at R'
        exact wakI_of R' (by show (14 : Int) ≠ 0; decide) hb0 hw' hs' (by show (0 : Int) ≤ 1; decide) (by show (1 : Int) < P; omega)⟩) c1 c2 rfl rfl rfl
      exact ⟨s', I', eg, .fs rfl e (by rw [if_neg d]; exact ew) k (wo.trans (wk18 at0)) (fun y a b => by rw [em]; exact c3 y a b) (lgE em c4)⟩
  | fc j =>
    rw [e] at w0
    obtain ⟨hb, hwk, hpc, j1, r, R, hb0, hw', hs', h1, hk, k0, k1⟩ := w0
    have a2 : w64 (w64 2 + j) = 2 + j := addr2 k0 (by omega)
    have rw_ : r.who = j := by unfold R9.who; rw [hs', hk, hw', who0 k0 k1 (by omega)]
    have q : r.req [] = .rq (.cas (2 + j) 1 0) := by simp [R9.req, h1, hb0, rw_, a2]
    by_cases d : gt s.g.m.cs (2 + j) = 1
    · obtain ⟨c1, c2, c3, c4⟩ := lotSet p8 JL wt (c := 2 + j) (v := 0) (by omega) (by omega) (acc s.g.m 2 (2 + j) 1 0 true)
      have hs := r9_some (ds := []) (r := r) (s := s.g.m) (by omega) (by rw [q]; exact cas_ok ⟨by omega, by omega⟩ d)
      have ea : r.after 1 = r.to 15 := by simp [R9.after, R9.told, h1]
      have at0 : (r.after 1).at_ ≠ 0 := by rw [ea]; exact (by decide : (15 : Int) ≠ 0)
      obtain ⟨s', I', eg, em, ew, k, wo, ef, eb⟩ := I.goW nn hw hme hb hwk R hs (.fu j) (fun o' R' => ⟨busy2 at0, hwk, hpc, j1, by
        rw [ea] at R'
        have := wakI_of R' (by show (15 : Int) ≠ 0; decide) hb0 hw' hs' (by show 0 ≤ r.k; omega) (by show r.k < P; omega)
        rw [show (r.to 15).k = j from hk] at this
        exact this⟩) c1 c2 rfl rfl rfl
      exact ⟨s', I', eg, .fc rfl j j1 k1 e d ew k (wo.trans (wk18 at0)) (fun y a b => by rw [em]; exact c3 y a b) (lgE em c4)⟩
    · obtain ⟨c1, c2, c3, c4⟩ := lotGet p8 JL wt (acc s.g.m 2 (2 + j) 1 0 false)
      have hs := r9_some (ds := []) (r := r) (s := s.g.m) (by omega) (by rw [q]; exact cas_no ⟨by omega, by omega⟩ d)
      have wk : w64 (j + 1) = j + 1 := by rw [w64_of] <;> omega
      by_cases d2 : (P : Int) ≤ j + 1
      · have ea : r.after 0 = r.end_ 20 0 := by simp [R9.after, R9.told, h1, R9.around, hk, hw', wk, d2]
        obtain ⟨s', I', eg, em, ew, k, wo, ef, eb⟩ := I.goW nn hw hme hb hwk R hs .idle (fun o' R' => ended (c := 20) (v := 0) (by rw [ea]; rfl) (by decide) hwk hpc) c1 c2 rfl rfl rfl
        refine ⟨s', I', eg, .fn rfl j j1 k1 e d (by rw [if_pos d2]; exact ew) k ?_ (fun y a b => by rw [em]; exact c3 y a b) (lgE em c4)⟩
        rw [wo, ea, r9_end]; rfl
      · have ea : r.after 0 = { r with k := j + 1, at_ := 14 } := by simp [R9.after, R9.told, h1, R9.around, hk, hw', wk, d2]
        have at0 : (r.after 0).at_ ≠ 0 := by rw [ea]; exact (by decide : (14 : Int) ≠ 0)
        obtain ⟨s', I', eg, em, ew, k, wo, ef, eb⟩ := I.goW nn hw hme hb hwk R hs (.fc (j + 1)) (fun o' R' => ⟨busy2 at0, hwk, hpc, by omega, by
          rw [ea] at R'
          exact wakI_of R' (by show (14 : Int) ≠ 0; decide) hb0 hw' hs' (by show 0 ≤ j + 1; omega) (by show j + 1 < P; omega)⟩) c1 c2 rfl rfl rfl
        exact ⟨s', I', eg, .fn rfl j j1 k1 e d (by rw [if_neg d2]; exact ew) k (wo.trans (wk18 at0)) (fun y a b => by rw [em]; exact c3 y a b) (lgE em c4)⟩
  | fu j =>
    rw [e] at w0
    obtain ⟨hb, hwk, hpc, j1, r, R, hb0, hw', hs', h1, hk, k0, k1⟩ := w0
    have q : r.req [] = .add 0 (-1) := by simp [R9.req, h1, hb0]
    obtain ⟨c1, c2, c3, c4⟩ := lotSet p8 JL wt (c := 0) (v := w64 (gt s.g.m.cs 0 + (-1))) (by omega) (by omega) (acc s.g.m 3 0 (-1) (w64 (gt s.g.m.cs 0 + (-1))) true)
    have hs := r9_some (ds := []) (r := r) (s := s.g.m) (by omega) (by rw [q]; exact add_ok ⟨by omega, by omega⟩)
    have wk : w64 (j + 1) = j + 1 := by rw [w64_of] <;> omega
    by_cases d2 : (P : Int) ≤ j + 1
    · have ea : r.after (w64 (gt s.g.m.cs 0 + (-1))) = r.end_ 20 0 := by simp [R9.after, R9.told, h1, R9.around, hk, hw', wk, d2]
      obtain ⟨s', I', eg, em, ew, k, wo, ef, eb⟩ := I.goW nn hw hme hb hwk R hs .idle (fun o' R' => ended (c := 20) (v := 0) (by rw [ea]; rfl) (by decide) hwk hpc) c1 c2 rfl rfl rfl
      refine ⟨s', I', eg, .fu rfl j j1 k1 e (by rw [if_pos d2]; exact ew) k ?_ (fun y a b => by rw [em]; exact c3 y a b) (lgE em c4)⟩
      rw [wo, ea, r9_end]; rfl
    · have ea : r.after (w64 (gt s.g.m.cs 0 + (-1))) = { r with k := j + 1, at_ := 14 } := by simp [R9.after, R9.told, h1, R9.around, hk, hw', wk, d2]
      have at0 : (r.after (w64 (gt s.g.m.cs 0 + (-1)))).at_ ≠ 0 := by rw [ea]; exact (by decide : (14 : Int) ≠ 0)
      obtain ⟨s', I', eg, em, ew, k, wo, ef, eb⟩ := I.goW nn hw hme hb hwk R hs (.fc (j + 1)) (fun o' R' => ⟨busy2 at0, hwk, hpc, by omega, by
        rw [ea] at R'
        exact wakI_of R' (by show (14 : Int) ≠ 0; decide) hb0 hw' hs' (by show 0 ≤ j + 1; omega) (by show j + 1 < P; omega)⟩) c1 c2 rfl rfl rfl
      exact ⟨s', I', eg, .fu rfl j j1 k1 e (by rw [if_neg d2]; exact ew) k (wo.trans (wk18 at0)) (fun y a b => by rw [em]; exact c3 y a b) (lgE em c4)⟩
end
inductive PickR (first most : Int) (P : Nat) (N : Int) (s : PkS) (who : Nat) (s' : PkS) : Prop
  | none (q : (who = 0 ∧ s.wm = .idle ∧ s.g.todos = []) ∨ (who ≠ 0 ∧ s.sm who = .halt)) (e : s' = { s with g := s.g.whoS who })
  | go (s1 : PkS) (I1 : PkI first most P s1 N) (k : KeepM s s1) (p : PrkR most s who s1) (a : Act s1 who) (r : PgoR first most P N s1 who s')
theorem PkI.up {first most : Int} {P : Nat} {s : PkS} {N : Int} (I : PkI first most P s N) (nn : N + 1 ≤ 1000000000) : PkI first most P s (N + 1) :=
  { I with mem := I.mem.lot nn (fun _ _ => rfl) rfl rfl rfl }
theorem PkI.pick {first most : Int} {P : Nat} {s : PkS} {N : Int} (I : PkI first most P s N) (nn : N + 1 ≤ 1000000000) {who : Nat} (hw : who < P) : ∃ s', PkI first most P s' (N + 1) ∧ s'.g = s.g.pick (P : Int) (dsP first most P) who ∧ PickR first most P N s who s' := by
  rcases I.pre hw with ⟨q, e⟩ | ⟨s1, I1, k, p, hme, a, e⟩
  · exact ⟨_, (I.whoS who).up nn, e.symm, .none q rfl⟩
  · by_cases w : who = 0
    · subst w
      rw [if_pos rfl] at e
      obtain ⟨s', I', eg, G⟩ := I1.goS0 nn hme (a.1 rfl)
      exact ⟨s', I', eg.trans e.symm, .go s1 I1 k p a G⟩
    · rw [if_neg w] at e
      obtain ⟨s', I', eg, G⟩ := I1.goSl nn hw hme w (a.2 w)
      exact ⟨s', I', eg.trans e.symm, .go s1 I1 k p a G⟩
end Go.Mx

namespace Go.Mx

section
variable {first most : Int} (hc : CapE first most) {P : Nat} (p1 : 1 ≤ P)
include hc
theorem layP_len' (i : Nat) : ((layP first most P (i + 1)).1.length : Int) = othP first P ((i : Int) + 1) ∧ ((layP first most P 0).1.length : Int) = 2 + (P : Int) := by
  refine ⟨?_, ?_⟩
  · rw [(layP_len (most := most) hc.1 P (i + 1)).1, if_neg (Nat.succ_ne_zero i)]
    unfold othP midP; omega
  · rw [(layP_len (most := most) hc.1 P 0).1]
    show 2 + (P : Int) + 0 = _; omega
theorem layP_step (i : Nat) {y : Int} (hy : 0 ≤ y) : gt (layP first most P (i + 1)).1 y = if y = ((layP first most P i).1.length : Int) + 3 then lows first i else if y = ((layP first most P i).1.length : Int) + 2 then ((layP first most P i).1.length : Int) + 3 else gt (layP first most P i).1 y := by
  have l1 : 1 ≤ lows first i := by have := hc.1; unfold lows; split <;> omega
  exact gt_laid l1 hy
theorem layP_lot : ∀ (i : Nat) {y : Int}, 0 ≤ y → y < 2 + (P : Int) → gt (layP first most P i).1 y = 0
  | 0, y, _, _ => by
    show gt (List.replicate (2 + P) (0 : Int)) y = 0
    have := gt_app [] (2 + P) y
    rw [List.nil_append] at this
    rw [this]; rfl
  | i + 1, y, h0, h1 => by
    have hl : 2 + (P : Int) ≤ ((layP first most P i).1.length : Int) := by
      cases i with
      | zero => rw [(layP_len' hc (P := P) 0).2]; exact Int.le_refl _
      | succ i =>
        rw [(layP_len' hc (P := P) i).1]
        have := hc.1
        unfold othP midP; omega
    rw [layP_step hc i h0, if_neg (by omega), if_neg (by omega)]
    exact layP_lot i h0 h1
theorem layP_dq : ∀ (i : Nat) {x : Int}, 0 ≤ x → x < 4 + first → gt (layP first most P (i + 1)).1 (2 + (P : Int) + x) = if x = 3 then first else if x = 2 then 2 + (P : Int) + 3 else 0
  | 0, x, h0, h1 => by
    rw [layP_step hc 0 (by omega), (layP_len' hc (P := P) 0).2]
    have z : gt (layP first most P 0).1 (2 + (P : Int) + x) = 0 := gt_big (by rw [(layP_len' hc (P := P) 0).2]; omega)
    rw [z]
    by_cases e : x = 3
    · subst e; rw [if_pos rfl, if_pos rfl]; rfl
    · rw [if_neg (by omega), if_neg e]
      by_cases e2 : x = 2
      · subst e2; rw [if_pos rfl, if_pos rfl]
      · rw [if_neg (by omega), if_neg e2]
  | i + 1, x, h0, h1 => by
    have hl := (layP_len' hc (P := P) i).1
    have f1 := hc.1
    rw [layP_step hc (i + 1) (by omega), hl]
    have : 2 + (P : Int) + x < othP first P ((i : Int) + 1) := by unfold othP midP; omega
    rw [if_neg (by omega), if_neg (by omega)]
    exact layP_dq i h0 h1
theorem layP_oth : ∀ (i : Nat) {j : Int}, 1 ≤ j → j < (i : Int) + 1 → gt (layP first most P (i + 1)).1 (othP first P j) = 0 ∧ gt (layP first most P (i + 1)).1 (othP first P j + 1) = 0
  | 0, j, h0, h1 => absurd h1 (by omega)
  | i + 1, j, h0, h1 => by
    have hl := (layP_len' hc (P := P) i).1
    have f1 := hc.1
    have o0 : 0 ≤ othP first P j := by unfold othP midP; omega
    rw [layP_step hc (i + 1) o0, layP_step hc (i + 1) (show 0 ≤ othP first P j + 1 by omega), hl]
    by_cases e : j < (i : Int) + 1
    · have : othP first P j + 1 < othP first P ((i : Int) + 1) := by unfold othP; omega
      rw [if_neg (by omega), if_neg (by omega), if_neg (by omega), if_neg (by omega)]
      exact layP_oth i h0 e
    · obtain rfl : j = (i : Int) + 1 := by omega
      rw [if_neg (by omega), if_neg (by omega), if_neg (by omega), if_neg (by omega)]
      exact ⟨gt_big (by omega), gt_big (by omega)⟩
def pk0 (first most : Int) (P : Nat) (todos : List DTd) : PkS := ⟨pg0 first most P todos, alone0 first most, DOp.zero, fun x => 2 + (P : Int) + x, [3], fun _ => DOp.zero, .idle, fun _ => .idle⟩
include p1
theorem pk0_I (p8 : P ≤ 8) (todos : List DTd) : PkI first most P (pk0 first most P todos) 0 := by
  obtain ⟨i, rfl⟩ : ∃ i, P = i + 1 := ⟨P - 1, by omega⟩
  have c1 := hc.1
  have c2 := hc.2
  have hl := (layP_len' hc (P := i + 1) i).1
  have al : ((alone0 first most).cs.length : Int) = 4 + first := by show ((laid first []).length : Int) = _; rw [laid_len first c1]
  have ag : ∀ {y}, 0 ≤ y → gt (alone0 first most).cs y = if y = 3 then first else if y = 2 then 3 else 0 := fun {y} h => alone0_gt hc h
  have hs := szP_le hc (P := i + 1) p8
  have hb := cellsOf_bound hc
  have j1 : ((pg0 first most (i + 1) todos).m.cs.length : Int) = othP first (i + 1) ((i : Int) + 1) := hl
  have jg : ∀ y, gt (pg0 first most (i + 1) todos).m.cs y = gt (layP first most (i + 1) (i + 1)).1 y := fun _ => rfl
  have hsz : szP first most (i + 1) = 2 + ((i + 1 : Nat) : Int) + cellsOf first most + (((i + 1 : Nat) : Int) - 1) * 5 := rfl
  have g2 : gt (alone0 first most).cs 2 = 3 := by rw [ag (by decide)]; rfl
  have g3 : gt (alone0 first most).cs 3 = first := by rw [ag (by decide)]; rfl
  have ea : ∀ k, (pg0 first most (i + 1) todos).act k = GAct.zero := fun k => by
    show (List.replicate (i + 1) GAct.zero)[k]?.getD GAct.zero = _
    cases e : (List.replicate (i + 1) GAct.zero)[k]? with
    | none => rfl
    | some y => exact (List.mem_replicate.1 (List.mem_of_getElem? e)).2
  have D0 : DS most (cellsOf first most) 0 (alone0 first most) [] := DS.start hc _ rfl rfl
  have oth : othP first (i + 1) ((i : Int) + 1) = midP first (i + 1) + 5 * (((i + 1 : Nat) : Int) - 1) := by unfold othP; omega
  have E : Emb (alone0 first most).cs (pg0 first most (i + 1) todos).m.cs (2 + ((i + 1 : Nat) : Int)) fun x => 2 + ((i + 1 : Nat) : Int) + x := by
    refine ⟨by omega, rfl, rfl, by rw [al]; omega, by rw [j1, oth]; unfold midP; omega, fun x a b => ?_, fun x y _ _ _ _ q => by omega, fun x a b n => ?_, ?_⟩
    · rw [al] at b
      rw [j1, oth]
      unfold midP; omega
    · rw [al] at b
      rw [jg, layP_dq hc i a b, ag a]
      by_cases e : x = 3
      · rw [if_pos e, if_pos e]
      · rw [if_neg e, if_neg n, if_neg e, if_neg n]
    · rw [jg, layP_dq hc i (by decide) (by omega), g2]; rfl
  refine ⟨⟨by omega, p8, hc, ⟨E, D0.dg, rfl, .idle rfl, fun q => absurd rfl q, ⟨?_, ?_, ?_, fun q => absurd (show (0 : Int) = 1 from q) (by decide)⟩, fun q => absurd rfl q⟩, ?_, ?_, rfl, fun x a b => ?_, ?_, fun j a b => ?_⟩, ?_, ?_, fun k a b => ?_, fun k a b => .zero, fun k a b _ _ q => (by cases q)⟩
  · show gt (alone0 first most).cs 2 ∈ [3]; rw [g2]; exact List.mem_singleton.2 rfl
  · intro s hs
    obtain rfl := List.mem_singleton.1 hs
    exact ⟨by decide, by rw [show (pk0 first most (i + 1) todos).A = alone0 first most from rfl, g3]; omega, by rw [show (pk0 first most (i + 1) todos).A = alone0 first most from rfl, g3]; omega, .inl g2.symm⟩
  · intro s hs
    obtain rfl := List.mem_singleton.1 hs
    show Aff (alone0 first most).cs _ 3 (gt (alone0 first most).cs 3)
    rw [g3]
    exact ⟨by decide, by rw [al]; omega, fun j a b => by show 2 + ((i + 1 : Nat) : Int) + (3 + j) = 2 + ((i + 1 : Nat) : Int) + 3 + j; omega⟩
  · show cellsOf first most - ((alone0 first most).cs.length : Int) ≤ szP first most (i + 1) - ((pg0 first most (i + 1) todos).m.cs.length : Int)
    rw [al, j1, hsz, oth]; unfold midP; omega
  · show szP first most (i + 1) ≤ 1048576; omega
  · rw [show (pk0 first most (i + 1) todos).A = alone0 first most from rfl, al] at b
    show 2 + ((i + 1 : Nat) : Int) ≤ 2 + ((i + 1 : Nat) : Int) + x ∧ _
    exact ⟨by omega, .inl (by show 2 + ((i + 1 : Nat) : Int) + x < _; unfold midP; omega)⟩
  · show _ ≤ ((pg0 first most (i + 1) todos).m.cs.length : Int)
    rw [j1, oth]; exact Int.le_refl _
  · exact layP_oth hc i a (by omega)
  · show (List.replicate (i + 1) GAct.zero).length = i + 1
    exact List.length_replicate
  · show W0I _ _ _ ((pg0 first most (i + 1) todos).act 0) DOp.zero .idle
    rw [ea]; exact ⟨rfl, rfl, rfl⟩
  · show SlI _ _ _ _ k ((pg0 first most (i + 1) todos).act k) DOp.zero .idle
    rw [ea]; exact ⟨rfl, rfl, rfl, rfl⟩
end
theorem park_run {first most : Int} {P : Nat} (Inv : List Nat → PkS → Prop) : ∀ (ws vs : List Nat) {s : PkS} {N : Int}, PkI first most P s N → Inv vs s → N + (ws.length : Int) ≤ 1000000000 → (∀ w ∈ ws, w < P) →
    (∀ (vs : List Nat) (w : Nat) (s s' : PkS) (N : Int), w < P → PkI first most P s N → Inv vs s → PkI first most P s' (N + 1) → PickR first most P N s w s' → Inv (vs ++ [w]) s') →
    ∃ s', s'.g = s.g.run (P : Int) (dsP first most P) ws ∧ PkI first most P s' (N + (ws.length : Int)) ∧ Inv (vs ++ ws) s'
  | [], vs, s, N, I, h, _, _, _ => ⟨s, rfl, by show PkI first most P s (N + 0); rw [Int.add_zero]; exact I, by rw [List.append_nil]; exact h⟩
  | w :: ws, vs, s, N, I, h, hN, hw, hs => by
    have hl : ((w :: ws).length : Int) = (ws.length : Int) + 1 := by simp
    obtain ⟨s1, I1, e1, R⟩ := I.pick (by omega) (hw w (by simp))
    obtain ⟨s', e', I', h'⟩ := park_run Inv ws (vs ++ [w]) I1 (hs vs w s s1 N (hw w (by simp)) I h I1 R) (by omega) (fun x hx => hw x (by simp [hx])) hs
    refine ⟨s', by rw [e', e1]; rfl, ?_, ?_⟩
    · rw [hl, show N + ((ws.length : Int) + 1) = N + 1 + (ws.length : Int) from by omega]; exact I'
    · rw [List.append_assoc] at h'
      exact h'
section
variable {first most : Int} {P : Nat} {s : PkS} {N : Int} (I : PkI first most P s N)
include I
theorem PkI.t0 : gt s.g.m.cs (2 + (P : Int)) = gt s.A.cs 0 ∧ gt s.g.m.cs (2 + (P : Int) + 1) = gt s.A.cs 1 ∧ gt s.g.m.cs (2 + (P : Int) + 2) = s.f (cA s.A.cs) := by
  have E := I.mem.dv.emb
  have a3 := E.a3
  have c0 := E.cell 0 (by decide) (by omega) (by decide)
  have c1 := E.cell 1 (by decide) (by omega) (by decide)
  have c2 := E.buf
  rw [E.b0] at c0
  rw [E.b1] at c1
  rw [E.b2] at c2
  exact ⟨c0, c1, c2⟩
theorem PkI.bl1 : gt s.A.cs 1 ≤ Bl s.A.cs s.own := by
  have g := I.mem.dv.dg
  by_cases l : lowered s.own
  · have := I.mem.dv.os.low l
    rw [Bl_lo l]; omega
  · rw [Bl_up l]; exact Int.le_refl _
theorem PkI.told (hN : N ≤ 1000000000) : ToldOk s.g.m.cs (2 + (P : Int)) (P : Int) := by
  obtain ⟨t0, t1, t2⟩ := I.t0
  have E := I.mem.dv.emb
  have a3 := E.a3
  have g := I.mem.dv.dg
  have K := I.mem.dv.ki
  have Af : Aff s.A.cs s.f (cA s.A.cs) (cC s.A.cs) := K.af _ K.cur
  have g7 := g.a3
  have c1 := g.c1
  have nw := newer_nn I.mem.dv.os g.c1 g.cm
  have ra := E.rng (cA s.A.cs) (by omega) (by have := Af.2.1; omega)
  have rb := E.rng (cA s.A.cs + cC s.A.cs) (by omega) Af.2.1
  rw [Af.2.2 (cC s.A.cs) (by omega) (Int.le_refl _)] at rb
  have hd : gt s.g.m.cs (s.f (cA s.A.cs)) = cC s.A.cs := E.cell _ (by omega) (by have := Af.2.1; omega) (by omega)
  have jl := I.mem.jl
  have f1 := I.mem.cap.1
  have p1 := I.mem.p1
  have ejl := E.jl
  refine ⟨by omega, by have := I.mem.p8; omega, Int.le_refl _, by unfold midP at jl; omega, by omega, by rw [t0]; exact g.t0, ?_, by rw [t2]; exact ra.1, by rw [t2, hd]; exact c1, by rw [t2, hd]; omega⟩
  rw [t1]
  have := I.bl1
  have := g.bn
  omega
theorem PkI.left (hN : N ≤ 1000000000) : leftOf s.g.m.cs (2 + (P : Int)) = ctn s.A.cs := by
  obtain ⟨t0, t1, t2⟩ := I.t0
  have E := I.mem.dv.emb
  have a3 := E.a3
  have g := I.mem.dv.dg
  have K := I.mem.dv.ki
  have Af : Aff s.A.cs s.f (cA s.A.cs) (cC s.A.cs) := K.af _ K.cur
  have g7 := g.a3
  have c1 := g.c1
  have hd : gt s.g.m.cs (s.f (cA s.A.cs)) = cC s.A.cs := E.cell _ (by omega) (by have := Af.2.1; omega) (by omega)
  unfold leftOf ctn
  rw [t0, t1]
  refine List.map_congr_left fun k _ => ?_
  unfold leftAt
  rw [t2, hd]
  have pr := pl_range (a := cA s.A.cs) (i := gt s.A.cs 0 + (k : Int)) c1
  have := Af.at (x := pl (cA s.A.cs) (cC s.A.cs) (gt s.A.cs 0 + (k : Int))) (by omega) (by omega)
  have c := E.cell (pl (cA s.A.cs) (cC s.A.cs) (gt s.A.cs 0 + (k : Int))) (by omega) (by have := Af.2.1; omega) (by omega)
  rw [this] at c
  show _ = gt s.A.cs (pl (cA s.A.cs) (cC s.A.cs) _)
  rw [← c]
  congr 1
  unfold pl; omega
theorem PkI.flag (i : Nat) : (flagsOf s.g.m.cs P).length = P ∧ (i < P → (flagsOf s.g.m.cs P)[i]? = some (FLc s (i : Int))) := by
  unfold flagsOf
  refine ⟨by rw [List.length_map, List.length_range], fun h => ?_⟩
  rw [List.getElem?_map, List.getElem?_range h]; rfl
theorem PkI.state {i : Nat} (i1 : 1 ≤ i) (i2 : i < P) : (s.g.act i).state = match s.sm i with | .halt => 3 | .pend => 2 | .steal => 2 | .park => 1 | _ => 0 := by
  have h := I.sl i i1 i2
  have park : ∀ {m : SM}, ResI (P : Int) (dsP first most P) i (s.g.act i).lot m → (s.g.act i).lot.parked = decide (m = .park) := fun {m} h => by
    obtain ⟨r, R, _, _, _, hi⟩ := h
    have e := (RelP.answer (.inr R)).2
    rw [e]
    unfold R9.parked
    rw [Bool.eq_iff_iff, decide_eq_true_eq, decide_eq_true_eq]
    cases m <;> simp only [R9.is] at hi <;> constructor <;> intro q <;> first | omega | (cases q; done) | rfl
  unfold GAct.state
  cases e : s.sm i <;> rw [e] at h <;> simp only [SlI] at h
  case idle => obtain ⟨h1, h2, h3, _⟩ := h; simp [h1, h2, h3]
  case pend => obtain ⟨h1, h2, h3, _⟩ := h; simp [h1, h2, h3]
  case halt => obtain ⟨h1, h2, h3, _⟩ := h; simp [h1, h2, h3]
  case steal => obtain ⟨h1, h2, h3, _⟩ := h; simp [h1, h2, h3]
  all_goals
    obtain ⟨h1, h2, h3, _, hr⟩ := h
    have := park hr
    simp [h1, h2, h3, this]
theorem PkI.between : (decide ((s.g.act 0).busy = 0) && !(s.g.act 0).wakes) = true ↔ s.wm = .idle := by
  have h := I.w0
  cases e : s.wm <;> rw [e] at h <;> simp only [W0I] at h <;> obtain ⟨h1, h2, _⟩ := h <;> simp [h1, h2]
end
end Go.Mx

namespace Go.Mx

def sumN (w : Nat → Int) : Nat → Int
  | 0 => 0
  | n + 1 => sumN w n + w (n + 1)
theorem sumN_congr {w w' : Nat → Int} : ∀ {n : Nat}, (∀ j, 1 ≤ j → j ≤ n → w' j = w j) → sumN w' n = sumN w n
  | 0, _ => rfl
  | n + 1, h => by
    show sumN w' n + w' (n + 1) = sumN w n + w (n + 1)
    rw [sumN_congr fun j a b => h j a (by omega), h (n + 1) (by omega) (Nat.le_refl _)]
theorem sumN_upd {w w' : Nat → Int} {i : Nat} : ∀ {n : Nat}, (∀ j, 1 ≤ j → j ≤ n → j ≠ i → w' j = w j) → 1 ≤ i → i ≤ n → sumN w' n = sumN w n + (w' i - w i)
  | 0, _, a, b => absurd a (by omega)
  | n + 1, h, a, b => by
    show sumN w' n + w' (n + 1) = sumN w n + w (n + 1) + _
    by_cases e : i = n + 1
    · subst e
      rw [sumN_congr (w := w) (w' := w') fun j c d => h j c (by omega) (by omega)]; omega
    · rw [sumN_upd (w := w) (w' := w') (fun j c d => h j c (by omega)) a (by omega), h (n + 1) (by omega) (Nat.le_refl _) (by omega)]; omega
theorem sumN_bd {w : Nat → Int} : ∀ {n : Nat}, (∀ j, 1 ≤ j → j ≤ n → -1 ≤ w j ∧ w j ≤ 1) → -(n : Int) ≤ sumN w n ∧ sumN w n ≤ n
  | 0, _ => ⟨Int.le_refl _, Int.le_refl _⟩
  | n + 1, h => by
    have a := sumN_bd (n := n) fun j c d => h j c (by omega)
    have b := h (n + 1) (by omega) (Nat.le_refl _)
    show -((n + 1 : Nat) : Int) ≤ sumN w n + w (n + 1) ∧ sumN w n + w (n + 1) ≤ ((n + 1 : Nat) : Int)
    omega
theorem sumN_const {w : Nat → Int} {c : Int} : ∀ {n : Nat}, (∀ j, 1 ≤ j → j ≤ n → w j = c) → sumN w n = n * c
  | 0, _ => by show (0 : Int) = ((0 : Nat) : Int) * c; rw [Int.natCast_zero, Int.zero_mul]
  | n + 1, h => by
    show sumN w n + w (n + 1) = _
    rw [sumN_const fun j a b => h j a (by omega), h (n + 1) (by omega) (Nat.le_refl _)]
    rw [show (((n + 1 : Nat) : Int)) = (n : Int) + 1 from by omega, Int.add_mul, Int.one_mul]
theorem ite_at {α : Type} (f : Nat → α) (i j : Nat) : (if j = i then f i else f j) = f j := by
  split
  · rename_i e; rw [e]
  · rfl
def wS (m : SM) (f : Int) : Int := match m with
  | .cnt => f - 1
  | .ask => f
  | .look _ _ _ => f
  | .park => f
  | .back _ => f
  | .less _ => 1
  | _ => 0
def debt (m : WM) : Int := match m with
  | .wu _ => 1
  | .fu _ => 1
  | _ => 0
def SM.down (m : SM) : Prop := match m with
  | .idle => True
  | .pend => True
  | .on => True
  | .less _ => True
  | .steal => True
  | .halt => True
  | _ => False
structure FlagI (P : Nat) (s : PkS) : Prop where
  f01 : ∀ i : Nat, 1 ≤ i → i < P → FLc s (i : Int) = 0 ∨ FLc s (i : Int) = 1
  f0 : FLc s 0 = 0
  fz : ∀ i : Nat, 1 ≤ i → i < P → (s.sm i).down → FLc s (i : Int) = 0
  sl : SLc s = sumN (fun i => wS (s.sm i) (FLc s (i : Int))) (P - 1) + debt s.wm
  dn : DNc s = 0 ∨ DNc s = 1
theorem wS_bd {m : SM} {f : Int} (h : f = 0 ∨ f = 1) : -1 ≤ wS m f ∧ wS m f ≤ 1 := by
  cases m <;> simp only [wS] <;> omega
section
variable {P : Nat} {s s' : PkS} (h : FlagI P s)
include h
theorem FlagI.bd (p8 : P ≤ 8) : -8 ≤ SLc s ∧ SLc s ≤ 9 := by
  have a := sumN_bd (w := fun i => wS (s.sm i) (FLc s (i : Int))) (n := P - 1) fun j c d => wS_bd (h.f01 j c (by omega))
  have e := h.sl
  have d : 0 ≤ debt s.wm ∧ debt s.wm ≤ 1 := by cases s.wm <;> simp [debt]
  omega
theorem FlagI.upd {i : Nat} (i1 : 1 ≤ i) (i2 : i < P) {m' : SM} {f' : Int} (hs : ∀ j, 1 ≤ j → j < P → s'.sm j = if j = i then m' else s.sm j) (hf : ∀ j : Nat, j < P → FLc s' (j : Int) = if j = i then f' else FLc s (j : Int)) (f01 : f' = 0 ∨ f' = 1) (dz : m'.down → f' = 0)
    (sl : SLc s' = SLc s + (wS m' f' - wS (s.sm i) (FLc s (i : Int))) + (debt s'.wm - debt s.wm)) (dn : DNc s' = 0 ∨ DNc s' = 1) : FlagI P s' := by
  refine ⟨fun j a b => ?_, ?_, fun j a b d => ?_, ?_, dn⟩
  · rw [hf j b]
    split
    · exact f01
    · exact h.f01 j a b
  · have := hf 0 (by omega)
    rw [if_neg (by omega)] at this
    exact this.trans h.f0
  · rw [hs j a b] at d
    rw [hf j b]
    by_cases e : j = i
    · rw [if_pos e] at d ⊢; exact dz d
    · rw [if_neg e] at d ⊢; exact h.fz j a b d
  · have e := sumN_upd (w := fun i => wS (s.sm i) (FLc s (i : Int))) (w' := fun i => wS (s'.sm i) (FLc s' (i : Int))) (i := i) (n := P - 1) (fun j a b n => by
      show wS (s'.sm j) (FLc s' (j : Int)) = _
      rw [hs j a (by omega), hf j (by omega), if_neg n, if_neg n]) i1 (by omega)
    rw [hs i i1 i2, hf i i2, if_pos rfl, if_pos rfl] at e
    have := h.sl
    omega
theorem FlagI.same (hs : ∀ j, 1 ≤ j → j < P → s'.sm j = s.sm j) (hf : ∀ j : Nat, j < P → FLc s' (j : Int) = FLc s (j : Int)) (p1 : 1 ≤ P) (sl : SLc s' = SLc s + (debt s'.wm - debt s.wm)) (dn : DNc s' = 0 ∨ DNc s' = 1) : FlagI P s' := by
  refine ⟨fun j a b => by rw [hf j b]; exact h.f01 j a b, (hf 0 (by omega)).trans h.f0, fun j a b d => by rw [hs j a b] at d; rw [hf j b]; exact h.fz j a b d, ?_, dn⟩
  have e := sumN_congr (w := fun i => wS (s.sm i) (FLc s (i : Int))) (w' := fun i => wS (s'.sm i) (FLc s' (i : Int))) (n := P - 1) (fun j a b => by
    show wS (s'.sm j) (FLc s' (j : Int)) = _
    rw [hs j a (by omega), hf j (by omega)])
  have := h.sl
  omega
theorem FlagI.mode {i : Nat} (i1 : 1 ≤ i) (i2 : i < P) {m' : SM} (hs : s'.sm = updN s.sm i m') (hc : ∀ y, 0 ≤ y → y < 2 + (P : Int) → gt s'.g.m.cs y = gt s.g.m.cs y) (dz : m'.down → FLc s (i : Int) = 0) (w : wS m' (FLc s (i : Int)) = wS (s.sm i) (FLc s (i : Int))) (d : debt s'.wm = debt s.wm) : FlagI P s' := by
  refine h.upd i1 i2 (m' := m') (f' := FLc s (i : Int)) (fun j _ _ => by rw [hs]; rfl) (fun j b => ?_) (h.f01 i i1 i2) dz ?_ ?_
  · show gt _ _ = _
    rw [hc _ (by omega) (by omega)]
    split
    · rename_i e; rw [e]
    · rfl
  · show gt _ _ = _
    rw [hc 0 (by omega) (by omega)]
    show SLc s = SLc s + _ + _; omega
  · show gt _ _ = 0 ∨ gt _ _ = 1
    rw [hc 1 (by omega) (by omega)]; exact h.dn
theorem FlagI.pre {most : Int} {who : Nat} (p1 : 1 ≤ P) (hw : who < P) (k : KeepM s s') (p : PrkR most s who s') : FlagI P s' := by
  have cc : ∀ y, 0 ≤ y → y < 2 + (P : Int) → gt s'.g.m.cs y = gt s.g.m.cs y := fun y _ _ => by rw [k.cs]
  have same : (∀ j, 1 ≤ j → j < P → s'.sm j = s.sm j) → debt s'.wm = debt s.wm → FlagI P s' := fun hs hd =>
    h.same hs (fun j b => cc _ (by omega) (by omega)) p1 (by show gt _ _ = _; rw [cc 0 (by omega) (by omega), hd]; show _ = gt _ _ + _; omega) (by show gt _ _ = 0 ∨ gt _ _ = 1; rw [cc 1 (by omega) (by omega)]; exact h.dn)
  cases p with
  | on o t w sm => exact same (fun j _ _ => by rw [sm]) (by rw [w])
  | push w0 m t ts td td' k w o op th sm => exact same (fun j _ _ => by rw [sm]) (by rw [w, m]; rfl)
  | pop w0 m t ts td td' k k1 w o op th sm => exact same (fun j _ _ => by rw [sm]) (by rw [w, m]; rfl)
  | fin w0 m t ts td td' k k1 w o th sm => exact same (fun j _ _ => by rw [sm]) (by rw [w, m]; rfl)
  | wake w0 m w o th sm => exact same (fun j _ _ => by rw [sm]) (by rw [w, m]; rfl)
  | rest w0 m sm th o w => exact h.mode (by omega) hw sm cc (fun _ => h.fz who (by omega) hw (by rw [m]; trivial)) (by rw [m]; rfl) (by rw [w])
  | steal w0 m sm th o w => exact h.mode (by omega) hw sm cc (fun _ => h.fz who (by omega) hw (by rw [m]; trivial)) (by rw [m]; rfl) (by rw [w])
theorem FlagI.go {first most : Int} {N : Int} {who : Nat} (p1 : 1 ≤ P) (p8 : P ≤ 8) (hw : who < P) (r : PgoR first most P N s who s') : FlagI P s' := by
  obtain ⟨b1, b2⟩ := h.bd p8
  have up : w64 (SLc s + 1) = SLc s + 1 := by rw [w64_of] <;> omega
  have dw : w64 (SLc s + (-1)) = SLc s + (-1) := by rw [w64_of] <;> omega
  have ended : ∀ {b : Bool} {f : Int}, wS (SM.ended b) f = 0 := fun {b f} => by cases b <;> rfl
  have down : ∀ {b : Bool}, (SM.ended b).down := fun {b} => by cases b <;> trivial
  have same : LotS P s s' → (∀ j, 1 ≤ j → j < P → s'.sm j = s.sm j) → debt s'.wm = debt s.wm → FlagI P s' := fun cc hs hd =>
    h.same hs (fun j b => cc _ (by omega) (by omega)) p1 (by show gt _ _ = _; rw [cc 0 (by omega) (by omega), hd]; show _ = gt _ _ + _; omega) (by show gt _ _ = 0 ∨ gt _ _ = 1; rw [cc 1 (by omega) (by omega)]; exact h.dn)
  have fl0 : ∀ {v : Int}, LotC P s s' 0 v → (∀ j : Nat, j < P → FLc s' (j : Int) = FLc s (j : Int)) ∧ SLc s' = v ∧ DNc s' = DNc s := fun {v} c => ⟨fun j b => by
      have := c (2 + (j : Int)) (by omega) (by omega)
      rw [if_neg (by omega)] at this; exact this, by have := c 0 (by omega) (by omega); rw [if_pos rfl] at this; exact this, by have := c 1 (by omega) (by omega); rw [if_neg (by omega)] at this; exact this⟩
  have flF : ∀ {i : Nat} {v : Int}, LotC P s s' (2 + (i : Int)) v → (∀ j : Nat, j < P → FLc s' (j : Int) = if j = i then v else FLc s (j : Int)) ∧ SLc s' = SLc s ∧ DNc s' = DNc s := fun {i v} c => ⟨fun j b => by
      have := c (2 + (j : Int)) (by omega) (by omega)
      by_cases e : j = i
      · rw [if_pos e]; rw [if_pos (by omega)] at this; exact this
      · rw [if_neg e]; rw [if_neg (by omega)] at this; exact this, by have := c 0 (by omega) (by omega); rw [if_neg (by omega)] at this; exact this, by have := c 1 (by omega) (by omega); rw [if_neg (by omega)] at this; exact this⟩
  cases r with
  | on w m m' k c l =>
    obtain ⟨c1, c2, c3⟩ := flF c
    refine h.upd (i := who) (by omega) hw (m' := .cnt) (f' := 1) (fun j _ _ => by rw [m']; rfl) c1 (.inr rfl) (fun q => absurd q id) ?_ (by rw [c3]; exact h.dn)
    rw [c2, k.wm, m]; show _ = SLc s + ((1 - 1) - 0) + _; omega
  | cnt w m m' k c l =>
    obtain ⟨c1, c2, c3⟩ := fl0 c
    refine h.upd (i := who) (by omega) hw (m' := .ask) (f' := FLc s who) (fun j _ _ => by rw [m']; rfl) (fun j b => by rw [c1 j b]; exact (ite_at (fun j : Nat => FLc s (j : Int)) who j).symm) (h.f01 who (by omega) hw) (fun q => absurd q id) ?_ (by rw [c3]; exact h.dn)
    rw [c2, k.wm, m, up]; show _ = SLc s + (FLc s who - (FLc s who - 1)) + _; omega
  | ask w m m' k c l =>
    refine h.mode (i := who) (by omega) hw m' c (fun q => ?_) ?_ (by rw [k.wm])
    · split at q <;> exact absurd q id
    · rw [m]; split <;> rfl
  | look1 w j t j1 j2 m m' k c l => exact h.mode (i := who) (by omega) hw m' c (fun q => absurd q id) (by rw [m]; rfl) (by rw [k.wm])
  | look2 w j t j1 j2 m tt m' k c l =>
    refine h.mode (i := who) (by omega) hw m' c (fun q => ?_) ?_ (by rw [k.wm])
    · split at q
      · exact absurd q id
      split at q <;> exact absurd q id
    · rw [m]
      split
      · rfl
      split <;> rfl
  | park w m m' k c l =>
    have f01 := h.f01 who (by omega) hw
    refine h.mode (i := who) (by omega) hw m' c (fun q => ?_) ?_ (by rw [k.wm])
    · by_cases e : FLc s who = 1
      · rw [if_pos e] at q; exact absurd q id
      · omega
    · rw [m]
      by_cases e : FLc s who = 1
      · rw [if_pos e]
      · rw [if_neg e]
        show (0 : Int) = FLc s who; omega
  | back w b m f m' k c l =>
    obtain ⟨c1, c2, c3⟩ := flF c
    refine h.upd (i := who) (by omega) hw (m' := .less b) (f' := 0) (fun j _ _ => by rw [m']; rfl) c1 (.inl rfl) (fun _ => rfl) ?_ (by rw [c3]; exact h.dn)
    rw [c2, k.wm, m]; show _ = SLc s + (1 - FLc s who) + _; omega
  | fail w b m f m' k c l =>
    have f01 := h.f01 who (by omega) hw
    refine h.mode (i := who) (by omega) hw m' c (fun _ => by omega) ?_ (by rw [k.wm])
    rw [m, ended]; show (0 : Int) = FLc s who; omega
  | less w b m m' k c l =>
    obtain ⟨c1, c2, c3⟩ := fl0 c
    refine h.upd (i := who) (by omega) hw (m' := SM.ended b) (f' := FLc s who) (fun j _ _ => by rw [m']; rfl) (fun j b => by rw [c1 j b]; exact (ite_at (fun j : Nat => FLc s (j : Int)) who j).symm) (h.f01 who (by omega) hw) (fun _ => h.fz who (by omega) hw (by rw [m]; trivial)) ?_ (by rw [c3]; exact h.dn)
    rw [c2, k.wm, m, dw, ended]; show _ = SLc s + (0 - 1) + _; omega
  | steal w m x r k3 o th td wm wk run off c l =>
    by_cases e : x.pc = 0
    · exact h.mode (i := who) (by omega) hw (off e).1 c (fun _ => h.fz who (by omega) hw (by rw [m]; trivial)) (by rw [m]; rfl) (by rw [wm])
    · exact same c (fun j _ _ => by rw [(run e).1]) (by rw [wm])
  | own w m pc r sa th td sm wk run off c l =>
    have d0 : debt s.wm = 0 := by rcases m with ⟨m, _⟩ | ⟨m, _⟩ <;> rw [m] <;> rfl
    refine same c (fun j _ _ => by rw [sm]) ?_
    by_cases e : s'.own.pc = 0
    · rw [(off e).1, d0]; split <;> rfl
    · rw [(run e).1]
  | wk w m m' k wo c l => exact same c (fun j _ _ => by rw [k.sm]) (by rw [m', m]; split <;> rfl)
  | wc w j j1 j2 m f m' k wo c l =>
    obtain ⟨i, rfl⟩ : ∃ i : Nat, j = (i : Int) := ⟨j.toNat, by omega⟩
    obtain ⟨c1, c2, c3⟩ := flF c
    have nd : ¬ (s.sm i).down := fun q => by have := h.fz i (by omega) (by omega) q; omega
    refine h.upd (i := i) (by omega) (by omega) (m' := s.sm i) (f' := 0) (fun j _ _ => by rw [k.sm]; exact (ite_at s.sm i j).symm) c1 (.inl rfl) (fun q => absurd q nd) ?_ (by rw [c3]; exact h.dn)
    rw [c2, m', m, f]
    have : wS (s.sm i) 0 - wS (s.sm i) 1 = -1 := by
      revert nd
      cases s.sm i <;> simp [SM.down, wS]
    rw [this]; show _ = SLc s + -1 + (1 - 0); omega
  | wn w j j1 j2 m f m' k wo c l => exact same c (fun j _ _ => by rw [k.sm]) (by rw [m', m]; split <;> rfl)
  | wu w j m m' k wo c l =>
    obtain ⟨c1, c2, c3⟩ := fl0 c
    refine h.same (fun j _ _ => by rw [k.sm]) c1 p1 ?_ (by rw [c3]; exact h.dn)
    rw [c2, dw, m, m']; show _ = SLc s + (0 - 1); omega
  | fs w m m' k wo c l =>
    have cF : ∀ y : Int, y ≠ 1 → 0 ≤ y → y < 2 + (P : Int) → gt s'.g.m.cs y = gt s.g.m.cs y := fun y n a b => by have := c y a b; rw [if_neg n] at this; exact this
    refine h.same (fun j _ _ => by rw [k.sm]) (fun j b => cF _ (by omega) (by omega) (by omega)) p1 ?_ (.inr ?_)
    · show gt _ _ = _
      rw [cF 0 (by omega) (by omega) (by omega), m, m']
      have : debt (if P = 1 then WM.idle else WM.fc 1) = 0 := by split <;> rfl
      rw [this]; show _ = gt _ _ + (0 - 0); omega
    · have := c 1 (by omega) (by omega); rw [if_pos rfl] at this; exact this
  | fc w j j1 j2 m f m' k wo c l =>
    obtain ⟨i, rfl⟩ : ∃ i : Nat, j = (i : Int) := ⟨j.toNat, by omega⟩
    obtain ⟨c1, c2, c3⟩ := flF c
    have nd : ¬ (s.sm i).down := fun q => by have := h.fz i (by omega) (by omega) q; omega
    refine h.upd (i := i) (by omega) (by omega) (m' := s.sm i) (f' := 0) (fun j _ _ => by rw [k.sm]; exact (ite_at s.sm i j).symm) c1 (.inl rfl) (fun q => absurd q nd) ?_ (by rw [c3]; exact h.dn)
    rw [c2, m', m, f]
    have : wS (s.sm i) 0 - wS (s.sm i) 1 = -1 := by
      revert nd
      cases s.sm i <;> simp [SM.down, wS]
    rw [this]; show _ = SLc s + -1 + (1 - 0); omega
  | fn w j j1 j2 m f m' k wo c l => exact same c (fun j _ _ => by rw [k.sm]) (by rw [m', m]; split <;> rfl)
  | fu w j j1 j2 m m' k wo c l =>
    obtain ⟨c1, c2, c3⟩ := fl0 c
    refine h.same (fun j _ _ => by rw [k.sm]) c1 p1 ?_ (by rw [c3]; exact h.dn)
    have : debt (if (P : Int) ≤ j + 1 then WM.idle else WM.fc (j + 1)) = 0 := by split <;> rfl
    rw [c2, dw, m, m', this]; show _ = SLc s + (0 - 1); omega
theorem FlagI.pick {first most : Int} {N : Int} {who : Nat} (I : PkI first most P s N) (hw : who < P) (r : PickR first most P N s who s') : FlagI P s' := by
  cases r with
  | none q e => subst e; exact h.same (s' := { s with g := s.g.whoS who }) (fun _ _ _ => rfl) (fun _ _ => rfl) I.mem.p1 (by show SLc s = SLc s + (debt s.wm - debt s.wm); omega) h.dn
  | go s1 I1 k p a r => exact (h.pre I.mem.p1 hw k p).go I.mem.p1 I.mem.p8 hw r
end
theorem pk0_flag {first most : Int} (hc : CapE first most) {P : Nat} (p1 : 1 ≤ P) (todos : List DTd) : FlagI P (pk0 first most P todos) := by
  have z : ∀ y, 0 ≤ y → y < 2 + (P : Int) → gt (pk0 first most P todos).g.m.cs y = 0 := fun y a b => layP_lot hc P a b
  refine ⟨fun i a b => .inl (z _ (by omega) (by omega)), z _ (by omega) (by omega), fun i a b _ => z _ (by omega) (by omega), ?_, .inl (z 1 (by omega) (by omega))⟩
  have e : sumN (fun i => wS ((pk0 first most P todos).sm i) (FLc (pk0 first most P todos) (i : Int))) (P - 1) = ((P - 1 : Nat) : Int) * 0 := sumN_const fun j a b => rfl
  rw [e, Int.mul_zero]
  exact z 0 (by omega) (by omega)
def past (P : Nat) (i : Nat) : SM → Prop
  | .park => True
  | .look k _ _ => (P : Int) < (i : Int) + k
  | _ => False
def useless (P : Nat) (s : PkS) (i : Nat) : Prop := FLc s (i : Int) = 1 ∧ past P i (s.sm i)
def LostI (P : Nat) (s : PkS) : Prop := ctn s.A.cs = [] ∨ DNc s = 1 ∨ P = 1 ∨ (∃ i, 1 ≤ i ∧ i < P ∧ ¬ useless P s i) ∨ s.wm = .pend ∨ s.wm = .wk ∨ s.wm = .wc 1
section
variable {P : Nat} {s s' : PkS} (h : LostI P s)
include h
theorem LostI.pre {most : Int} {who : Nat} (k : KeepM s s') (p : PrkR most s who s') : LostI P s' := by
  have cc : ∀ y, gt s'.g.m.cs y = gt s.g.m.cs y := fun y => by rw [k.cs]
  have us : ∀ i, s'.sm i = s.sm i → ¬ useless P s i → ¬ useless P s' i := fun i e n q => n ⟨by rw [← q.1]; exact (cc _).symm, by rw [← e]; exact q.2⟩
  unfold LostI
  rw [k.A, show DNc s' = DNc s from cc 1]
  rcases h with h | h | h | ⟨i, a, b, n⟩ | h
  · exact .inl h
  · exact .inr (.inl h)
  · exact .inr (.inr (.inl h))
  · refine .inr (.inr (.inr (.inl ⟨i, a, b, ?_⟩)))
    cases p with
    | on o t w sm => exact us i (by rw [sm]) n
    | push w0 m t ts td td' k w o op th sm => exact us i (by rw [sm]) n
    | pop w0 m t ts td td' k k1 w o op th sm => exact us i (by rw [sm]) n
    | fin w0 m t ts td td' k k1 w o th sm => exact us i (by rw [sm]) n
    | wake w0 m w o th sm => exact us i (by rw [sm]) n
    | rest w0 m sm th o w =>
      by_cases e : i = who
      · subst e
        intro q
        have := q.2
        rw [sm, updN_at] at this; exact this
      · exact us i (by rw [sm, updN_ne e]) n
    | steal w0 m sm th o w =>
      by_cases e : i = who
      · subst e
        intro q
        have := q.2
        rw [sm, updN_at] at this; exact this
      · exact us i (by rw [sm, updN_ne e]) n
  · refine .inr (.inr (.inr (.inr ?_)))
    cases p with
    | on o t w sm => rw [w]; exact h
    | push w0 m t ts td td' k w o op th sm => rw [m] at h; rcases h with h | h | h <;> cases h
    | pop w0 m t ts td td' k k1 w o op th sm => rw [m] at h; rcases h with h | h | h <;> cases h
    | fin w0 m t ts td td' k k1 w o th sm => rw [m] at h; rcases h with h | h | h <;> cases h
    | wake w0 m w o th sm => exact .inr (.inl w)
    | rest w0 m sm th o w => rw [w]; exact h
    | steal w0 m sm th o w => rw [w]; exact h
theorem LostI.go {first most : Int} {N : Int} {who : Nat} (F : FlagI P s) (p1 : 1 ≤ P) (hw : who < P) (r : PgoR first most P N s who s') : LostI P s' := by
  have slp : who ≠ 0 → s'.A = s.A → DNc s' = DNc s → s'.wm = s.wm → (∀ j : Nat, j < P → j ≠ who → FLc s' (j : Int) = FLc s (j : Int)) → (∀ j, j ≠ who → s'.sm j = s.sm j) → (¬ useless P s who → ¬ useless P s' who ∨ ctn s.A.cs = []) → LostI P s' := fun w eA eD eW eF eS eU => by
    unfold LostI
    rw [eA, eD, eW]
    rcases h with h | h | h | ⟨i, a, b, n⟩ | h
    · exact .inl h
    · exact .inr (.inl h)
    · exact .inr (.inr (.inl h))
    · by_cases e : i = who
      · subst e
        rcases eU n with u | u
        · exact .inr (.inr (.inr (.inl ⟨i, a, b, u⟩)))
        · exact .inl u
      · refine .inr (.inr (.inr (.inl ⟨i, a, b, fun q => n ⟨?_, ?_⟩⟩)))
        · rw [← eF i b e]; exact q.1
        · rw [← eS i e]; exact q.2
    · exact .inr (.inr (.inr (.inr h)))
  have flC : ∀ {c v : Int}, LotC P s s' c v → (∀ j : Nat, j < P → 2 + (j : Int) ≠ c → FLc s' (j : Int) = FLc s (j : Int)) ∧ (c ≠ 1 → DNc s' = DNc s) := fun {c v} q => ⟨fun j b n => by
      have := q (2 + (j : Int)) (by omega) (by omega); rw [if_neg n] at this; exact this, fun n => by have := q 1 (by omega) (by omega); rw [if_neg (by omega)] at this; exact this⟩
  have flS : LotS P s s' → (∀ j : Nat, j < P → FLc s' (j : Int) = FLc s (j : Int)) ∧ DNc s' = DNc s := fun q => ⟨fun j b => q _ (by omega) (by omega), q 1 (by omega) (by omega)⟩
  have npast : ∀ {m : SM}, s'.sm = updN s.sm who m → ¬ past P who m → ¬ useless P s' who := fun {m} e n q => by
    have := q.2
    rw [e, updN_at] at this; exact n this
  have nend : ∀ b, ¬ past P who (SM.ended b) := fun b => by cases b <;> exact id
  have wit : (∀ i : Nat, i < P → FLc s' (i : Int) = FLc s (i : Int) ∨ FLc s' (i : Int) = 0) → s'.sm = s.sm → (ctn s.A.cs = [] → ctn s'.A.cs = []) → (DNc s = 1 → DNc s' = 1) → (ctn s'.A.cs = [] ∨ DNc s' = 1 ∨ P = 1 ∨ (∃ i, 1 ≤ i ∧ i < P ∧ ¬ useless P s' i) ∨ (s.wm ≠ .pend ∧ s.wm ≠ .wk ∧ s.wm ≠ .wc 1)) → LostI P s' := fun eF eS eA eD eW => by
    rcases eW with e | e | e | e | ⟨e1, e2, e3⟩
    · exact .inl e
    · exact .inr (.inl e)
    · exact .inr (.inr (.inl e))
    · exact .inr (.inr (.inr (.inl e)))
    rcases h with h | h | h | ⟨i, a, b, n⟩ | h | h | h
    · exact .inl (eA h)
    · exact .inr (.inl (eD h))
    · exact .inr (.inr (.inl h))
    · refine .inr (.inr (.inr (.inl ⟨i, a, b, fun q => n ⟨?_, ?_⟩⟩)))
      · rcases eF i b with z | z
        · rw [← z]; exact q.1
        · have := q.1; omega
      · rw [← eS]; exact q.2
    · exact absurd h e1
    · exact absurd h e2
    · exact absurd h e3
  cases r with
  | on w m m' k c l =>
    obtain ⟨c1, c2⟩ := flC c
    exact slp w k.A (c2 (by omega)) k.wm (fun j b n => c1 j b (by omega)) (fun j n => by rw [m', updN_ne n]) fun _ => .inl (npast m' id)
  | cnt w m m' k c l =>
    obtain ⟨c1, c2⟩ := flC c
    exact slp w k.A (c2 (by omega)) k.wm (fun j b n => c1 j b (by omega)) (fun j n => by rw [m', updN_ne n]) fun _ => .inl (npast m' id)
  | ask w m m' k c l =>
    obtain ⟨c1, c2⟩ := flS c
    refine slp w k.A c2 k.wm (fun j b _ => c1 j b) (fun j n => by rw [m', updN_ne n]) fun _ => .inl (npast m' fun q => ?_)
    split at q
    · exact q
    · have q : (P : Int) < (who : Int) + 1 := q
      omega
  | look1 w j t j1 j2 m m' k c l =>
    obtain ⟨c1, c2⟩ := flS c
    refine slp w k.A c2 k.wm (fun j b _ => c1 j b) (fun j n => by rw [m', updN_ne n]) fun n => .inl fun q => n ⟨?_, ?_⟩
    · rw [← c1 who hw]; exact q.1
    · have := q.2
      rw [m', updN_at] at this
      rw [m]; exact this
  | look2 w j t j1 j2 m tt m' k c l =>
    obtain ⟨c1, c2⟩ := flS c
    refine slp w k.A c2 k.wm (fun j b _ => c1 j b) (fun j n => by rw [m', updN_ne n]) fun n => ?_
    by_cases pst : (P : Int) < (who : Int) + j
    · refine .inl fun q => n ⟨?_, by rw [m]; exact pst⟩
      rw [← c1 who hw]; exact q.1
    · by_cases d : t < botA s.A.cs (((who : Int) + j) % (P : Int))
      · rw [if_pos d] at m'
        exact .inl (npast m' id)
      · rw [if_neg d] at m'
        by_cases d2 : (P : Int) ≤ j + 1
        · have ej : ((who : Int) + j) % (P : Int) = 0 := by
            rw [show (who : Int) + j = (P : Int) by omega]
            exact Int.emod_self
          rw [ej] at d tt
          have d : ¬ t < gt s.A.cs 1 := d
          have tt : t ≤ gt s.A.cs 0 := tt
          exact .inr (ctn_nil (by omega))
        · rw [if_neg d2] at m'
          by_cases e : (who : Int) + j = (P : Int)
          · rw [e, Int.emod_self] at d tt
            have d : ¬ t < gt s.A.cs 1 := d
            have tt : t ≤ gt s.A.cs 0 := tt
            exact .inr (ctn_nil (by omega))
          · refine .inl (npast m' fun q => ?_)
            have q : (P : Int) < (who : Int) + (j + 1) := q
            omega
  | park w m m' k c l =>
    obtain ⟨c1, c2⟩ := flS c
    refine slp w k.A c2 k.wm (fun j b _ => c1 j b) (fun j n => by rw [m', updN_ne n]) fun n => .inl ?_
    by_cases e : FLc s who = 1
    · exact absurd ⟨e, by rw [m]; trivial⟩ n
    · rw [if_neg e] at m'
      exact npast m' id
  | back w b m f m' k c l =>
    obtain ⟨c1, c2⟩ := flC c
    exact slp w k.A (c2 (by omega)) k.wm (fun j b n => c1 j b (by omega)) (fun j n => by rw [m', updN_ne n]) fun _ => .inl (npast m' id)
  | fail w b m f m' k c l =>
    obtain ⟨c1, c2⟩ := flS c
    exact slp w k.A c2 k.wm (fun j b _ => c1 j b) (fun j n => by rw [m', updN_ne n]) fun _ => .inl (npast m' (nend b))
  | less w b m m' k c l =>
    obtain ⟨c1, c2⟩ := flC c
    exact slp w k.A (c2 (by omega)) k.wm (fun j b n => c1 j b (by omega)) (fun j n => by rw [m', updN_ne n]) fun _ => .inl (npast m' (nend b))
  | steal w m x r k3 o th td wm wk run off c l =>
    obtain ⟨c1, c2⟩ := flS c
    have sm' : ∃ m2 : SM, s'.sm = updN s.sm who m2 ∧ ¬ past P who m2 := by
      by_cases e : x.pc = 0
      · exact ⟨_, (off e).1, id⟩
      · exact ⟨s.sm who, by rw [updN_self]; exact (run e).1, by rw [m]; exact id⟩
    obtain ⟨m2, e2, n2⟩ := sm'
    have wnew : ¬ useless P s' who := npast e2 n2
    exact .inr (.inr (.inr (.inl ⟨who, by omega, hw, wnew⟩)))
  | own w m pc r sa th td sm wk run off c l =>
    obtain ⟨c1, c2⟩ := flS c
    have nw : s.wm ≠ .pend ∧ s.wm ≠ .wk ∧ s.wm ≠ .wc 1 := by rcases m with ⟨m, _⟩ | ⟨m, _⟩ <;> rw [m] <;> simp
    have keep : (ctn s.A.cs = [] → ctn s'.A.cs = []) → LostI P s' := fun q => wit (fun i b => .inl (c1 i b)) sm q (fun e => by rw [c2]; exact e) (.inr (.inr (.inr (.inr nw))))
    cases r.eff with
    | same p c h t => exact keep fun q => by rw [c]; exact q
    | push k p co va c h h' t =>
      have := (off p).1
      rw [if_pos co] at this
      exact .inr (.inr (.inr (.inr (.inl this))))
    | full k p co va c h h' t => exact keep fun q => by rw [c]; exact q
    | low k p h c t => exact keep fun q => by rw [q] at c; exact (List.append_eq_nil_iff.1 c.symm).1
    | got k p co c h h' t => exact keep fun q => by rw [c]; exact q
    | empty k p co va c h h' t => exact keep fun q => by rw [c]; exact q
    | won k p c h t => exact keep fun q => by rw [c]; exact q
  | wk w m m' k wo c l =>
    obtain ⟨c1, c2⟩ := flS c
    by_cases d : SLc s ≤ 0 ∨ P = 1
    · rcases d with d | d
      · refine wit (fun i b => .inl (c1 i b)) k.sm (fun e => by rw [k.A]; exact e) (fun e => by rw [c2]; exact e) ?_
        by_cases eP : P = 1
        · exact .inr (.inr (.inl eP))
        refine .inr (.inr (.inr (.inl (Classical.byContradiction fun q => ?_))))
        have all : ∀ i, 1 ≤ i → i < P → useless P s' i := fun i a b => Classical.byContradiction fun z => q ⟨i, a, b, z⟩
        have e := F.sl
        rw [sumN_const (c := 1) fun j a b => ?_, m] at e
        · have e : SLc s = ((P - 1 : Nat) : Int) * 1 + 0 := e
          omega
        · obtain ⟨u1, u2⟩ := all j a (by omega)
          rw [c1 j (by omega)] at u1
          rw [k.sm] at u2
          show wS (s.sm j) (FLc s (j : Int)) = 1
          rw [u1]
          revert u2
          cases s.sm j <;> simp [past, wS]
      · exact .inr (.inr (.inl d))
    · rw [if_neg d] at m'
      exact .inr (.inr (.inr (.inr (.inr (.inr m')))))
  | wc w j j1 j2 m f m' k wo c l =>
    refine .inr (.inr (.inr (.inl ⟨j.toNat, by omega, by omega, fun q => ?_⟩)))
    have := c (2 + j) (by omega) (by omega)
    rw [if_pos rfl] at this
    have q1 := q.1
    rw [show ((j.toNat : Nat) : Int) = j by omega] at q1
    have q1 : gt s'.g.m.cs (2 + j) = 1 := q1
    omega
  | wn w j j1 j2 m f m' k wo c l =>
    refine .inr (.inr (.inr (.inl ⟨j.toNat, by omega, by omega, fun q => f ?_⟩)))
    have := c (2 + j) (by omega) (by omega)
    have q1 := q.1
    rw [show ((j.toNat : Nat) : Int) = j by omega] at q1
    exact this.symm.trans q1
  | wu w j m m' k wo c l =>
    obtain ⟨c1, c2⟩ := flC c
    exact wit (fun i b => .inl (c1 i b (by omega))) k.sm (fun e => by rw [k.A]; exact e) (fun e => by rw [c2 (by omega)]; exact e) (.inr (.inr (.inr (.inr (by rw [m]; simp)))))
  | fs w m m' k wo c l =>
    have := c 1 (by omega) (by omega)
    rw [if_pos rfl] at this
    exact .inr (.inl this)
  | fc w j j1 j2 m f m' k wo c l =>
    obtain ⟨c1, c2⟩ := flC c
    refine wit (fun i b => ?_) k.sm (fun e => by rw [k.A]; exact e) (fun e => by rw [c2 (by omega)]; exact e) (.inr (.inr (.inr (.inr (by rw [m]; simp)))))
    by_cases e : (i : Int) = j
    · have := c (2 + (i : Int)) (by omega) (by omega)
      rw [if_pos (by omega)] at this
      exact .inr this
    · exact .inl (c1 i b (by omega))
  | fn w j j1 j2 m f m' k wo c l =>
    obtain ⟨c1, c2⟩ := flS c
    exact wit (fun i b => .inl (c1 i b)) k.sm (fun e => by rw [k.A]; exact e) (fun e => by rw [c2]; exact e) (.inr (.inr (.inr (.inr (by rw [m]; simp)))))
  | fu w j j1 j2 m m' k wo c l =>
    obtain ⟨c1, c2⟩ := flC c
    exact wit (fun i b => .inl (c1 i b (by omega))) k.sm (fun e => by rw [k.A]; exact e) (fun e => by rw [c2 (by omega)]; exact e) (.inr (.inr (.inr (.inr (by rw [m]; simp)))))
theorem LostI.pick {first most : Int} {N : Int} {who : Nat} (F : FlagI P s) (I : PkI first most P s N) (hw : who < P) (r : PickR first most P N s who s') : LostI P s' := by
  cases r with
  | none q e => subst e; exact h
  | go s1 I1 k p a r => exact (h.pre k p).go (F.pre I.mem.p1 hw k p) I.mem.p1 hw r
end
end Go.Mx

namespace Go.Mx

def ofW (i : Nat) (e : Acc) : Bool := decide ((e.1 : Int) = (i : Int))
def stpL (lg : List Acc) (i : Nat) : Nat := lg.countP (ofW i)
theorem stp_snoc (lg : List Acc) (e : Acc) (i : Nat) : stpL (lg ++ [e]) i = stpL lg i + if (e.1 : Int) = (i : Int) then 1 else 0 := by
  unfold stpL
  rw [List.countP_append]
  simp [ofW, List.countP_cons]
theorem cnt_snoc (ws : List Nat) (w i : Nat) : (ws ++ [w]).count i = ws.count i + if w = i then 1 else 0 := by
  rw [List.count_append]
  simp [List.count_cons]
def SM.depth : SM → Nat
  | .cnt => 1
  | .ask => 2
  | .look _ _ _ => 3
  | .park => 3
  | .back _ => 3
  | .less _ => 4
  | .halt => 4
  | _ => 0
structure MovI (td0 : List DTd) (P : Nat) (ws : List Nat) (s : PkS) : Prop where
  who : ∀ e ∈ s.g.m.lg, 0 ≤ (e.1 : Int) ∧ (e.1 : Int) < (P : Int)
  run : ∀ i, 1 ≤ i → i < P → s.sm i ≠ .halt → stpL s.g.m.lg i = ws.count i
  hlt : ∀ i, 1 ≤ i → i < P → s.sm i = .halt → stpL s.g.m.lg i ≤ ws.count i ∧ DNc s = 1
  dep : ∀ i, 1 ≤ i → i < P → (s.sm i).depth ≤ stpL s.g.m.lg i
  bt : ∀ i, 1 ≤ i → i < P → (s.sm i = .back true ∨ s.sm i = .less true) → DNc s = 1
  w0 : stpL s.g.m.lg 0 = ws.count 0 ∨ (stpL s.g.m.lg 0 ≤ ws.count 0 ∧ s.g.todos = [] ∧ s.wm = .idle)
  tds : td0.length ≤ s.g.todos.length + stpL s.g.m.lg 0
  lgl : s.g.m.lg.length ≤ ws.length
theorem PgoR.entry {first most : Int} {P : Nat} {N : Int} {s s' : PkS} {who : Nat} (r : PgoR first most P N s who s') : ∃ e, LogE s s' e ∧ (e.1 : Int) = (who : Int) := by
  cases r
  case look1 l => obtain ⟨e, l, q⟩ := l; exact ⟨e, l, q.who⟩
  case look2 l => obtain ⟨e, l, q⟩ := l; exact ⟨e, l, q.who⟩
  case steal l => obtain ⟨e, l, q⟩ := l; exact ⟨e, l, q.who⟩
  case own l => obtain ⟨e, l, q⟩ := l; exact ⟨e, l, q.who⟩
  all_goals
    rename_i l
    exact ⟨_, l, rfl⟩
theorem PgoR.modes {first most : Int} {P : Nat} {N : Int} {s s' : PkS} {who : Nat} (r : PgoR first most P N s who s') :
    (who = 0 → s'.sm = s.sm) ∧ (who ≠ 0 → (∃ m', s'.sm = updN s.sm who m' ∧ m'.depth ≤ (s.sm who).depth + 1 ∧ (m' = .back true ∨ m' = .less true ∨ m' = .halt → DNc s = 1 ∨ s.sm who = .back true ∨ s.sm who = .less true) ∧ (m' = .halt → s.sm who = .back true ∨ s.sm who = .less true)) ∧ s'.wm = s.wm ∧ s'.g.todos = s.g.todos) ∧ s'.g.todos = s.g.todos := by
  cases r with
  | on w m m' k c l => exact ⟨fun q => absurd q w, fun _ => ⟨⟨_, m', by rw [m]; decide, fun q => (by rcases q with q | q | q <;> cases q), fun q => (by cases q)⟩, k.wm, k.todos⟩, k.todos⟩
  | cnt w m m' k c l => exact ⟨fun q => absurd q w, fun _ => ⟨⟨_, m', by rw [m]; decide, fun q => (by rcases q with q | q | q <;> cases q), fun q => (by cases q)⟩, k.wm, k.todos⟩, k.todos⟩
  | ask w m m' k c l =>
    refine ⟨fun q => absurd q w, fun _ => ⟨⟨_, m', ?_, fun q => ?_, fun q => ?_⟩, k.wm, k.todos⟩, k.todos⟩
    · rw [m]; split <;> decide
    · by_cases d : DNc s = 1
      · exact .inl d
      · rw [if_neg d] at q; rcases q with q | q | q <;> cases q
    · split at q <;> cases q
  | look1 w j t j1 j2 m m' k c l => exact ⟨fun q => absurd q w, fun _ => ⟨⟨_, m', by rw [m]; exact (by decide : 3 ≤ 3 + 1), fun q => (by rcases q with q | q | q <;> cases q), fun q => (by cases q)⟩, k.wm, k.todos⟩, k.todos⟩
  | look2 w j t j1 j2 m tt m' k c l =>
    refine ⟨fun q => absurd q w, fun _ => ⟨⟨_, m', ?_, fun q => ?_, fun q => ?_⟩, k.wm, k.todos⟩, k.todos⟩
    · rw [m]
      split
      · exact (by decide : 3 ≤ 3 + 1)
      · split <;> exact (by decide : 3 ≤ 3 + 1)
    · split at q
      · rcases q with q | q | q <;> cases q
      · split at q <;> (rcases q with q | q | q <;> cases q)
    · split at q
      · cases q
      · split at q <;> cases q
  | park w m m' k c l =>
    refine ⟨fun q => absurd q w, fun _ => ⟨⟨_, m', ?_, fun q => ?_, fun q => ?_⟩, k.wm, k.todos⟩, k.todos⟩
    · rw [m]; split <;> decide
    · split at q <;> (rcases q with q | q | q <;> cases q)
    · split at q <;> cases q
  | back w h m f m' k c l =>
    refine ⟨fun q => absurd q w, fun _ => ⟨⟨_, m', by rw [m]; exact (by decide : 4 ≤ 3 + 1), fun q => ?_, fun q => by cases q⟩, k.wm, k.todos⟩, k.todos⟩
    rcases q with q | q | q <;> cases q
    exact .inr (.inl m)
  | fail w h m f m' k c l =>
    refine ⟨fun q => absurd q w, fun _ => ⟨⟨_, m', by rw [m]; cases h <;> decide, fun q => ?_, fun q => ?_⟩, k.wm, k.todos⟩, k.todos⟩
    · cases h
      · rcases q with q | q | q <;> cases q
      · exact .inr (.inl m)
    · cases h
      · cases q
      · exact .inl m
  | less w h m m' k c l =>
    refine ⟨fun q => absurd q w, fun _ => ⟨⟨_, m', by rw [m]; cases h <;> decide, fun q => ?_, fun q => ?_⟩, k.wm, k.todos⟩, k.todos⟩
    · cases h
      · rcases q with q | q | q <;> cases q
      · exact .inr (.inr m)
    · cases h
      · cases q
      · exact .inr m
  | steal w m x r k3 o th td wm wk run off c l =>
    refine ⟨fun q => absurd q w, fun _ => ⟨?_, wm, td⟩, td⟩
    by_cases e : x.pc = 0
    · exact ⟨_, (off e).1, by rw [m]; decide, fun q => (by rcases q with q | q | q <;> cases q), fun q => (by cases q)⟩
    · exact ⟨s.sm who, by rw [updN_self]; exact (run e).1, by omega, fun q => (by rw [m] at q; rcases q with q | q | q <;> cases q), fun q => (by rw [m] at q; cases q)⟩
  | own w m pc r sa th td sm wk run off c l => exact ⟨fun _ => sm, fun q => absurd w q, td⟩
  | wk w m m' k wo c l => exact ⟨fun _ => k.sm, fun q => absurd w q, k.todos⟩
  | wc w j j1 j2 m f m' k wo c l => exact ⟨fun _ => k.sm, fun q => absurd w q, k.todos⟩
  | wn w j j1 j2 m f m' k wo c l => exact ⟨fun _ => k.sm, fun q => absurd w q, k.todos⟩
  | wu w j m m' k wo c l => exact ⟨fun _ => k.sm, fun q => absurd w q, k.todos⟩
  | fs w m m' k wo c l => exact ⟨fun _ => k.sm, fun q => absurd w q, k.todos⟩
  | fc w j j1 j2 m f m' k wo c l => exact ⟨fun _ => k.sm, fun q => absurd w q, k.todos⟩
  | fn w j j1 j2 m f m' k wo c l => exact ⟨fun _ => k.sm, fun q => absurd w q, k.todos⟩
  | fu w j j1 j2 m m' k wo c l => exact ⟨fun _ => k.sm, fun q => absurd w q, k.todos⟩
theorem PgoR.done {first most : Int} {P : Nat} {N : Int} {s s' : PkS} {who : Nat} (p1 : 1 ≤ P) (hw : who < P) (r : PgoR first most P N s who s') (h : DNc s = 1) : DNc s' = 1 := by
  have ls : LotS P s s' → DNc s' = 1 := fun c => (c 1 (by decide) (by omega)).trans h
  have lc : ∀ {c v : Int}, LotC P s s' c v → (c = 1 → v = 1) → DNc s' = 1 := fun {c v} q e => by
    have := q 1 (by decide) (by omega)
    show gt s'.g.m.cs 1 = 1
    rw [this]
    split
    · rename_i z; exact e z.symm
    · exact h
  cases r
  case on c l => exact lc c fun q => by omega
  case cnt c l => exact lc c fun q => by omega
  case back c l => exact lc c fun q => by omega
  case less c l => exact lc c fun q => by omega
  case wc c l => exact lc c fun q => by omega
  case wu c l => exact lc c fun q => by omega
  case fs c l => exact lc c fun _ => rfl
  case fc c l => exact lc c fun q => by omega
  case fu c l => exact lc c fun q => by omega
  all_goals exact ls (by assumption)
section
variable {td0 : List DTd} {P : Nat} {ws : List Nat} {s s' : PkS} (h : MovI td0 P ws s)
include h
theorem MovI.pick {first most : Int} {N : Int} {who : Nat} (I : PkI first most P s N) (hw : who < P) (r : PickR first most P N s who s') : MovI td0 P (ws ++ [who]) s' := by
  have p1 := I.mem.p1
  cases r with
  | none q e =>
    subst e
    refine ⟨h.who, fun i a b n => ?_, fun i a b e => ?_, h.dep, h.bt, ?_, h.tds, by rw [List.length_append]; exact Nat.le_succ_of_le h.lgl⟩
    · rw [cnt_snoc]
      rcases q with ⟨rfl, _⟩ | ⟨q1, q2⟩
      · rw [if_neg (by omega)]; exact h.run i a b n
      · by_cases z : who = i
        · subst z; exact absurd q2 n
        · rw [if_neg z]; exact h.run i a b n
    · rw [cnt_snoc]
      obtain ⟨x, y⟩ := h.hlt i a b e
      exact ⟨Nat.le_trans x (Nat.le_add_right _ _), y⟩
    · rw [cnt_snoc]
      rcases q with ⟨rfl, q1, q2⟩ | ⟨q1, q2⟩
      · rw [if_pos rfl]
        refine .inr ⟨?_, q2, q1⟩
        show stpL s.g.m.lg 0 ≤ _
        rcases h.w0 with z | ⟨z, _⟩ <;> omega
      · rw [if_neg q1]; exact h.w0
  | go s1 I1 k p a r =>
    obtain ⟨e, le, ew⟩ := r.entry
    have le : s'.g.m.lg = s.g.m.lg ++ [e] := by rw [← k.lg]; exact le
    obtain ⟨m1, m2, m3⟩ := r.modes
    have dn1 : DNc s = 1 → DNc s' = 1 := fun q => r.done p1 hw (by show gt s1.g.m.cs 1 = 1; rw [k.cs]; exact q)
    have st : ∀ i, stpL s'.g.m.lg i = stpL s.g.m.lg i + if who = i then 1 else 0 := fun i => by
      rw [le, stp_snoc, ew]
      congr 1
      by_cases z : who = i
      · rw [if_pos z, if_pos (show (who : Int) = (i : Int) by omega)]
      · rw [if_neg z, if_neg (show ¬ (who : Int) = (i : Int) by omega)]
    have p0 : who = 0 → s1.sm = s.sm := fun q => by
      cases p with
      | on o t w sm => exact sm
      | push w0 m t ts td td' k w o op th sm => exact sm
      | pop w0 m t ts td td' k k1 w o op th sm => exact sm
      | fin w0 m t ts td td' k k1 w o th sm => exact sm
      | wake w0 m w o th sm => exact sm
      | rest w0 m sm th o w => exact absurd q w0
      | steal w0 m sm th o w => exact absurd q w0
    have pS : who ≠ 0 → (∃ m0, s1.sm = updN s.sm who m0 ∧ m0.depth ≤ (s.sm who).depth ∧ m0 ≠ .halt ∧ (m0 = .back true ∨ m0 = .less true → s.sm who = m0)) ∧ s1.wm = s.wm ∧ s1.g.todos = s.g.todos ∧ s.sm who ≠ .halt := fun q => by
      cases p with
      | on o t w sm td ac =>
        have na := ac.2 q
        refine ⟨⟨s.sm who, by rw [updN_self]; exact sm, Nat.le_refl _, fun z => by rw [z] at na; exact na, fun _ => rfl⟩, w, td, fun z => by rw [z] at na; exact na⟩
      | push w0 => exact absurd w0 q
      | pop w0 => exact absurd w0 q
      | fin w0 => exact absurd w0 q
      | wake w0 => exact absurd w0 q
      | rest w0 m sm th o w td => exact ⟨⟨_, sm, Nat.zero_le _, by simp, fun z => by rcases z with z | z <;> cases z⟩, w, td, by rw [m]; simp⟩
      | steal w0 m sm th o w td => exact ⟨⟨_, sm, Nat.zero_le _, by simp, fun z => by rcases z with z | z <;> cases z⟩, w, td, by rw [m]; simp⟩
    have lgl : s'.g.m.lg.length ≤ (ws ++ [who]).length := by
      rw [le, List.length_append, List.length_append]
      exact Nat.add_le_add_right h.lgl 1
    have who' : ∀ x ∈ s'.g.m.lg, 0 ≤ (x.1 : Int) ∧ (x.1 : Int) < (P : Int) := fun x hx => by
      rw [le] at hx
      rcases List.mem_append.1 hx with z | z
      · exact h.who x z
      · rw [List.mem_singleton] at z
        subst z
        exact ⟨by rw [ew]; exact (by omega : (0 : Int) ≤ (who : Int)), by rw [ew]; exact (by omega : (who : Int) < (P : Int))⟩
    by_cases w : who = 0
    · have es : s'.sm = s.sm := (m1 w).trans (p0 w)
      have st' : ∀ i, 1 ≤ i → stpL s'.g.m.lg i = stpL s.g.m.lg i := fun i a => by rw [st, if_neg (by omega)]; rfl
      have ct' : ∀ i, 1 ≤ i → (ws ++ [who]).count i = ws.count i := fun i a => by rw [cnt_snoc, if_neg (by omega)]; rfl
      refine ⟨who', fun i a b n => ?_, fun i a b e => ?_, fun i a b => ?_, fun i a b e => ?_, ?_, ?_, lgl⟩
      · rw [st' i a, ct' i a]; rw [es] at n; exact h.run i a b n
      · rw [st' i a, ct' i a]; rw [es] at e
        obtain ⟨x, y⟩ := h.hlt i a b e
        exact ⟨x, dn1 y⟩
      · rw [es, st' i a]; exact h.dep i a b
      · rw [es] at e; exact dn1 (h.bt i a b e)
      · rw [st, cnt_snoc, if_pos w]
        rcases h.w0 with z | ⟨z1, z2, z3⟩
        · exact .inl (by omega)
        · exfalso
          cases p with
          | on o t w2 sm td ac => have := ac.1 w; rw [z3] at this; exact this
          | push w0 m t ts td => rw [z2] at td; cases td
          | pop w0 m t ts td => rw [z2] at td; cases td
          | fin w0 m t ts td => rw [z2] at td; cases td
          | wake w0 m => rw [z3] at m; cases m
          | rest w0 => exact w0 w
          | steal w0 => exact w0 w
      · rw [st, if_pos w, m3]
        have t0 := h.tds
        cases p with
        | on o t w2 sm td => rw [td]; omega
        | push w0 m t ts td td' => rw [td']; rw [td, List.length_cons] at t0; omega
        | pop w0 m t ts td td' => rw [td']; rw [td, List.length_cons] at t0; omega
        | fin w0 m t ts td td' => rw [td']; rw [td, List.length_cons] at t0; omega
        | wake w0 m w2 o th sm td => rw [td]; omega
        | rest w0 => exact absurd w w0
        | steal w0 => exact absurd w w0
    · obtain ⟨⟨m0, e0, d0, n0, b0⟩, ewm, etd, nh⟩ := pS w
      obtain ⟨⟨m', e1, d1, b1, b2⟩, f1, f2⟩ := m2 w
      have at1 : s1.sm who = m0 := by rw [e0, updN_at]
      rw [at1] at d1 b1 b2
      have dn0 : DNc s1 = DNc s := by show gt _ _ = _; rw [k.cs]
      have es : ∀ j, s'.sm j = if j = who then m' else s.sm j := fun j => by
        rw [e1]
        by_cases z : j = who
        · subst z; rw [updN_at, if_pos rfl]
        · rw [updN_ne z, if_neg z, e0, updN_ne z]
      have back : (m0 = .back true ∨ m0 = .less true) → DNc s = 1 := fun q => by
        refine h.bt who (by omega) hw ?_
        rw [b0 q]; exact q
      refine ⟨who', fun i a b n => ?_, fun i a b e => ?_, fun i a b => ?_, fun i a b e => ?_, ?_, ?_, lgl⟩
      · rw [st, cnt_snoc]
        rw [es] at n
        by_cases z : who = i
        · subst z
          rw [if_pos rfl, h.run who a b nh]
        · rw [if_neg z]
          rw [if_neg (fun q => z q.symm)] at n
          exact h.run i a b n
      · rw [st, cnt_snoc]
        rw [es] at e
        by_cases z : who = i
        · subst z
          rw [if_pos rfl] at e
          rw [if_pos rfl, h.run who a b nh]
          exact ⟨Nat.le_refl _, dn1 (back (b2 e))⟩
        · rw [if_neg z]
          rw [if_neg (fun q => z q.symm)] at e
          obtain ⟨x, y⟩ := h.hlt i a b e
          exact ⟨x, dn1 y⟩
      · rw [st, es]
        by_cases z : who = i
        · subst z
          rw [if_pos rfl, if_pos rfl]
          have := h.dep who a b
          omega
        · rw [if_neg z, if_neg (fun q => z q.symm)]
          exact h.dep i a b
      · rw [es] at e
        by_cases z : who = i
        · subst z
          rw [if_pos rfl] at e
          rcases b1 (e.imp id .inl) with q | q
          · exact dn1 (dn0.symm.trans q)
          · exact dn1 (back q)
        · rw [if_neg (fun q => z q.symm)] at e
          exact dn1 (h.bt i a b e)
      · rw [st, cnt_snoc, if_neg w, f1, f2, ewm, etd]
        exact h.w0
      · rw [st, if_neg w, f2, etd]; exact h.tds
end
theorem pk0_mov {first most : Int} {P : Nat} (todos : List DTd) : MovI todos P [] (pk0 first most P todos) :=
  ⟨fun e he => (by cases he), fun _ _ _ _ => rfl, fun _ _ _ e => (by cases e), fun _ _ _ => Nat.le_refl _, fun _ _ _ e => (by rcases e with e | e <;> cases e), .inl rfl, Nat.le_refl _, Nat.le_refl _⟩
end Go.Mx
