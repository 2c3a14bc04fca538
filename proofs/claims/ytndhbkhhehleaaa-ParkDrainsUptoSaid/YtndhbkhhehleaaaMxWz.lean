/-
  A park play: once worker 0 rests, the sleepers take all that is left, and then all are parked.
-/
import Derived.Test.YtndhbkhhehleaaaMxWy
import Derived.Test.YtndhbkhhehleaaaMxWv
set_option linter.unusedVariables false
set_option linter.unusedSimpArgs false
set_option linter.unusedSectionVars false
namespace Go.Mx

def stale (A : List Int) (o : DOp) : Prop := o.pc ≠ 2 ∧ o.t < gt A 0
instance (A : List Int) (o : DOp) : Decidable (stale A o) := by unfold stale; infer_instance
def stlM (P : Nat) (A : List Int) (o : DOp) : Int := 6 - stepsOf o + if stale A o then 2 * (P : Int) + 9 else 0
def dmB (P : Nat) (A : List Int) (f : Int) (m : SM) (th : DOp) : Int := match m with
  | .steal => stlM P A th
  | .pend => 6
  | .park => 7
  | .less _ => 7
  | .back _ => if f = 1 then 8 else 7
  | .look k b _ => 2 * ((P : Int) - k) - (if b = true then 1 else 0) + 8
  | .ask => 2 * (P : Int) + 7
  | .cnt => 2 * (P : Int) + 8
  | .on => 2 * (P : Int) + 9
  | .idle => 2 * (P : Int) + 9
  | .halt => 0
abbrev dmS (P : Nat) (s : PkS) (i : Nat) : Int := dmB P s.A.cs (FLc s (i : Int)) (s.sm i) (s.th i)
def qB (P : Nat) (f : Int) (m : SM) : Int := match m with
  | .cnt => if f = 1 then 0 else 2 * (P : Int) + 1
  | .ask => if f = 1 then 0 else 2 * (P : Int)
  | .look k b _ => if f = 1 then 0 else 2 * ((P : Int) - k) - (if b = true then 1 else 0) + 1
  | .park => if f = 1 then 0 else 1
  | .back _ => if f = 1 then 0 else 1
  | _ => 0
abbrev qS (P : Nat) (s : PkS) (i : Nat) : Int := qB P (FLc s (i : Int)) (s.sm i)
def pmC (P : Nat) (A : List Int) (i : Nat) (m : SM) (th : DOp) : Int := match m with
  | .park => 0
  | .idle => 2 * (P : Int) + 1
  | .on => 2 * (P : Int) + 1
  | .cnt => 2 * (P : Int)
  | .ask => 2 * (P : Int) - 1
  | .look k b t => if b = true then (if t < botA A (((i : Int) + k) % (P : Int)) then 2 * (P : Int) + 6 else 2 * ((P : Int) - k) - 1) else 2 * ((P : Int) - k)
  | .back _ => 2 * (P : Int) + 5
  | .less _ => 2 * (P : Int) + 4
  | .pend => 2 * (P : Int) + 3
  | .steal => 2 * (P : Int) + 1 + if th.pc = 2 then 2 else if th.pc = 1 ∧ gt A 1 ≤ th.t then 1 else 6 - stepsOf th
  | .halt => 0
abbrev pmS (P : Nat) (s : PkS) (i : Nat) : Int := pmC P s.A.cs i (s.sm i) (s.th i)
section
variable {td0 : List DTd} {most : Int} {P : Nat} {s s' : PkS} (C : Cal td0 most P s) {first N : Int} (I : PkI first most P s N) {w : Nat} (a : 1 ≤ w) (b : w < P) (R : SlR P s w s')
include C I a b R
theorem stepB (hc : ctn s.A.cs ≠ []) : ((ctn s'.A.cs).length + 1 = (ctn s.A.cs).length ∧ s'.sm w = .idle) ∨ (s'.A.cs = s.A.cs ∧ (¬ useless P s w → ¬ useless P s' w ∧ dmS P s' w + 1 ≤ dmS P s w)) := by
  have nb : ¬ gt s.A.cs 1 ≤ gt s.A.cs 0 := fun q => hc (ctn_empty.2 q)
  have np : ∀ {m : SM}, s'.sm w = m → ¬ past P w m → ¬ useless P s' w := fun {m} e n q => n (by rw [← e]; exact q.2)
  unfold dmS
  cases R with
  | idle m m' f k t => exact .inr ⟨by rw [k], fun _ => ⟨np m' id, by rw [m, m']; show 2 * (P : Int) + 8 + 1 ≤ 2 * (P : Int) + 9; omega⟩⟩
  | cnt m m' f k t => exact .inr ⟨by rw [k], fun _ => ⟨np m' id, by rw [m, m']; show 2 * (P : Int) + 7 + 1 ≤ 2 * (P : Int) + 8; omega⟩⟩
  | ask m m' f k t => exact .inr ⟨by rw [k], fun _ => ⟨np m' (fun q => by have q : (P : Int) < (w : Int) + 1 := q; omega), by rw [m, m']; show 2 * ((P : Int) - 1) - 0 + 8 + 1 ≤ 2 * (P : Int) + 7; omega⟩⟩
  | look1 j u j1 j2 m m' f k t =>
    refine .inr ⟨by rw [k], fun n => ⟨fun q => n ⟨by rw [← f]; exact q.1, ?_⟩, by rw [m, m']; show 2 * ((P : Int) - j) - 1 + 8 + 1 ≤ 2 * ((P : Int) - j) - 0 + 8; omega⟩⟩
    have := q.2
    rw [m'] at this
    rw [m]; exact this
  | look2 j u j1 j2 m tt m' f k t =>
    refine .inr ⟨by rw [k], fun n => ?_⟩
    have key : FLc s (w : Int) = 1 → ¬ (P : Int) < (w : Int) + j := fun q1 q2 => n ⟨q1, by rw [m]; exact q2⟩
    have eqP : (w : Int) + j = (P : Int) → u < botA s.A.cs (((w : Int) + j) % (P : Int)) := fun e => by
      rw [e, Int.emod_self] at tt ⊢
      have tt : u ≤ gt s.A.cs 0 := tt
      show u < gt s.A.cs 1; omega
    by_cases d : u < botA s.A.cs (((w : Int) + j) % (P : Int))
    · rw [if_pos d] at m'
      refine ⟨np m' id, ?_⟩
      rw [m, m']
      show (if FLc s' (w : Int) = 1 then (8 : Int) else 7) + 1 ≤ 2 * ((P : Int) - j) - 1 + 8
      split <;> omega
    · rw [if_neg d] at m'
      have ne : ¬ (w : Int) + j = (P : Int) := fun e => d (eqP e)
      by_cases d2 : (P : Int) ≤ j + 1
      · rw [if_pos d2] at m'
        refine ⟨fun q => key (by rw [← f]; exact q.1) (by omega), ?_⟩
        rw [m, m']; show (7 : Int) + 1 ≤ 2 * ((P : Int) - j) - 1 + 8; omega
      · rw [if_neg d2] at m'
        refine ⟨fun q => ?_, ?_⟩
        · have q2 := q.2
          rw [m'] at q2
          have q2 : (P : Int) < (w : Int) + (j + 1) := q2
          exact key (by rw [← f]; exact q.1) (by omega)
        · rw [m, m']; show 2 * ((P : Int) - (j + 1)) - 0 + 8 + 1 ≤ 2 * ((P : Int) - j) - 1 + 8; omega
  | park m m' f k t =>
    refine .inr ⟨by rw [k], fun n => ?_⟩
    have nf : ¬ FLc s (w : Int) = 1 := fun q => n ⟨q, by rw [m]; trivial⟩
    rw [if_neg nf] at m'
    exact ⟨np m' id, by rw [m, m']; exact (by decide : (6 : Int) + 1 ≤ 7)⟩
  | back m m' k t =>
    refine .inr ⟨by rw [k], fun n => ?_⟩
    by_cases f : FLc s (w : Int) = 1
    · rw [if_pos f] at m'
      refine ⟨np m' id, ?_⟩
      rw [m, m']
      show (7 : Int) + 1 ≤ if FLc s (w : Int) = 1 then 8 else 7
      rw [if_pos f]; decide
    · rw [if_neg f] at m'
      refine ⟨np m' id, ?_⟩
      rw [m, m']
      show (6 : Int) + 1 ≤ if FLc s (w : Int) = 1 then 8 else 7
      rw [if_neg f]; decide
  | less m m' k t => exact .inr ⟨by rw [k], fun _ => ⟨np m' id, by rw [m, m']; exact (by decide : (6 : Int) + 1 ≤ 7)⟩⟩
  | steal o m k3 pc v h v2 v1 e th run off f =>
    obtain ⟨t1, t2, t3, t4⟩ := th_steps h k3 pc v
    have old : dmB P s.A.cs (FLc s (w : Int)) (s.sm w) (s.th w) = stlM P s.A.cs o := by
      rcases m with ⟨m, ho⟩ | ⟨m, p2⟩
      · rw [m, ← ho]; rfl
      · rw [m]
        have s0 : stepsOf o = 0 := by
          unfold stepsOf
          rw [if_pos k3, if_neg (by omega), if_neg (by omega), if_neg (by omega), if_neg (by omega), if_neg (by omega)]
        show (6 : Int) = 6 - stepsOf o + if stale s.A.cs o then _ else 0
        rw [s0, if_neg (fun q => q.1 p2)]; rfl
    rw [old]
    have low : 1 ≤ stlM P s.A.cs o := by unfold stlM; split <;> omega
    cases e with
    | same p c =>
      refine .inr ⟨c, fun _ => ⟨np (run p).1 id, ?_⟩⟩
      rw [(run p).1, th, c]
      show stlM P s.A.cs (o.after v) + 1 ≤ stlM P s.A.cs o
      have t1 := t1 p
      have et := stolen_t o v k3
      unfold stlM
      by_cases st : stale s.A.cs (o.after v)
      · have so : stale s.A.cs o := by
          obtain ⟨_, x⟩ := st
          rw [et] at x
          by_cases p2 : o.pc = 2
          · rw [if_pos p2, v2 p2] at x; omega
          · rw [if_neg p2] at x; exact ⟨p2, x⟩
        rw [if_pos st, if_pos so]; omega
      · rw [if_neg st]
        split <;> omega
    | empty k p co va c bb tt => exact absurd (Int.le_trans bb tt) nb
    | lost k p co va c tt =>
      refine .inr ⟨c, fun _ => ⟨np (off p).1 id, ?_⟩⟩
      rw [(off p).1]
      have n2 : o.pc ≠ 2 := fun p2 => by
        have : (o.after v).pc = 1 := by
          have : o.after v = { o with t := v, pc := 1 } := by simp [DOp.after, DOp.stolen, k3, p2]
          rw [this]
        omega
      unfold stlM
      rw [if_pos (show stale s.A.cs o from ⟨n2, tt⟩)]
      show 2 * (P : Int) + 9 + 1 ≤ _; omega
    | got k p co va t t' b' c =>
      refine .inl ⟨?_, (off p).1⟩
      rcases c with ⟨c1, _⟩ | ⟨c1, _⟩
      · rw [c1]; rfl
      · exact absurd c1 hc
    | look k => omega
theorem stepQ : qS P s' w = 0 ∨ qS P s' w + 1 ≤ qS P s w := by
  unfold qS
  cases R with
  | idle m m' f k t => rw [m', f]; exact .inl rfl
  | cnt m m' f k t =>
    rw [m', f, m]
    show (if FLc s (w : Int) = 1 then (0 : Int) else 2 * (P : Int)) = 0 ∨ (if FLc s (w : Int) = 1 then (0 : Int) else 2 * (P : Int)) + 1 ≤ (if FLc s (w : Int) = 1 then (0 : Int) else 2 * (P : Int) + 1)
    by_cases z : FLc s (w : Int) = 1
    · rw [if_pos z]; exact .inl rfl
    · rw [if_neg z, if_neg z]; exact .inr (Int.le_refl _)
  | ask m m' f k t =>
    rw [m', f, m]
    show (if FLc s (w : Int) = 1 then (0 : Int) else 2 * ((P : Int) - 1) - 0 + 1) = 0 ∨ (if FLc s (w : Int) = 1 then (0 : Int) else 2 * ((P : Int) - 1) - 0 + 1) + 1 ≤ (if FLc s (w : Int) = 1 then (0 : Int) else 2 * (P : Int))
    by_cases z : FLc s (w : Int) = 1
    · rw [if_pos z]; exact .inl rfl
    · rw [if_neg z, if_neg z]; exact .inr (by omega)
  | look1 j u j1 j2 m m' f k t =>
    rw [m', f, m]
    show (if FLc s (w : Int) = 1 then (0 : Int) else 2 * ((P : Int) - j) - 1 + 1) = 0 ∨ (if FLc s (w : Int) = 1 then (0 : Int) else 2 * ((P : Int) - j) - 1 + 1) + 1 ≤ (if FLc s (w : Int) = 1 then (0 : Int) else 2 * ((P : Int) - j) - 0 + 1)
    by_cases z : FLc s (w : Int) = 1
    · rw [if_pos z]; exact .inl rfl
    · rw [if_neg z, if_neg z]; exact .inr (by omega)
  | look2 j u j1 j2 m tt m' f k t =>
    rw [m', f, m]
    by_cases z : FLc s (w : Int) = 1
    · refine .inl ?_
      split
      · exact if_pos z
      split
      · exact if_pos z
      · exact if_pos z
    · refine .inr ?_
      show _ ≤ (if FLc s (w : Int) = 1 then (0 : Int) else 2 * ((P : Int) - j) - 1 + 1)
      rw [if_neg z]
      split
      · show (if FLc s (w : Int) = 1 then (0 : Int) else 1) + 1 ≤ _; rw [if_neg z]; omega
      split
      · show (if FLc s (w : Int) = 1 then (0 : Int) else 1) + 1 ≤ _; rw [if_neg z]; omega
      · show (if FLc s (w : Int) = 1 then (0 : Int) else 2 * ((P : Int) - (j + 1)) - 0 + 1) + 1 ≤ _; rw [if_neg z]; omega
  | park m m' f k t =>
    refine .inl ?_
    by_cases z : FLc s (w : Int) = 1
    · rw [m', if_pos z, f]; exact if_pos z
    · rw [m', if_neg z]; rfl
  | back m m' k t =>
    refine .inl ?_
    rw [m']; split <;> rfl
  | less m m' k t => rw [m']; exact .inl rfl
  | steal o m k3 pc v h v2 v1 e th run off f =>
    refine .inl ?_
    by_cases z : (o.after v).pc = 0
    · rw [(off z).1]; rfl
    · rw [(run z).1]; rfl
theorem stepC (hc : ctn s.A.cs = []) (ff : qS P s w = 0) : s'.A.cs = s.A.cs ∧ s'.g.taken = s.g.taken ∧ (pmS P s w = 0 ∧ pmS P s' w = 0 ∨ pmS P s' w + 1 ≤ pmS P s w) := by
  have bt := ctn_empty.1 hc
  have h0 := handp (cs := s.A.cs) (.inl (C.own0 I))
  have f1 : (s.sm w = .park ∨ s.sm w = .back false) → FLc s (w : Int) = 1 := fun q => by
    unfold qS at ff
    by_cases z : FLc s (w : Int) = 1
    · exact z
    · rcases q with q | q <;> rw [q] at ff <;> (have ff : (if FLc s (w : Int) = 1 then (0 : Int) else 1) = 0 := ff; rw [if_neg z] at ff; omega)
  unfold pmS
  cases R with
  | idle m m' f k t => exact ⟨by rw [k], t, .inr (by rw [m, m']; show 2 * (P : Int) + 1 ≤ 2 * (P : Int) + 1; omega)⟩
  | cnt m m' f k t => exact ⟨by rw [k], t, .inr (by rw [m, m']; show 2 * (P : Int) - 1 + 1 ≤ 2 * (P : Int); omega)⟩
  | ask m m' f k t => exact ⟨by rw [k], t, .inr (by rw [m, m']; show 2 * ((P : Int) - 1) + 1 ≤ 2 * (P : Int) - 1; omega)⟩
  | look1 j u j1 j2 m m' f k t =>
    refine ⟨by rw [k], t, .inr ?_⟩
    rw [m, m', k]
    have : ¬ topA s.A.cs (((w : Int) + j) % (P : Int)) < botA s.A.cs (((w : Int) + j) % (P : Int)) := by
      unfold topA botA
      split <;> omega
    show (if topA s.A.cs (((w : Int) + j) % (P : Int)) < botA s.A.cs (((w : Int) + j) % (P : Int)) then 2 * (P : Int) + 6 else 2 * ((P : Int) - j) - 1) + 1 ≤ 2 * ((P : Int) - j)
    rw [if_neg this]; omega
  | look2 j u j1 j2 m tt m' f k t =>
    refine ⟨by rw [k], t, .inr ?_⟩
    rw [m, m', k]
    show _ ≤ if u < botA s.A.cs (((w : Int) + j) % (P : Int)) then 2 * (P : Int) + 6 else 2 * ((P : Int) - j) - 1
    by_cases d : u < botA s.A.cs (((w : Int) + j) % (P : Int))
    · rw [if_pos d, if_pos d]; show 2 * (P : Int) + 5 + 1 ≤ _; omega
    · rw [if_neg d, if_neg d]
      split
      · show (0 : Int) + 1 ≤ _; omega
      · show 2 * ((P : Int) - (j + 1)) + 1 ≤ _; omega
  | park m m' f k t =>
    rw [if_pos (f1 (.inl m))] at m'
    exact ⟨by rw [k], t, .inl ⟨by rw [m]; rfl, by rw [m']; rfl⟩⟩
  | back m m' k t =>
    rw [if_pos (f1 (.inr m))] at m'
    exact ⟨by rw [k], t, .inr (by rw [m, m']; show 2 * (P : Int) + 4 + 1 ≤ 2 * (P : Int) + 5; omega)⟩
  | less m m' k t => exact ⟨by rw [k], t, .inr (by rw [m, m']; show 2 * (P : Int) + 3 + 1 ≤ 2 * (P : Int) + 4; omega)⟩
  | steal o m k3 pc v h v2 v1 e th run off f =>
    obtain ⟨t1, t2, t3, t4⟩ := th_steps h k3 pc v
    have old : pmC P s.A.cs w (s.sm w) (s.th w) = 2 * (P : Int) + 1 + if o.pc = 2 then 2 else if o.pc = 1 ∧ gt s.A.cs 1 ≤ o.t then 1 else 6 - stepsOf o := by
      rcases m with ⟨m, ho⟩ | ⟨m, p2⟩
      · rw [m, ← ho]; rfl
      · rw [m, if_pos p2]
        show 2 * (P : Int) + 3 = _; omega
    have low : 1 ≤ (if o.pc = 2 then (2 : Int) else if o.pc = 1 ∧ gt s.A.cs 1 ≤ o.t then 1 else 6 - stepsOf o) := by
      split
      · omega
      split <;> omega
    rw [old]
    have done : (o.after v).pc = 0 → pmC P s'.A.cs w (s'.sm w) (s'.th w) + 1 ≤ 2 * (P : Int) + 1 + if o.pc = 2 then 2 else if o.pc = 1 ∧ gt s.A.cs 1 ≤ o.t then 1 else 6 - stepsOf o := fun p => by
      rw [(off p).1]
      show 2 * (P : Int) + 1 + 1 ≤ _; omega
    cases e with
    | same p c =>
      refine ⟨c, (run p).2, .inr ?_⟩
      rw [(run p).1, th, c]
      show 2 * (P : Int) + 1 + (if (o.after v).pc = 2 then 2 else if (o.after v).pc = 1 ∧ gt s.A.cs 1 ≤ (o.after v).t then 1 else 6 - stepsOf (o.after v)) + 1 ≤ _
      obtain ⟨x1, x2, x3, x4⟩ := th_next h k3 v p
      have t1 := t1 p
      have et := stolen_t o v k3
      rw [if_neg x1]
      by_cases p2 : o.pc = 2
      · rw [if_pos p2] at et
        rw [if_pos p2, if_pos ⟨x3 p2, by rw [et, v2 p2]; exact bt⟩]; omega
      · rw [if_neg p2]
        rw [if_neg (fun q => p2 (x2 q.1))]
        by_cases p1 : o.pc = 1 ∧ gt s.A.cs 1 ≤ o.t
        · exact absurd p1.2 (by have := x4 p1.1; rw [v1 p1.1] at this; exact this)
        · rw [if_neg p1]; omega
    | empty k p co va c bb tt => exact ⟨c, by rw [(off p).2]; exact if_neg (by show ¬ (o.after v).code = 4; omega), .inr (done p)⟩
    | lost k p co va c tt => exact ⟨c, by rw [(off p).2]; exact if_neg (by show ¬ (o.after v).code = 4; omega), .inr (done p)⟩
    | got k p co va t t' b' c =>
      exfalso
      rcases c with ⟨c1, _⟩ | ⟨_, _, c1, _⟩
      · rw [hc] at c1; cases c1
      · rw [h0] at c1; cases c1
    | look k => omega
end
section
variable {first most : Int} {P : Nat} {s : PkS} {N : Int} (I : PkI first most P s N) {i : Nat} (a : 1 ≤ i) (b : i < P)
include I a b
theorem dm_start : dmS P s i ≤ 2 * (P : Int) + 14 ∧ 0 ≤ dmS P s i ∧ qS P s i ≤ 2 * (P : Int) + 1 ∧ 0 ≤ qS P s i ∧ pmS P s i ≤ 2 * (P : Int) + 6 ∧ 0 ≤ pmS P s i ∧ (pmS P s i = 0 → s.sm i = .park ∨ s.sm i = .halt) := by
  have sl := I.sl i a b
  unfold dmS qS pmS
  cases e : s.sm i with
  | look k q t =>
    obtain ⟨k1, k2⟩ := I.lookk a b e
    simp only [dmB, qB, pmC]
    refine ⟨?_, ?_, ?_, ?_, ?_, ?_, fun z => ?_⟩
    · split <;> omega
    · split <;> omega
    · split
      · omega
      split <;> omega
    · split
      · omega
      split <;> omega
    · split
      · split <;> omega
      · omega
    · split
      · split <;> omega
      · omega
    · exfalso
      split at z
      · split at z <;> omega
      · omega
  | steal =>
    rw [e] at sl
    have k3 := sl.2.2.2.2.1
    have h5 := stepsOf3 k3
    have s1 : stale s.A.cs (s.th i) → 1 ≤ stepsOf (s.th i) ∨ True := fun _ => .inr trivial
    have pc := sl.2.2.2.1
    have T := (I.th i a b).ths
    have n0 : (s.th i).pc ≠ 2 → 1 ≤ stepsOf (s.th i) := fun n2 => by
      unfold stepsOf
      rw [if_pos k3]
      cases T with
      | idle p => exact absurd p pc
      | st2 _ p => exact absurd p n2
      | st1 _ p => rw [if_pos p]; decide
      | st3 _ p => rw [if_neg (by omega), if_pos p]; decide
      | st4 _ p => rw [if_neg (by omega), if_neg (by omega), if_pos p]; decide
      | st12 _ p => rw [if_neg (by omega), if_neg (by omega), if_neg (by omega), if_pos p]; decide
      | st13 _ p => rw [if_neg (by omega), if_neg (by omega), if_neg (by omega), if_neg (by omega), if_pos p]; decide
      | lk2 k => omega
      | lk1 k => omega
    simp only [dmB, qB, pmC]
    unfold stlM
    refine ⟨?_, ?_, by omega, by omega, ?_, ?_, fun z => ?_⟩
    · split
      · rename_i st
        have := n0 st.1
        omega
      · omega
    · split <;> omega
    · split
      · omega
      split
      · omega
      · rename_i n2 _
        have := n0 n2
        omega
    · split
      · omega
      split <;> omega
    · exfalso
      split at z
      · omega
      split at z <;> omega
  | back q =>
    simp only [dmB, qB, pmC]
    refine ⟨?_, ?_, ?_, ?_, by omega, by omega, fun z => by omega⟩ <;> split <;> omega
  | park =>
    simp only [dmB, qB, pmC]
    refine ⟨by omega, by omega, ?_, ?_, by omega, by omega, fun _ => by simp⟩ <;> split <;> omega
  | cnt =>
    simp only [dmB, qB, pmC]
    refine ⟨by omega, by omega, ?_, ?_, by omega, by omega, fun z => by omega⟩ <;> split <;> omega
  | ask =>
    simp only [dmB, qB, pmC]
    refine ⟨by omega, by omega, ?_, ?_, by omega, by omega, fun z => by omega⟩ <;> split <;> omega
  | halt => simp only [dmB, qB, pmC]; exact ⟨by omega, by omega, by omega, by omega, by omega, by omega, fun _ => by simp⟩
  | less q => simp only [dmB, qB, pmC]; exact ⟨by omega, by omega, by omega, by omega, by omega, by omega, fun z => by omega⟩
  | idle => simp only [dmB, qB, pmC]; exact ⟨by omega, by omega, by omega, by omega, by omega, by omega, fun z => by omega⟩
  | pend => simp only [dmB, qB, pmC]; exact ⟨by omega, by omega, by omega, by omega, by omega, by omega, fun z => by omega⟩
  | on => simp only [dmB, qB, pmC]; exact ⟨by omega, by omega, by omega, by omega, by omega, by omega, fun z => by omega⟩
end
structure DrB (td0 : List DTd) (most : Int) (P : Nat) (r K : Int) (s : PkS) : Prop where
  cal : Cal td0 most P s
  wi : ctn s.A.cs = [] ∨ ∃ i, 1 ≤ i ∧ i < P ∧ ¬ useless P s i ∧ dmS P s i + ((ctn s.A.cs).length : Int) * (2 * (P : Int) + 12) + r ≤ K
  qs : ∀ i, 1 ≤ i → i < P → qS P s i = 0 ∨ qS P s i + r ≤ 2 * (P : Int) + 1
structure DrBr (td0 : List DTd) (most : Int) (P : Nat) (r K : Int) (vs : List Nat) (s : PkS) : Prop where
  cal : Cal td0 most P s
  wi : ctn s.A.cs = [] ∨ ∃ i, 1 ≤ i ∧ i < P ∧ ¬ useless P s i ∧ (dmS P s i + ((ctn s.A.cs).length : Int) * (2 * (P : Int) + 12) + r + (if i ∈ vs then 1 else 0) ≤ K ∨ dmS P s i + ((ctn s.A.cs).length : Int) * (2 * (P : Int) + 12) + r + 1 ≤ K)
  qs : ∀ i, 1 ≤ i → i < P → qS P s i = 0 ∨ qS P s i + r + (if i ∈ vs then 1 else 0) ≤ 2 * (P : Int) + 1
structure DrC (td0 : List DTd) (most : Int) (P : Nat) (r : Int) (tk : List (Den KP2)) (s : PkS) : Prop where
  cal : Cal td0 most P s
  em : ctn s.A.cs = []
  tk : s.g.taken = tk
  qs : ∀ i, 1 ≤ i → i < P → qS P s i = 0
  ps : ∀ i, 1 ≤ i → i < P → pmS P s i = 0 ∨ pmS P s i + r ≤ 2 * (P : Int) + 6
structure DrCr (td0 : List DTd) (most : Int) (P : Nat) (r : Int) (tk : List (Den KP2)) (vs : List Nat) (s : PkS) : Prop where
  cal : Cal td0 most P s
  em : ctn s.A.cs = []
  tk : s.g.taken = tk
  qs : ∀ i, 1 ≤ i → i < P → qS P s i = 0
  ps : ∀ i, 1 ≤ i → i < P → pmS P s i = 0 ∨ pmS P s i + r + (if i ∈ vs then 1 else 0) ≤ 2 * (P : Int) + 6
theorem mem_snoc {vs : List Nat} {w i : Nat} (h : w ≠ i) : (i ∈ vs ++ [w]) ↔ i ∈ vs := by
  rw [List.mem_append, List.mem_singleton]
  exact ⟨fun q => q.elim id (fun q => absurd q.symm h), .inl⟩
section
variable {td0 : List DTd} (nb : Numbd td0) {most : Int} {P : Nat} {r K : Int} {vs : List Nat} {s s' : PkS} {first N : Int} (I : PkI first most P s N) (I' : PkI first most P s' (N + 1)) {w : Nat} (hw : w < P) (w0 : w ≠ 0) (R : PickR first most P N s w s')
include nb I I' hw w0 R
theorem DrBr.pick (h : DrBr td0 most P r K vs s) : DrBr td0 most P r K (vs ++ [w]) s' := by
  have a : 1 ≤ w := by omega
  obtain ⟨C, wi, qs⟩ := h
  obtain ⟨C', Sc, Sr⟩ := C.pick nb I hw w0 R
  refine ⟨C', ?_, fun i x y => ?_⟩
  · rcases wi with em | ⟨i, x, y, us, bd⟩
    · refine .inl ?_
      cases Sr with
      | steal o m k3 pc v h v2 v1 e th run off f =>
        cases e with
        | same p c => rw [c]; exact em
        | empty k p co va c => rw [c]; exact em
        | lost k p co va c => rw [c]; exact em
        | got k p co va t t' b' c =>
          rcases c with ⟨c1, _⟩ | ⟨_, c1, _⟩
          · rw [em] at c1; cases c1
          · exact c1
        | look k p co va c => rw [c]; exact em
      | idle _ _ _ k => rw [k]; exact em
      | cnt _ _ _ k => rw [k]; exact em
      | ask _ _ _ k => rw [k]; exact em
      | look1 _ _ _ _ _ _ _ k => rw [k]; exact em
      | look2 _ _ _ _ _ _ _ _ k => rw [k]; exact em
      | park _ _ _ k => rw [k]; exact em
      | back _ _ k => rw [k]; exact em
      | less _ _ k => rw [k]; exact em
    · by_cases hc : ctn s.A.cs = []
      · refine .inl ?_
        by_cases z : ctn s'.A.cs = []
        · exact z
        · exfalso
          cases Sr with
          | steal o m k3 pc v h v2 v1 e th run off f =>
            cases e with
            | same p c => exact z (by rw [c]; exact hc)
            | empty k p co va c => exact z (by rw [c]; exact hc)
            | lost k p co va c => exact z (by rw [c]; exact hc)
            | got k p co va t t' b' c =>
              rcases c with ⟨c1, _⟩ | ⟨_, c1, _⟩
              · rw [hc] at c1; cases c1
              · exact z c1
            | look k p co va c => exact z (by rw [c]; exact hc)
          | idle _ _ _ k => exact z (by rw [k]; exact hc)
          | cnt _ _ _ k => exact z (by rw [k]; exact hc)
          | ask _ _ _ k => exact z (by rw [k]; exact hc)
          | look1 _ _ _ _ _ _ _ k => exact z (by rw [k]; exact hc)
          | look2 _ _ _ _ _ _ _ _ k => exact z (by rw [k]; exact hc)
          | park _ _ _ k => exact z (by rw [k]; exact hc)
          | back _ _ k => exact z (by rw [k]; exact hc)
          | less _ _ k => exact z (by rw [k]; exact hc)
      · have d0 := (dm_start I x y).2.1
        rcases stepB C I a hw Sr hc with ⟨len, mi⟩ | ⟨same, st⟩
        · refine .inr ⟨w, a, hw, fun q => by have := q.2; rw [mi] at this; exact this, .inr ?_⟩
          have e1 : dmS P s' w = 2 * (P : Int) + 9 := by unfold dmS; rw [mi]; rfl
          have e2 : ((ctn s.A.cs).length : Int) * (2 * (P : Int) + 12) = ((ctn s'.A.cs).length : Int) * (2 * (P : Int) + 12) + (2 * (P : Int) + 12) := by
            rw [← len, show (((ctn s'.A.cs).length + 1 : Nat) : Int) = ((ctn s'.A.cs).length : Int) + 1 by omega, Int.add_mul, Int.one_mul]
          rw [e2] at bd
          have i01 : (0 : Int) ≤ if i ∈ vs then 1 else 0 := by split <;> omega
          rw [e1]
          rcases bd with bd | bd <;> omega
        · by_cases e : w = i
          · subst e
            obtain ⟨u1, u2⟩ := st us
            refine .inr ⟨w, a, hw, u1, .inr ?_⟩
            have i01 : (0 : Int) ≤ if w ∈ vs then 1 else 0 := by split <;> omega
            rw [same]
            rcases bd with bd | bd <;> omega
          · have e1 : s'.sm i = s.sm i := Sc.sm i (fun q => e q.symm)
            have e2 : s'.th i = s.th i := Sc.th i (fun q => e q.symm)
            have e3 := Sc.fl i y (fun q => e q.symm)
            refine .inr ⟨i, x, y, fun q => us ⟨by rw [← e3]; exact q.1, by rw [← e1]; exact q.2⟩, ?_⟩
            have : dmS P s' i = dmS P s i := by unfold dmS; rw [same, e1, e2, e3]
            rw [this, same]
            simp only [mem_snoc e]
            exact bd
  · by_cases e : w = i
    · subst e
      have i01 : (0 : Int) ≤ if w ∈ vs then 1 else 0 := by split <;> omega
      rw [if_pos (show w ∈ vs ++ [w] by simp)]
      have q0 := (dm_start I' a hw).2.2.2.1
      rcases stepQ C I a hw Sr with z | z
      · exact .inl z
      · rcases qs w x y with q | q
        · omega
        · exact .inr (by omega)
    · have e1 : s'.sm i = s.sm i := Sc.sm i (fun q => e q.symm)
      have e3 := Sc.fl i y (fun q => e q.symm)
      have : qS P s' i = qS P s i := by unfold qS; rw [e1, e3]
      rw [this]
      simp only [mem_snoc e]
      exact qs i x y
theorem DrCr.pick {tk : List (Den KP2)} (h : DrCr td0 most P r tk vs s) : DrCr td0 most P r tk (vs ++ [w]) s' := by
  have a : 1 ≤ w := by omega
  obtain ⟨C, em, etk, qs, ps⟩ := h
  obtain ⟨C', Sc, Sr⟩ := C.pick nb I hw w0 R
  obtain ⟨cA, cT, st⟩ := stepC C I a hw Sr em (qs w a hw)
  refine ⟨C', by rw [cA]; exact em, cT.trans etk, fun i x y => ?_, fun i x y => ?_⟩
  · by_cases e : w = i
    · subst e
      have q0 := (dm_start I' a hw).2.2.2.1
      rcases stepQ C I a hw Sr with z | z
      · exact z
      · have := qs w a hw; omega
    · have e1 : s'.sm i = s.sm i := Sc.sm i (fun q => e q.symm)
      have e3 := Sc.fl i y (fun q => e q.symm)
      have : qS P s' i = qS P s i := by unfold qS; rw [e1, e3]
      rw [this]; exact qs i x y
  · by_cases e : w = i
    · subst e
      have i01 : (0 : Int) ≤ if w ∈ vs then 1 else 0 := by split <;> omega
      rw [if_pos (show w ∈ vs ++ [w] by simp)]
      have q0 := (dm_start I' a hw).2.2.2.2.2.1
      rcases st with ⟨_, z⟩ | z
      · exact .inl z
      · rcases ps w x y with q | q
        · omega
        · exact .inr (by omega)
    · have e1 : s'.sm i = s.sm i := Sc.sm i (fun q => e q.symm)
      have e2 : s'.th i = s.th i := Sc.th i (fun q => e q.symm)
      have : pmS P s' i = pmS P s i := by unfold pmS; rw [e1, e2, cA]
      rw [this]
      simp only [mem_snoc e]
      exact ps i x y
end
end Go.Mx
