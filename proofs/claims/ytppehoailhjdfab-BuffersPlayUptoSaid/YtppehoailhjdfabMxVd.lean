/-
  The reference's plays (plunderref21).
-/
import Derived.Test.YtppehoailhjdfabMxVc
import Derived.Test.YtppehoailhjdfabMxBg
set_option linter.unusedVariables false
set_option linter.unusedSimpArgs false
set_option linter.unusedSectionVars false
namespace Go.Mx

theorem rmod_spec : ModC ref21_mod.M := by
  intro x n h Q h0 h1 hQ
  obtain t | t := tmod_emodB x n h0
  · refine ⟨by omega, fun e => ?_, fun e => absurd t.1 (of_decide_eq_false e)⟩
    have hr := mod_rangeB (x := x) h0
    have : w64 (Int.tmod x n + n) = x % n := by rw [← t.2, w64_of] <;> omega
    show Q (w64 (Int.tmod x n + n)) h
    rw [this]; exact hQ
  · refine ⟨by omega, fun e => absurd (of_decide_eq_true e) (show ¬ Int.tmod x n < 0 by omega), fun e => ?_⟩
    show Q (Int.tmod x n) h
    rw [t.2]; exact hQ
theorem refuses_spec : JudgedC ref21_Refuses.M := by
  intro size used room lists picks h ls ps Q hl hp hQ
  have hll := hl.len
  have hpl := hp.1
  have three : (size < 0 ∨ 1048576 < size ∨ used < 0 ∨ size < used) → ref21_Refuses.j5 room lists picks Q (true, ()) h := fun q => by
    unfold judgedP at hQ
    rw [if_pos q] at hQ
    exact ⟨fun _ => hQ, fun e => (by cases e)⟩
  have rest : ¬ (size < 0 ∨ 1048576 < size ∨ used < 0 ∨ size < used) → ref21_Refuses.j5 room lists picks Q (false, ()) h := fun q => by
    unfold judgedP at hQ
    rw [if_neg q] at hQ
    refine ⟨fun e => (by cases e), fun _ => ?_⟩
    have two : (ls.length < 1 ∨ 8 < ls.length ∨ room < 1 ∨ 64 < room) → ref21_Refuses.j3 lists picks Q (true, ()) h := fun q => by
      rw [if_pos q] at hQ
      exact ⟨fun _ => hQ, fun e => (by cases e)⟩
    have rest2 : ¬ (ls.length < 1 ∨ 8 < ls.length ∨ room < 1 ∨ 64 < room) → ref21_Refuses.j3 lists picks Q (false, ()) h := fun q => by
      rw [if_neg q] at hQ
      refine ⟨fun e => (by cases e), fun _ => ?_⟩
      obtain ⟨sls, a1, a2, a3⟩ := hl
      refine Loop.up ls.length (fun s => s.1) (fun i _ k => k = h ∧ (ls.take i).any (fun l => decide (4096 < l.length)) = false) rfl ⟨rfl, rfl⟩ ?_
      rintro i ⟨i', u⟩ k go hi hc ⟨rfl, hany⟩ hgo
      dsimp only at hc; subst hc
      refine ⟨fun e => ?_, fun e => ?_⟩
      · have e : (i : Int) < (lists.len : Int) := of_decide_eq_true e
        have hi' : i < ls.length := by omega
        have hb : 0 ≤ (i : Int) ∧ (i : Int) < (lists.len : Int) := ⟨by omega, e⟩
        refine ⟨hb, a1.at (i := (i : Int)) (by omega) e rfl fun sl hsl => ?_⟩
        rw [Int.toNat_natCast] at hsl
        have hx := (a3 i sl ls[i] hsl (by simp [hi'])).1
        refine ⟨fun d => ?_, fun d => ?_⟩
        · have d : (4096 : Int) < (sl.len : Int) := of_decide_eq_true d
          have hQ : Q 2 k := by
            by_cases z : 1048576 < ps.length
            · rw [if_pos z] at hQ; exact hQ
            · rw [if_neg z, if_pos (List.any_eq_true.2 ⟨ls[i], List.getElem_mem hi', decide_eq_true (by omega)⟩)] at hQ
              exact hQ
          exact hQ
        · have d : ¬ (4096 : Int) < (sl.len : Int) := of_decide_eq_false d
          refine hgo hi' _ _ (by show w64 ((i : Int) + 1) = _; rw [w64_of] <;> omega) ⟨rfl, ?_⟩
          rw [take_succ' ls hi', List.any_append, hany, Bool.false_or, List.any_cons, List.any_nil, Bool.or_false, decide_eq_false (by omega)]
      · have e : ¬ (i : Int) < (lists.len : Int) := of_decide_eq_false e
        rw [List.take_of_length_le (by omega)] at hany
        refine ⟨fun d => ?_, fun d => ?_⟩
        · have d : (1048576 : Int) < (picks.len : Int) := of_decide_eq_true d
          rw [if_pos (by omega)] at hQ; exact hQ
        · have d : ¬ (1048576 : Int) < (picks.len : Int) := of_decide_eq_false d
          rw [if_neg (by omega), if_neg (by rw [hany]; exact fun q => by cases q)] at hQ
          exact hQ
    refine ⟨fun e => two ?_, fun e1 => ⟨fun e => two ?_, fun e2 => ⟨fun e => two ?_, fun e3 => ?_⟩⟩⟩
    · have e : (lists.len : Int) < 1 := of_decide_eq_true e
      omega
    · have e : (8 : Int) < (lists.len : Int) := of_decide_eq_true e
      omega
    · have e : room < 1 := of_decide_eq_true e
      omega
    · have e1 : ¬ (lists.len : Int) < 1 := of_decide_eq_false e1
      have e2 : ¬ (8 : Int) < (lists.len : Int) := of_decide_eq_false e2
      have e3 : ¬ room < 1 := of_decide_eq_false e3
      by_cases z : (64 : Int) < room
      · rw [decide_eq_true z]; exact two (by omega)
      · rw [decide_eq_false z]; exact rest2 (by omega)
  refine ⟨fun e => three ?_, fun e1 => ⟨fun e => three ?_, fun e2 => ⟨fun e => three ?_, fun e3 => ?_⟩⟩⟩
  · have e : size < 0 := of_decide_eq_true e
    omega
  · have e : (1048576 : Int) < size := of_decide_eq_true e
    omega
  · have e : used < 0 := of_decide_eq_true e
    omega
  · have e1 : ¬ size < 0 := of_decide_eq_false e1
    have e2 : ¬ (1048576 : Int) < size := of_decide_eq_false e2
    have e3 : ¬ used < 0 := of_decide_eq_false e3
    by_cases z : size < used
    · rw [decide_eq_true z]; exact three (by omega)
    · rw [decide_eq_false z]; exact rest (by omega)
def RANewC (c : Int → Heap → (Den KPl → Heap → Prop) → Prop) : Prop := ∀ {size : Int} {h : Heap} {Q : Den KPl → Heap → Prop}, (¬ (0 ≤ size ∧ size ≤ 1048576) → ∀ b h', h b = none → Obj h' b KRA (0, (Sl.none, (false, (0, (Sl.none, ()))))) → Go.Mx.le h h' → Q (some (ptr b), (3, ())) h') →
  (0 ≤ size ∧ size ≤ 1048576 → ∀ b h', h b = none → Obj h' b KRA (size, (Sl.none, (false, (0, (Sl.none, ()))))) → Go.Mx.le h h' → Q (some (ptr b), (0, ())) h') → c size h Q
theorem ranew_spec : RANewC ref2_New.M := by
  intro size h Q hE hQ
  have bad : ¬ (0 ≤ size ∧ size ≤ 1048576) → ref2_New.j2 size Q (true, ()) h := fun q => ⟨fun _ => Obj.new fun b h' a o l => hE q b h' a o l, fun e => (by cases e)⟩
  refine ⟨fun e => bad (by have e : size < 0 := of_decide_eq_true e; omega), fun e => ?_⟩
  have e : ¬ size < 0 := of_decide_eq_false e
  show ref2_New.j2 size Q (decide ((1048576 : Int) < size), ()) h
  by_cases z : (1048576 : Int) < size
  · rw [decide_eq_true z]; exact bad (by omega)
  · rw [decide_eq_false z]
    exact ⟨fun e => (by cases e), fun _ => Obj.new fun b h' a o l => hQ (by omega) b h' a o l⟩
def RNewC (c : Int → Int → Int → Heap → (Den KPl → Heap → Prop) → Prop) : Prop := ∀ {size actors room : Int} {h : Heap} {Q : Den KPl → Heap → Prop},
  (¬ (0 ≤ size ∧ size ≤ 1048576 ∧ 1 ≤ actors ∧ actors ≤ 8 ∧ 1 ≤ room ∧ room ≤ 64) → ∀ bm ba h', Go.Mx.le h h' → h bm = none → h ba = none → Obj h' bm KRM (some (ptr ba), (0, (Sl.none, ()))) → Obj h' ba KRA (0, (Sl.none, (false, (0, (Sl.none, ()))))) → Q (some (ptr bm), (if ¬ (0 ≤ size ∧ size ≤ 1048576) then 3 else 210, ())) h') →
  (∀ n rm : Nat, actors = (n : Int) → room = (rm : Int) → 0 ≤ size ∧ size ≤ 1048576 → 1 ≤ n ∧ n ≤ 8 → 1 ≤ rm ∧ rm ≤ 64 → ∀ bm S h', RmR h bm (BM.new n rm size) S h' → Q (some (ptr bm), (0, ())) h') → c size actors room h Q
theorem rnew_spec {cn} (iN : RANewC cn) : RNewC (ref21_New.M cn) := by
  intro size actors room h Q hE hQ
  refine iN (fun q b h1 hb o l => ⟨fun _ => Obj.new fun bm h2 hbm om l2 => ?_, fun e => absurd (show (3 : Int) ≠ 0 by decide) (of_decide_eq_false e)⟩) fun q b h1 hb o l => ⟨fun e => absurd rfl (of_decide_eq_true e), fun _ => ?_⟩
  · have := hE (fun z => q ⟨z.1, z.2.1⟩) bm b h2 (l.trans l2) (l.none hbm) hb om (o.le l2)
    rw [if_pos q] at this
    exact this
  have bad : ¬ (1 ≤ actors ∧ actors ≤ 8 ∧ 1 ≤ room ∧ room ≤ 64) → ref21_New.j2 actors room Q (some (ptr b), (0, ())) (true, ()) h1 := by
    intro z
    refine ⟨fun _ => Obj.new fun ba h2 hba oa l2 => Obj.new fun bm h3 hbm om l3 => ?_, fun e => (by cases e)⟩
    have := hE (fun y => z y.2.2) bm ba h3 ((l.trans l2).trans l3) ((l.trans l2).none hbm) (l.none hba) om (oa.le l3)
    rw [if_neg (fun y => y q)] at this
    exact this
  have good : (1 ≤ actors ∧ actors ≤ 8 ∧ 1 ≤ room ∧ room ≤ 64) → ref21_New.j2 actors room Q (some (ptr b), (0, ())) (false, ()) h1 := by
    intro z
    refine ⟨fun e => (by cases e), fun _ => ?_⟩
    obtain ⟨n, rfl⟩ := Int.eq_ofNat_of_zero_le (show 0 ≤ actors by omega)
    obtain ⟨rm, rfl⟩ := Int.eq_ofNat_of_zero_le (show 0 ≤ room by omega)
    show deref (some (ptr b)) _
    refine deref_some ?_
    refine o.st (kf := .bool) (v := true) (off := 2) (x' := (size, (Sl.none, (true, (0, (Sl.none, ())))))) rfl (by decide) rfl fun h2 o2 x2 => ?_
    have l2 : Go.Mx.le h h2 := le_ext l x2 fun x hx => by subst hx; exact hb
    refine make_new (n := (n : Int)) (c := (n : Int)) (by omega) (Int.le_refl _) (by show ((24 : Nat) : Int) * (n : Int) ≤ _; omega) (by omega) fun s h3 n3 _ _ _ => Obj.new fun bm h4 hbm om l4 => ?_
    rw [Int.toNat_natCast] at n3
    have n3 : New h2 h3 .sl s (List.replicate n Sl.none) := n3
    have nq : Nest h h4 KWt s (List.replicate n Sl.none) ((List.range n).map (fun _ => ([] : List Wait))) := by
      have := ((Nest.init (k := KWt) n3).base l2).more l4
      rw [show (List.range n).map (fun _ => ([] : List Wait)) = List.replicate n [] by rw [List.map_const', List.length_range]]
      exact this
    have sb : ¬ blkOf s b := fun x => by have := n3.new b x; exact o2.live this
    have fn : ∀ x, fpN s (List.replicate n Sl.none) x → blkOf s x := by
      rintro x (q | ⟨sl, hm, q⟩)
      · exact q
      · rw [List.eq_of_mem_replicate hm] at q; exact absurd q no_blk
    have hbm3 : h3 bm = none := hbm
    have bmb : bm ≠ b := fun e => by subst e; exact (o2.le n3.le).live hbm
    have lall : Go.Mx.le h h4 := (l2.trans n3.le).trans l4
    have hbm0 : h bm = none := (l2.trans n3.le).none hbm
    refine hQ n rm rfl rfl q ⟨by omega, by omega⟩ ⟨by omega, by omega⟩ bm _ h4 ⟨b, Sl.none, Sl.none, s, List.replicate n Sl.none, 0, rfl, om, ⟨(o2.le n3.le).le l4, New.none lall ki, New.none lall KAcc, hb, no_blk, no_blk, fun x p _ => no_blk p⟩, rfl, nq, hbm0, ?_, fun x => ?_, fun x p => ?_⟩
    · rintro (z | z | z)
      · exact bmb z
      · exact no_blk z
      · exact no_blk z
    · have := fn _ x
      exact n3.own.live bm this hbm
    · rintro (z | z | z)
      · subst z; exact sb (fn _ p)
      · exact no_blk z
      · exact no_blk z
  refine ⟨fun e => bad (by have e : actors < 1 := of_decide_eq_true e; omega), fun e1 => ⟨fun e => bad (by have e : (8 : Int) < actors := of_decide_eq_true e; omega), fun e2 => ⟨fun e => bad (by have e : room < 1 := of_decide_eq_true e; omega), fun e3 => ?_⟩⟩⟩
  have e1 : ¬ actors < 1 := of_decide_eq_false e1
  have e2 : ¬ (8 : Int) < actors := of_decide_eq_false e2
  have e3 : ¬ room < 1 := of_decide_eq_false e3
  show ref21_New.j2 actors room Q _ (decide ((64 : Int) < room), ()) h1
  by_cases z : (64 : Int) < room
  · rw [decide_eq_true z]; exact bad (by omega)
  · rw [decide_eq_false z]; exact good (by omega)
def RUsingC (c : Int → Int → Int → Int → Heap → (Option Addr → Heap → Prop) → Prop) : Prop := ∀ {size : Int} {u n rm : Nat} {h : Heap} {Q : Option Addr → Heap → Prop}, 0 ≤ size → size ≤ 1048576 → (u : Int) ≤ size → 1 ≤ n → n ≤ 8 → 1 ≤ rm → rm ≤ 64 →
  (∀ bm S h', RmR h bm ((BM.new n rm size).used u) S h' → Q (some (ptr bm)) h') → c size u n rm h Q
theorem rusing_spec {cn} (iN : RNewC cn) : RUsingC (ref21_using.M cn) := by
  intro size u n rm h Q h1 h2 h3 h4 h5 h6 h7 hQ
  refine iN (fun q => absurd ⟨h1, h2, by omega, by omega, by omega, by omega⟩ q) fun n' rm' en er _ _ _ bm S g R => ?_
  obtain rfl : n = n' := by omega
  obtain rfl : rm = rm' := by omega
  obtain ⟨ba, c, l, qs, els, who, rfl, o⟩ := R
  refine o.ld0 ?_
  refine make_new (n := (u : Int)) (c := (u : Int)) (by omega) (Int.le_refl _) (by show ((8 : Nat) : Int) * (u : Int) ≤ _; omega) (by omega) fun s h3 n3 _ _ _ => ?_
  rw [Int.toNat_natCast] at n3
  have n3 : New g h3 ki s (List.replicate u 0) := n3
  have o3 := o.more n3.le
  refine deref_some ?_
  refine o3.ar.obj.st (kf := .sl) (v := s) (off := 1) (x' := (size, (s, (true, (who, (l, ())))))) rfl (by decide) rfl fun h4 o4 x4 => ?_
  have fb : ∀ x, x = ba → h x = none := fun x hx => by subst hx; exact o.ar.nb
  have sl : ∀ x, blkOf s x → g x = none := fun x hx => n3.new x hx
  have sb : ¬ blkOf s ba := fun x => o.ar.obj.live (sl _ x)
  have bmb : bm ≠ ba := fun e => o.d (.inl e)
  have nq := o3.q.ext x4 (fun x p q => o.dq x p (.inl q)) fb
  refine hQ bm _ h4 ⟨ba, s, l, qs, els, who, rfl, o3.obj.ext x4 bmb, ⟨o4, (n3.base o.le).ext x4 (fun x p q => by subst q; exact sb p) fb, o3.ar.log.ext x4 (fun x p q => by subst q; exact o.ar.b2 p) fb, o.ar.nb, sb, o.ar.b2, fun x p q => o.ar.log.own.live x q (sl x p)⟩, rfl, nq, o.nb, ?_, o.dm, fun x p => ?_⟩
  · rintro (z | z | z)
    · exact bmb z
    · exact o.obj.live (sl _ z)
    · exact o.d (.inr (.inr z))
  · rintro (z | z | z)
    · exact o.dq x p (.inl z)
    · exact o.q.live p (sl _ z)
    · exact o.dq x p (.inr (.inr z))

end Go.Mx
