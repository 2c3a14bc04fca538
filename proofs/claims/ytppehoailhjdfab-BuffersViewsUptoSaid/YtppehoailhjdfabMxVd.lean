/-
  The reference's plays (plunderref21).
-/
import Derived.Test.YtppehoailhjdfabMxVc
import Derived.Test.YtppehoailhjdfabMxBg
set_option linter.unusedVariables false
set_option linter.unusedSimpArgs false
set_option linter.unusedSectionVars false
namespace Go.Mx

def RANewC (c : Int → Heap → (Den KPl → Heap → Prop) → Prop) : Prop := ∀ {size : Int} {h : Heap} {Q : Den KPl → Heap → Prop}, (¬ (0 ≤ size ∧ size ≤ 1048576) → ∀ b h', h b = none → Obj h' b KRA (0, (Sl.none, (false, (0, (Sl.none, ()))))) → Go.Mx.le h h' → Q (some (ptr b), (3, ())) h') →
  (0 ≤ size ∧ size ≤ 1048576 → ∀ b h', h b = none → Obj h' b KRA (size, (Sl.none, (false, (0, (Sl.none, ()))))) → Go.Mx.le h h' → Q (some (ptr b), (0, ())) h') → c size h Q
theorem ranew_spec : RANewC ref2_New.M := by
  intro size h Q hE hQ
  have bad : ¬ (0 ≤ size ∧ size ≤ 1048576) → ref2_New.j2 size Q (true, ()) h := fun q => ⟨fun _ => Obj.new fun b h' a o l => hE q b h' a o l, fun e => (by cases e)⟩
  refine ⟨fun e => bad (by have e : size < 0 := of_decide_eq_true e; omega), fun e => ?_⟩
  have e : ¬ size < 0 := of_decide_eq_false e
  show ref2_New.j2 size Q (decide ((1048576 : Int) < size), ()) h
  by_cases z : (1048576 : Int) < size
  · rw [decide_eq_true z]; exact bad (by omega)
  · rw [decide_eq_false z]
    exact ⟨fun e => (by cases e), fun _ => Obj.new fun b h' a o l => hQ (by omega) b h' a o l⟩
def RNewC (c : Int → Int → Int → Heap → (Den KPl → Heap → Prop) → Prop) : Prop := ∀ {size actors room : Int} {h : Heap} {Q : Den KPl → Heap → Prop},
  (¬ (0 ≤ size ∧ size ≤ 1048576 ∧ 1 ≤ actors ∧ actors ≤ 8 ∧ 1 ≤ room ∧ room ≤ 64) → ∀ bm ba h', Go.Mx.le h h' → h bm = none → h ba = none → Obj h' bm KRM (some (ptr ba), (0, (Sl.none, ()))) → Obj h' ba KRA (0, (Sl.none, (false, (0, (Sl.none, ()))))) → Q (some (ptr bm), (if ¬ (0 ≤ size ∧ size ≤ 1048576) then 3 else 210, ())) h') →
  (∀ n rm : Nat, actors = (n : Int) → room = (rm : Int) → 0 ≤ size ∧ size ≤ 1048576 → 1 ≤ n ∧ n ≤ 8 → 1 ≤ rm ∧ rm ≤ 64 → ∀ bm S h', RmR h bm (BM.new n rm size) S h' → Q (some (ptr bm), (0, ())) h') → c size actors room h Q
theorem rnew_spec {cn} (iN : RANewC cn) : RNewC (ref21_New.M cn) := by
  intro size actors room h Q hE hQ
  refine iN (fun q b h1 hb o l => ⟨fun _ => Obj.new fun bm h2 hbm om l2 => ?_, fun e => absurd (show (3 : Int) ≠ 0 by decide) (of_decide_eq_false e)⟩) fun q b h1 hb o l => ⟨fun e => absurd rfl (of_decide_eq_true e), fun _ => ?_⟩
  · have := hE (fun z => q ⟨z.1, z.2.1⟩) bm b h2 (l.trans l2) (l.none hbm) hb om (o.le l2)
    rw [if_pos q] at this
    exact this
  have bad : ¬ (1 ≤ actors ∧ actors ≤ 8 ∧ 1 ≤ room ∧ room ≤ 64) → ref21_New.j2 actors room Q (some (ptr b), (0, ())) (true, ()) h1 := by
    intro z
    refine ⟨fun _ => Obj.new fun ba h2 hba oa l2 => Obj.new fun bm h3 hbm om l3 => ?_, fun e => (by cases e)⟩
    have := hE (fun y => z y.2.2) bm ba h3 ((l.trans l2).trans l3) ((l.trans l2).none hbm) (l.none hba) om (oa.le l3)
    rw [if_neg (fun y => y q)] at this
    exact this
  have good : (1 ≤ actors ∧ actors ≤ 8 ∧ 1 ≤ room ∧ room ≤ 64) → ref21_New.j2 actors room Q (some (ptr b), (0, ())) (false, ()) h1 := by
    intro z
    refine ⟨fun e => (by cases e), fun _ => ?_⟩
    obtain ⟨n, rfl⟩ := Int.eq_ofNat_of_zero_le (show 0 ≤ actors by omega)
    obtain ⟨rm, rfl⟩ := Int.eq_ofNat_of_zero_le (show 0 ≤ room by omega)
    show deref (some (ptr b)) _
    refine deref_some ?_
    refine o.st (kf := .bool) (v := true) (off := 2) (x' := (size, (Sl.none, (true, (0, (Sl.none, ())))))) rfl (by decide) rfl fun h2 o2 x2 => ?_
    have l2 : Go.Mx.le h h2 := le_ext l x2 fun x hx => by subst hx; exact hb
    refine make_new (n := (n : Int)) (c := (n : Int)) (by omega) (Int.le_refl _) (by show ((24 : Nat) : Int) * (n : Int) ≤ _; omega) (by omega) fun s h3 n3 _ _ _ => Obj.new fun bm h4 hbm om l4 => ?_
    rw [Int.toNat_natCast] at n3
    have n3 : New h2 h3 .sl s (List.replicate n Sl.none) := n3
    have nq : Nest h h4 KWt s (List.replicate n Sl.none) ((List.range n).map (fun _ => ([] : List Wait))) := by
      have := ((Nest.init (k := KWt) n3).base l2).more l4
      rw [show (List.range n).map (fun _ => ([] : List Wait)) = List.replicate n [] by rw [List.map_const', List.length_range]]
      exact this
    have sb : ¬ blkOf s b := fun x => by have := n3.new b x; exact o2.live this
    have fn : ∀ x, fpN s (List.replicate n Sl.none) x → blkOf s x := by
      rintro x (q | ⟨sl, hm, q⟩)
      · exact q
      · rw [List.eq_of_mem_replicate hm] at q; exact absurd q no_blk
    have hbm3 : h3 bm = none := hbm
    have bmb : bm ≠ b := fun e => by subst e; exact (o2.le n3.le).live hbm
    have lall : Go.Mx.le h h4 := (l2.trans n3.le).trans l4
    have hbm0 : h bm = none := (l2.trans n3.le).none hbm
    refine hQ n rm rfl rfl q ⟨by omega, by omega⟩ ⟨by omega, by omega⟩ bm _ h4 ⟨b, Sl.none, Sl.none, s, List.replicate n Sl.none, 0, rfl, om, ⟨(o2.le n3.le).le l4, New.none lall ki, New.none lall KAcc, hb, no_blk, no_blk, fun x p _ => no_blk p⟩, rfl, nq, hbm0, ?_, fun x => ?_, fun x p => ?_⟩
    · rintro (z | z | z)
      · exact bmb z
      · exact no_blk z
      · exact no_blk z
    · have := fn _ x
      exact n3.own.live bm this hbm
    · rintro (z | z | z)
      · subst z; exact sb (fn _ p)
      · exact no_blk z
      · exact no_blk z
  refine ⟨fun e => bad (by have e : actors < 1 := of_decide_eq_true e; omega), fun e1 => ⟨fun e => bad (by have e : (8 : Int) < actors := of_decide_eq_true e; omega), fun e2 => ⟨fun e => bad (by have e : room < 1 := of_decide_eq_true e; omega), fun e3 => ?_⟩⟩⟩
  have e1 : ¬ actors < 1 := of_decide_eq_false e1
  have e2 : ¬ (8 : Int) < actors := of_decide_eq_false e2
  have e3 : ¬ room < 1 := of_decide_eq_false e3
  show ref21_New.j2 actors room Q _ (decide ((64 : Int) < room), ()) h1
  by_cases z : (64 : Int) < room
  · rw [decide_eq_true z]; exact bad (by omega)
  · rw [decide_eq_false z]; exact good (by omega)
def RUsingC (c : Int → Int → Int → Int → Heap → (Option Addr → Heap → Prop) → Prop) : Prop := ∀ {size : Int} {u n rm : Nat} {h : Heap} {Q : Option Addr → Heap → Prop}, 0 ≤ size → size ≤ 1048576 → (u : Int) ≤ size → 1 ≤ n → n ≤ 8 → 1 ≤ rm → rm ≤ 64 →
  (∀ bm S h', RmR h bm ((BM.new n rm size).used u) S h' → Q (some (ptr bm)) h') → c size u n rm h Q

end Go.Mx
