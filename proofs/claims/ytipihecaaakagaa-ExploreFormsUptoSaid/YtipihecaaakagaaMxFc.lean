/-
  ExploreRun: what an act comes to; the program's act, the reference's do.
-/
import Derived.Test.YtipihecaaakagaaMxFb
set_option linter.unusedVariables false
set_option linter.unusedSimpArgs false
namespace Go.Mx

abbrev Ef := Den kapiEffect
/-- What an act answers, and the cells behind it. -/
def actP (sz : Int) (cs : List Int) (x : Ac) : Ef × List Int :=
  if (x.2.1 : Int) = 4 then
    if (x.2.2.2.1 : Int) < 1 then ((0, (false, (21, ()))), cs)
    else if sz - (cs.length : Int) < x.2.2.2.1 then ((0, (false, (22, ()))), cs)
    else (((cs.length : Int), (true, (0, ()))), cs ++ List.replicate (x.2.2.2.1 : Int).toNat 0)
  else if 0 ≤ (x.2.2.1 : Int) ∧ (x.2.2.1 : Int) < (cs.length : Int) then
    if (x.2.1 : Int) = 0 then (((cs[(x.2.2.1 : Int).toNat]?).getD 0, (true, (0, ()))), cs)
    else if (x.2.1 : Int) = 1 then ((0, (true, (0, ()))), cs.set (x.2.2.1 : Int).toNat x.2.2.2.1)
    else if (x.2.1 : Int) = 2 then ((0, (decide (((cs[(x.2.2.1 : Int).toNat]?).getD 0 : Int) = x.2.2.2.1), (0, ()))), if ((cs[(x.2.2.1 : Int).toNat]?).getD 0 : Int) = x.2.2.2.1 then cs.set (x.2.2.1 : Int).toNat x.2.2.2.2.1 else cs)
    else ((w64 ((cs[(x.2.2.1 : Int).toNat]?).getD 0 + x.2.2.2.1), (true, (0, ()))), cs.set (x.2.2.1 : Int).toNat (w64 ((cs[(x.2.2.1 : Int).toNat]?).getD 0 + x.2.2.2.1)))
  else ((0, (false, (20, ()))), cs)
theorem actP_len {sz : Int} {cs : List Int} {x : Ac} (h : (cs.length : Int) ≤ sz) : ((actP sz cs x).2.length : Int) ≤ sz := by
  unfold actP
  split
  · split
    · exact h
    split
    · exact h
    · rename_i a b
      have a : ¬ (x.2.2.2.1 : Int) < 1 := a
      have b : ¬ sz - (cs.length : Int) < (x.2.2.2.1 : Int) := b
      show ((cs ++ List.replicate _ _).length : Int) ≤ sz
      rw [List.length_append, List.length_replicate]
      omega
  split
  · split
    · exact h
    split
    · show ((cs.set _ _).length : Int) ≤ sz
      rw [List.length_set]; exact h
    split
    · show ((ite _ _ _ : List Int).length : Int) ≤ sz
      split
      · rw [List.length_set]; exact h
      · exact h
    · show ((cs.set _ _).length : Int) ≤ sz
      rw [List.length_set]; exact h
  · exact h

section
variable {h0 h : Heap} {b : Nat} {c l : Sl} {sz : Int} {cs : List Int} {lg : List Acc} {who : Int} (o : Ar h0 h b c l sz cs lg who false) (hl : lg.length ≤ 1000000000) (hf : (cs.length : Int) ≤ sz) (hz : sz ≤ 1048576)
  {co : Option Addr → Int → Heap → (Bool → Heap → Prop) → Prop} {cn : Option Addr → Int → Int → Int → Int → Bool → Heap → (Unit → Heap → Prop) → Prop} {ch : Option Addr → Int → Heap → (Bool → Heap → Prop) → Prop}
  {cr ct : Option Addr → Int → Heap → (Int → Heap → Prop) → Prop}
  (i0 : ∀ {a x h Q}, cells_ledger_has.M a x h Q → ch a x h Q) (i1 : ∀ {a x h Q}, cells_Arena_outside.M ch a x h Q → co a x h Q) (i2 : ∀ {a x y z u v h Q}, cells_Arena_note.M a x y z u v h Q → cn a x y z u v h Q)
  (i3 : ∀ {a x h Q}, cells_ledger_refuse.M a x h Q → cr a x h Q) (i4 : ∀ {a x h Q}, cells_ledger_take.M a x h Q → ct a x h Q)
  {cL cA : Option Addr → Int → Heap → (Den (.pair ki (.pair ki .nil)) → Heap → Prop) → Prop} {cS : Option Addr → Int → Int → Heap → (Int → Heap → Prop) → Prop} {cC : Option Addr → Int → Int → Int → Heap → ((Bool × (Int × Unit)) → Heap → Prop) → Prop}
  {cD : Option Addr → Int → Int → Heap → (Den (.pair ki (.pair ki .nil)) → Heap → Prop) → Prop}
  (jL : ∀ {a x h Q}, cells_Arena_Load.M co cn a x h Q → cL a x h Q) (jS : ∀ {a x y h Q}, cells_Arena_Store.M co cn a x y h Q → cS a x y h Q) (jC : ∀ {a x y z h Q}, cells_Arena_CAS.M co cn a x y z h Q → cC a x y z h Q)
  (jD : ∀ {a x y h Q}, cells_Arena_Add.M co cn a x y h Q → cD a x y h Q) (jA : ∀ {a x h Q}, cells_Arena_Reserve.M cr ct cn a x h Q → cA a x h Q)
include o hl hf hz i0 i1 i2 i3 i4 jL jS jC jD jA
theorem act_spec {x : Ac} (hx : badE x = false) {Q : Ef → Heap → Prop} (hQ : ∀ c' l' h', Ar h0 h' b c' l' sz (actP sz cs x).2 lg who false → Step (fpA b c l) (fpA b c' l') h h' → Q (actP sz cs x).1 h') :
    explore_act.M cL cS cC cD cA (some (ptr b)) x h Q := by
  obtain ⟨x1, kd, ad, A, B, xu⟩ := x
  change Int at kd ad A B
  unfold badE at hx
  rw [Bool.or_eq_false_iff] at hx
  have hx1 : ¬ kd < 0 := of_decide_eq_false hx.1
  have hx2 : ¬ 4 < kd := of_decide_eq_false hx.2
  unfold actP at hQ
  dsimp only at hQ
  refine ⟨fun d => ?_, fun d => ⟨fun d1 => ?_, fun d1 => ⟨fun d2 => ?_, fun d2 => ⟨fun d3 => ?_, fun d3 => ?_⟩⟩⟩⟩
  · have d : kd = 0 := of_decide_eq_true d
    subst d
    rw [if_neg (by decide)] at hQ
    refine jL (load_spec o hl i0 i1 i2 (fun e => ?_) fun v l' h' hv e o' s => ?_)
    · rw [if_neg e] at hQ; exact hQ c l h o (.refl _ _)
    · rw [if_pos e, if_pos rfl, hv] at hQ; exact hQ c l' h' o' s
  · have d : ¬ kd = 0 := of_decide_eq_false d
    have d1 : kd = 1 := of_decide_eq_true d1
    subst d1
    rw [if_neg (by decide)] at hQ
    refine jS (store_spec o hl i0 i1 i2 (fun e => ?_) fun l' h' e o' s => ?_)
    · rw [if_neg e] at hQ; exact hQ c l h o (.refl _ _)
    · rw [if_pos e, if_neg (by decide), if_pos rfl] at hQ; exact hQ c l' h' o' s
  · have d2 : kd = 2 := of_decide_eq_true d2
    subst d2
    rw [if_neg (by decide)] at hQ
    refine jC (cas_spec o hl i0 i1 i2 (fun e => ?_) fun v l' h' hv e o' s => ?_)
    · rw [if_neg e] at hQ; exact hQ c l h o (.refl _ _)
    · rw [if_pos e, if_neg (by decide), if_neg (by decide), if_pos rfl, hv] at hQ; exact hQ c l' h' o' s
  · have d3 : kd = 3 := of_decide_eq_true d3
    subst d3
    rw [if_neg (by decide)] at hQ
    refine jD (add_spec o hl i0 i1 i2 (fun e => ?_) fun v l' h' hv e o' s => ?_)
    · rw [if_neg e] at hQ; exact hQ c l h o (.refl _ _)
    · rw [if_pos e, if_neg (by decide), if_neg (by decide), if_neg (by decide), hv] at hQ; exact hQ c l' h' o' s
  · have d : ¬ kd = 0 := of_decide_eq_false d
    have d1 : ¬ kd = 1 := of_decide_eq_false d1
    have d2 : ¬ kd = 2 := of_decide_eq_false d2
    have d3 : ¬ kd = 3 := of_decide_eq_false d3
    have d4 : kd = 4 := by omega
    subst d4
    rw [if_pos rfl] at hQ
    refine jA (reserve_spec o hl hf hz i3 i4 i2 (fun e => ?_) (fun e1 e2 => ?_) fun c' l' h' e1 e2 o' s => ?_)
    · rw [if_pos e] at hQ; exact hQ c l h o (.refl _ _)
    · rw [if_neg (Int.not_lt.2 e1), if_pos e2] at hQ; exact hQ c l h o (.refl _ _)
    · rw [if_neg (Int.not_lt.2 e1), if_neg (Int.not_lt.2 e2)] at hQ; exact hQ c' l' h' o' s
end

end Go.Mx
