/-
  DequeNew: the reference's New and Cells.
-/
import Derived.Test.YtppehoailhjdfaaMxPl
import Derived.Test.YtppehoailhjdfaaMxDn
set_option linter.unusedVariables false
set_option linter.unusedSimpArgs false
namespace Go.Mx

theorem rcap_spec {low most : Int} {h : Heap} {Q : Bool → Heap → Prop} (hT : CapE low most → Q true h) (hF : ¬ CapE low most → Q false h) : ref3_CapOK.M low most h Q := caps_spec hT hF

theorem rcells3_spec {low most : Int} {h : Heap} {c1 : Int → Int → Heap → (Bool → Heap → Prop) → Prop} (i1 : ∀ {a b h Q}, ref3_CapOK.M a b h Q → c1 a b h Q) {Q : Int → Heap → Prop} (hT : CapE low most → Q (cellsOf low most) h) (hF : ¬ CapE low most → Q 0 h) : ref3_Cells.M c1 low most h Q := by
  refine i1 (rcap_spec (fun q => ⟨fun e => (by cases e), fun _ => ?_⟩) (fun q => ⟨fun _ => hF q, fun e => (by cases e)⟩))
  obtain ⟨q1, q2, q3⟩ := q
  refine ⟨fun s k => CellI low most h s.1 s.2.1 k, fun s k => (most - s.2.1).toNat, ?_, ?_⟩
  · have w : w64 (4 + low) = 4 + low := by rw [w64_of] <;> omega
    show CellI low most h (w64 (4 + low)) low h
    rw [w]
    exact ⟨rfl, q1, q2, by omega, by omega, 4096, by omega, rfl⟩
  rintro ⟨n, c, u⟩ k hI
  change Int at n c
  obtain ⟨rfl, a1, a2, a3, a4, f, a5, a6⟩ : CellI low most h n c k := hI
  have w2 : w64 (2 * c) = 2 * c := by rw [w64_of] <;> omega
  refine ⟨fun e => ?_, fun e => ?_⟩
  · have e : c < most := of_decide_eq_true e
    dsimp only
    rw [w2]
    obtain ⟨f, rfl⟩ : ∃ g, f = g + 1 := ⟨f - 1, by omega⟩
    rw [cellsGo, if_pos e] at a6
    have hc : 1 ≤ (if most < 2 * c then most else 2 * c) ∧ (if most < 2 * c then most else 2 * c) ≤ most ∧ c < (if most < 2 * c then most else 2 * c) := by split <;> omega
    generalize (if most < 2 * c then most else 2 * c) = c' at *
    have w3 : w64 (n + 1) = n + 1 := by rw [w64_of] <;> omega
    have w4 : w64 (n + 1 + c') = n + 1 + c' := by rw [w64_of] <;> omega
    show CellI low most k (w64 (w64 (n + 1) + c')) c' k ∧ (most - c').toNat < (most - c).toNat
    rw [w3, w4]
    exact ⟨⟨rfl, hc.1, hc.2.1, by omega, by omega, f, by omega, a6⟩, by omega⟩
  · have e : ¬ c < most := of_decide_eq_false e
    rw [cellsGo_end e] at a6
    show Q n k
    rw [a6]
    exact hT ⟨q1, q2, q3⟩

theorem rdnew_spec {h0 h : Heap} {b : Nat} {c l : Sl} {sz low most : Int} {cs : List Int} {lg : List Acc} {who : Int} (o : MmS h0 h b c l sz cs lg who) (hl : lg.length ≤ 1000000) (hf : (cs.length : Int) ≤ sz) (hz : sz ≤ 1048576)
    {c1 : Int → Int → Heap → (Bool → Heap → Prop) → Prop} {c2 : Option Addr → Wt → Heap → ((Int × (Bool × Unit)) → Heap → Prop) → Prop} {c3 : Int → Int → Heap → (Wt → Heap → Prop) → Prop} (i1 : ∀ {a b h Q}, ref3_CapOK.M a b h Q → c1 a b h Q)
    (i2 : ∀ {a w h Q}, ref3_Mem_Do.M a w h Q → c2 a w h Q) (i3 : ∀ {a x h Q}, ref3_store.M a x h Q → c3 a x h Q)
    {Q : (Den K2 × (Int × Unit)) → Heap → Prop} (hQ : ∀ c' l' h', MmS h0 h' b c' l' sz (dqC sz low most cs) (dqL sz low most cs lg who) who → Step (fpA b c l) (fpA b c' l') h h' → Q (dqR sz low most cs) h') : ref3_New.M c1 c2 c3 (some (ptr b)) low most h Q := by
  refine i1 (rcap_spec (fun q => ⟨fun e => (by cases e), fun _ => ?_⟩) (fun q => ⟨fun _ => ?_, fun e => (by cases e)⟩))
  · have hq := q
    have hnn : ¬ ¬ CapE low most := fun e => e hq
    obtain ⟨q1, q2, q3⟩ := q
    have w1 : w64 (4 + low) = 4 + low := by rw [w64_of] <;> omega
    rw [w1]
    refine i2 (do_reserve o (by omega) hf hz (fun r => ⟨fun _ => ?_, fun e => (by cases e)⟩) fun c' l' h2 _ r o2 s2 => ⟨fun e => (by cases e), fun _ => ?_⟩)
    · have r : sz - (cs.length : Int) < 4 + low := by omega
      have := hQ c l h
      rw [dqC, dqL, dqR, if_neg hnn, if_neg hnn, if_neg hnn, if_pos r, if_pos r, if_pos r] at this
      exact this o (.refl _ _)
    · have hlen : ((cs ++ List.replicate (4 + low).toNat (0 : Int)).length : Int) = (cs.length : Int) + 4 + low := by rw [List.length_append, List.length_replicate]; omega
      have w2 : w64 ((cs.length : Int) + 2) = (cs.length : Int) + 2 := by rw [w64_of] <;> omega
      have w3 : w64 ((cs.length : Int) + 3) = (cs.length : Int) + 3 := by rw [w64_of] <;> omega
      dsimp only
      rw [w2, w3]
      refine i3 (i2 (do_store o2 (by simp; omega) (by omega) hz (fun e => absurd ⟨by omega, by omega⟩ e) fun l3 h3 _ o3 s3 => ?_))
      refine i3 (i2 (do_store o3 (by simp; omega) (by rw [List.length_set]; omega) hz (fun e => absurd ⟨by omega, by rw [List.length_set]; omega⟩ e) fun l4 h4 _ o4 s4 => ?_))
      have := hQ c' l4 h4
      rw [dqC, dqL, dqR, if_neg hnn, if_neg hnn, if_neg hnn, if_neg (by omega), if_neg (by omega), if_neg (by omega)] at this
      refine this ?_ ((s2.trans s3).trans s4)
      have e1 : ((cs.length : Int) + 2).toNat = cs.length + 2 := by omega
      have e2 : ((cs.length : Int) + 3).toNat = cs.length + 3 := by omega
      rw [e1, e2] at o4
      exact o4
  · have := hQ c l h
    rw [dqC, dqL, dqR, if_pos q, if_pos q, if_pos q] at this
    exact this o (.refl _ _)

end Go.Mx
