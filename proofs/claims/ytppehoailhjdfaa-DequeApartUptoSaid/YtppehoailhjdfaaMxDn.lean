/-
  deque.New over an arena; Cells.
-/
import Derived.Test.YtppehoailhjdfaaMxAs
set_option linter.unusedVariables false
set_option linter.unusedSimpArgs false
namespace Go.Mx

def CapE (low most : Int) : Prop := 1 ≤ low ∧ low ≤ most ∧ most ≤ 4096
instance (low most : Int) : Decidable (CapE low most) := by unfold CapE; infer_instance
theorem caps_spec {low most : Int} {h : Heap} {Q : Bool → Heap → Prop} (hT : CapE low most → Q true h) (hF : ¬ CapE low most → Q false h) : deque_capsOK.M low most h Q := by
  refine ⟨fun e => ⟨fun f => ?_, fun f => ?_⟩, fun e => ?_⟩
  · have e : (1 : Int) ≤ low := of_decide_eq_true e
    have f : low ≤ most := of_decide_eq_true f
    by_cases g : most ≤ 4096
    · rw [decide_eq_true g]; exact hT ⟨e, f, g⟩
    · rw [decide_eq_false g]; exact hF fun q => g q.2.2
  · have f : ¬ low ≤ most := of_decide_eq_false f
    exact hF fun q => f q.2.1
  · have e : ¬ (1 : Int) ≤ low := of_decide_eq_false e
    exact hF fun q => e q.1
/-! ### Cells -/
def cellsGo (most : Int) : Nat → Int → Int → Int
  | 0, n, _ => n
  | k + 1, n, c => if c < most then cellsGo most k (n + 1 + (if most < 2 * c then most else 2 * c)) (if most < 2 * c then most else 2 * c) else n
def cellsOf (low most : Int) : Int := cellsGo most 4096 (4 + low) low
theorem cellsGo_end {most n c : Int} (h : ¬ c < most) : ∀ k, cellsGo most k n c = n
  | 0 => rfl
  | k + 1 => by rw [cellsGo, if_neg h]

theorem cellsGo_ge (most : Int) : ∀ (k : Nat) (n c : Int), 0 ≤ c → n ≤ cellsGo most k n c
  | 0, n, c, h => Int.le_refl _
  | k + 1, n, c, h => by
    rw [cellsGo]
    by_cases q : c < most
    · rw [if_pos q]
      have h2 : 0 ≤ (if most < 2 * c then most else 2 * c) := by split <;> omega
      have := cellsGo_ge most k (n + 1 + (if most < 2 * c then most else 2 * c)) _ h2
      omega
    · rw [if_neg q]; exact Int.le_refl _
def CellI (low most : Int) (h : Heap) (n c : Int) (k : Heap) : Prop := k = h ∧ 1 ≤ c ∧ c ≤ most ∧ 4 ≤ n ∧ n ≤ 4100 * c + 4 ∧ ∃ f : Nat, most - c ≤ (f : Int) ∧ cellsGo most f n c = cellsOf low most
theorem dcells_spec {low most : Int} {h : Heap} {c1 : Int → Int → Heap → (Bool → Heap → Prop) → Prop} (i1 : ∀ {a b h Q}, deque_capsOK.M a b h Q → c1 a b h Q) {Q : Int → Heap → Prop} (hT : CapE low most → Q (cellsOf low most) h) (hF : ¬ CapE low most → Q 0 h) : deque_Cells.M c1 low most h Q := by
  refine i1 (caps_spec (fun q => ⟨fun e => (by cases e), fun _ => ?_⟩) (fun q => ⟨fun _ => hF q, fun e => (by cases e)⟩))
  obtain ⟨q1, q2, q3⟩ := q
  refine ⟨fun s k => CellI low most h s.1 s.2.1 k, fun s k => (most - s.2.1).toNat, ?_, ?_⟩
  · have w : w64 (4 + low) = 4 + low := by rw [w64_of] <;> omega
    show CellI low most h (w64 (4 + low)) low h
    rw [w]
    exact ⟨rfl, q1, q2, by omega, by omega, 4096, by omega, rfl⟩
  rintro ⟨n, c, u⟩ k hI
  change Int at n c
  obtain ⟨rfl, a1, a2, a3, a4, f, a5, a6⟩ : CellI low most h n c k := hI
  have w2 : w64 (2 * c) = 2 * c := by rw [w64_of] <;> omega
  refine ⟨fun e => ?_, fun e => ?_⟩
  · have e : c < most := of_decide_eq_true e
    dsimp only
    rw [w2]
    obtain ⟨f, rfl⟩ : ∃ g, f = g + 1 := ⟨f - 1, by omega⟩
    rw [cellsGo, if_pos e] at a6
    have hc : 1 ≤ (if most < 2 * c then most else 2 * c) ∧ (if most < 2 * c then most else 2 * c) ≤ most ∧ c < (if most < 2 * c then most else 2 * c) := by split <;> omega
    generalize (if most < 2 * c then most else 2 * c) = c' at *
    have w3 : w64 (1 + c') = 1 + c' := by rw [w64_of] <;> omega
    have w4 : w64 (n + (1 + c')) = n + 1 + c' := by rw [w64_of] <;> omega
    show CellI low most k (w64 (n + w64 (1 + c'))) c' k ∧ (most - c').toNat < (most - c).toNat
    rw [w3, w4]
    exact ⟨⟨rfl, hc.1, hc.2.1, by omega, by omega, f, by omega, a6⟩, by omega⟩
  · have e : ¬ c < most := of_decide_eq_false e
    rw [cellsGo_end e] at a6
    show Q n k
    rw [a6]
    exact hT ⟨q1, q2, q3⟩
/-! ### New -/
/-- What it lays, over n cells that are in use. -/
def laid (low : Int) (cs : List Int) : List Int := ((cs ++ List.replicate (4 + low).toNat 0).set (cs.length + 2) ((cs.length : Int) + 3)).set (cs.length + 3) low
def laidL (low : Int) (cs : List Int) (lg : List Acc) (who : Int) : List Acc :=
  ((lg ++ [(who, (4, ((cs.length : Int), (4 + low, (0, (true, ()))))))]) ++ [(who, (1, ((cs.length : Int) + 2, ((cs.length : Int) + 3, (0, (true, ()))))))]) ++ [(who, (1, ((cs.length : Int) + 3, (low, (0, (true, ()))))))]
/-- What New tells. -/
def dqR (sz low most : Int) (cs : List Int) : Den K2 × (Int × Unit) :=
  if ¬ CapE low most then ((0, (0, ())), (30, ())) else if sz - (cs.length : Int) < 4 + low then ((0, (0, ())), (22, ())) else (((cs.length : Int), (most, ())), (0, ()))
def dqC (sz low most : Int) (cs : List Int) : List Int :=
  if ¬ CapE low most then cs else if sz - (cs.length : Int) < 4 + low then cs else laid low cs
def dqL (sz low most : Int) (cs : List Int) (lg : List Acc) (who : Int) : List Acc :=
  if ¬ CapE low most then lg else if sz - (cs.length : Int) < 4 + low then lg else laidL low cs lg who

theorem dnew_spec {h0 h : Heap} {b : Nat} {c l : Sl} {sz low most : Int} {cs : List Int} {lg : List Acc} {who : Int} (o : Ar h0 h b c l sz cs lg who true) (hl : lg.length ≤ 1000000) (hf : (cs.length : Int) ≤ sz) (hz : sz ≤ 1048576) {v : Value} (hv : isI v) (hn : isNilI v = false)
    {c1 : Int → Int → Heap → (Bool → Heap → Prop) → Prop} {c2 : Value → Int → Heap → (Den K2 → Heap → Prop) → Prop} {c3 : Value → Int → Int → Heap → (Int → Heap → Prop) → Prop} (i1 : ∀ {a b h Q}, deque_capsOK.M a b h Q → c1 a b h Q)
    (i2 : ∀ {n : Int} {Q}, (n < 1 → Q (0, (21, ())) h) → (1 ≤ n → sz - (cs.length : Int) < n → Q (0, (22, ())) h) →
      (∀ c' l' h2, 1 ≤ n → n ≤ sz - (cs.length : Int) → Ar h0 h2 b c' l' sz (cs ++ List.replicate n.toNat 0) (wl true lg (who, (4, ((cs.length : Int), (n, (0, (true, ()))))))) who true → Step (fpA b c l) (fpA b c' l') h h2 → Q ((cs.length : Int), (0, ())) h2) → c2 v n h Q)
    (i3 : ∀ {h' : Heap} {c l : Sl} {cs : List Int} {lg : List Acc} {addr x : Int} {Q}, Ar h0 h' b c l sz cs lg who true → lg.length ≤ 1000000000 → (¬ (0 ≤ addr ∧ addr < (cs.length : Int)) → Q 20 h') →
      (∀ l' h2, 0 ≤ addr ∧ addr < (cs.length : Int) → Ar h0 h2 b c l' sz (cs.set addr.toNat x) (wl true lg (who, (1, (addr, (x, (0, (true, ()))))))) who true → Step (fpA b c l) (fpA b c l') h' h2 → Q 0 h2) → c3 v addr x h' Q)
    {Q : (Den K2 × (Int × Unit)) → Heap → Prop} (hQ : ∀ c' l' h', Ar h0 h' b c' l' sz (dqC sz low most cs) (dqL sz low most cs lg who) who true → Step (fpA b c l) (fpA b c' l') h h' → Q (dqR sz low most cs) h') : deque_New.M c1 c2 c3 v low most h Q := by
  refine ⟨hv, fun e => (by rw [hn] at e; cases e), fun _ => i1 (caps_spec (fun q => ⟨fun e => (by cases e), fun _ => ?_⟩) (fun q => ⟨fun _ => ?_, fun e => (by cases e)⟩))⟩
  · have hq := q
    have hnn : ¬ ¬ CapE low most := fun e => e hq
    obtain ⟨q1, q2, q3⟩ := q
    have w1 : w64 (4 + low) = 4 + low := by rw [w64_of] <;> omega
    rw [w1]
    refine i2 (fun e => absurd e (by omega)) (fun _ r => ⟨fun _ => ?_, fun e => (by cases e)⟩) fun c' l' h2 _ r o2 s2 => ⟨fun e => (by cases e), fun _ => ?_⟩
    · have := hQ c l h
      rw [dqC, dqL, dqR, if_neg hnn, if_neg hnn, if_neg hnn, if_pos r, if_pos r, if_pos r] at this
      exact this o (.refl _ _)
    · have hlen : ((cs ++ List.replicate (4 + low).toNat (0 : Int)).length : Int) = (cs.length : Int) + 4 + low := by rw [List.length_append, List.length_replicate]; omega
      have w2 : w64 ((cs.length : Int) + 2) = (cs.length : Int) + 2 := by rw [w64_of] <;> omega
      have w3 : w64 ((cs.length : Int) + 3) = (cs.length : Int) + 3 := by rw [w64_of] <;> omega
      dsimp only
      rw [w2, w3]
      refine i3 o2 (by simp [wl]; omega) (fun e => absurd ⟨by omega, by omega⟩ e) fun l3 h3 _ o3 s3 => ⟨fun e => (by cases e), fun _ => ?_⟩
      refine i3 o3 (by simp [wl]; omega) (fun e => absurd ⟨by omega, by rw [List.length_set]; omega⟩ e) fun l4 h4 _ o4 s4 => ⟨fun e => (by cases e), fun _ => ?_⟩
      have := hQ c' l4 h4
      rw [dqC, dqL, dqR, if_neg hnn, if_neg hnn, if_neg hnn, if_neg (by omega), if_neg (by omega), if_neg (by omega)] at this
      refine this ?_ ((s2.trans s3).trans s4)
      have e1 : ((cs.length : Int) + 2).toNat = cs.length + 2 := by omega
      have e2 : ((cs.length : Int) + 3).toNat = cs.length + 3 := by omega
      rw [e1, e2] at o4
      exact o4
  · have := hQ c l h
    rw [dqC, dqL, dqR, if_pos q, if_pos q, if_pos q] at this
    exact this o (.refl _ _)

end Go.Mx
