/-
  ParkNew: park.New over an arena, the reference's New over its memory.
-/
import Derived.Test.YtndhbkhhehleaaaMxMm
set_option linter.unusedVariables false
set_option linter.unusedSimpArgs false
namespace Go.Mx

theorem mod_spec {x n : Int} (h0 : 0 < n) (h1 : n ≤ 1000000) {h : Heap} {Q : Int → Heap → Prop} (hQ : ∀ r : Int, 0 ≤ r → r < n → Q r h) : law9_mod.M x n h Q := by
  have a1 := Int.tmod_lt_of_pos x h0
  have a2 := Int.lt_tmod_of_pos x h0
  refine ⟨by omega, fun e => ?_, fun e => ?_⟩
  · have e : Int.tmod x n < 0 := of_decide_eq_true e
    refine hQ _ ?_ ?_ <;> (show _; dsimp only; rw [w64_of] <;> omega)
  · have e : ¬ Int.tmod x n < 0 := of_decide_eq_false e
    exact hQ _ (by omega) a1


theorem arena_spec {h : Heap} {size : Int} {s : Sl} {bs : List Int} (ha : Arr h ki s bs) (h0 : 0 ≤ size) (h1 : size ≤ 1048576) (hb : (bs.length : Int) ≤ size)
    {c1 : Int → Heap → ((Option Addr × (Int × Unit)) → Heap → Prop) → Prop} {c2 : Option Addr → Int → Heap → (Den K2 → Heap → Prop) → Prop} {c3 : Option Addr → Int → Int → Heap → (Int → Heap → Prop) → Prop} {c4 : Option Addr → Bool → Heap → (Unit → Heap → Prop) → Prop}
    (i1 : ∀ {Q}, (∀ b h', Ar h h' b ⟨none, 0, 0⟩ ⟨none, 0, 0⟩ size [] [] 0 false → Q (some (ptr b), (0, ())) h') → c1 size h Q)
    (i2 : ∀ {h' : Heap} {b : Nat} {c l : Sl} {cs : List Int} {lg : List Acc} {who : Int} {wt : Bool} {n : Int} {Q}, Ar h h' b c l size cs lg who wt → lg.length ≤ 1000000000 → (cs.length : Int) ≤ size → (n < 1 → Q (0, (21, ())) h') → (1 ≤ n → size - (cs.length : Int) < n → Q (0, (22, ())) h') →
      (∀ c' l' h2, 1 ≤ n → n ≤ size - (cs.length : Int) → Ar h h2 b c' l' size (cs ++ List.replicate n.toNat 0) (wl wt lg (who, (4, ((cs.length : Int), (n, (0, (true, ()))))))) who wt → Step (fpA b c l) (fpA b c' l') h' h2 → Q ((cs.length : Int), (0, ())) h2) → c2 (some (ptr b)) n h' Q)
    (i3 : ∀ {h' : Heap} {b : Nat} {c l : Sl} {cs : List Int} {lg : List Acc} {who : Int} {wt : Bool} {addr v : Int} {Q}, Ar h h' b c l size cs lg who wt → lg.length ≤ 1000000000 → (¬ (0 ≤ addr ∧ addr < (cs.length : Int)) → Q 20 h') →
      (∀ l' h2, 0 ≤ addr ∧ addr < (cs.length : Int) → Ar h h2 b c l' size (cs.set addr.toNat v) (wl wt lg (who, (1, (addr, (v, (0, (true, ()))))))) who wt → Step (fpA b c l) (fpA b c l') h' h2 → Q 0 h2) → c3 (some (ptr b)) addr v h' Q)
    (i4 : ∀ {a x h Q}, cells_Arena_Watch.M a x h Q → c4 a x h Q)
    {Q : (Option Addr × (Bool × Unit)) → Heap → Prop} (hQ : ∀ b c l h', Ar h h' b c l size bs [] 0 true → Q (some (ptr b), (true, ())) h') : law9_arena.M c1 c2 c3 c4 size s h Q := by
  have hl := ha.1
  refine i1 fun b h2 o => ⟨fun e => (by cases e), fun _ => ⟨fun e => (by cases e), fun _ => ?_⟩⟩
  have j2 : ∀ (k : Heap) (c l : Sl) (zs : List Int), zs.length = bs.length → Ar h k b c l size zs [] 0 false → law9_arena.j2 c3 c4 s Q (some (ptr b), (0, ())) () k := by
    intro k c l zs hz o
    refine Loop.up bs.length (fun s => s.1) (fun i s k => ∃ l, Ar h k b c l size (mix i bs zs) [] 0 false) rfl ⟨l, o⟩ ?_
    rintro i ⟨j, u⟩ k go hi hc ⟨l, o⟩ hgo
    dsimp only at hc; subst hc
    refine ⟨fun q => ?_, fun q => ?_⟩
    · have q : (i : Int) < (s.len : Int) := of_decide_eq_true q
      have q' : i < bs.length := by omega
      refine ⟨⟨by omega, q⟩, (ha.le o.le).at (by omega) q rfl fun x hx => ?_⟩
      rw [Int.toNat_natCast] at hx
      refine i3 o (by simp) (fun e => absurd ⟨by omega, by rw [mix_len hz.symm, hz]; omega⟩ e) fun l' h3 e o' s' => ⟨fun e => (by cases e), fun _ => ?_⟩
      rw [Int.toNat_natCast, mix_set hz.symm hx] at o'
      exact hgo q' _ _ (by show w64 ((i : Int) + 1) = _; rw [w64_of] <;> omega) ⟨l', o'⟩
    · have q : ¬ (i : Int) < (s.len : Int) := of_decide_eq_false q
      rw [mix_all (by omega) hz.symm] at o
      exact i4 (watch_spec o fun h3 o' s' => hQ b c l h3 o')
  refine ⟨fun e => ?_, fun e => ?_⟩
  · have e : (0 : Int) < (s.len : Int) := of_decide_eq_true e
    refine i2 o (by simp) (by simpa using h0) (fun q => absurd q (by omega)) (fun _ q => absurd q (by simp; omega)) fun c' l' h3 _ _ o' s' => ?_
    refine ⟨fun e => (by cases e), fun _ => ⟨fun e => (by cases e), fun _ => ?_⟩⟩
    exact j2 h3 c' l' _ (by simp; omega) o'
  · have e : ¬ (0 : Int) < (s.len : Int) := of_decide_eq_false e
    exact j2 h2 _ _ [] (by simp; omega) o

def parkE (w : Int) : Int := if w < 1 ∨ 64 < w then 0 else 2 + w
theorem pcells_spec {w : Int} {h : Heap} {Q : Int → Heap → Prop} (hQ : Q (parkE w) h) : park_Cells.M w h Q := by
  unfold parkE at hQ
  refine ⟨fun e => ⟨fun _ => ?_, fun e => (by cases e)⟩, fun e => ⟨fun f => ?_, fun f => ?_⟩⟩
  · have e : w < 1 := of_decide_eq_true e
    rwa [if_pos (.inl e)] at hQ
  · have f : 64 < w := of_decide_eq_true f
    rwa [if_pos (.inr f)] at hQ
  · have e : ¬ w < 1 := of_decide_eq_false e
    have f : ¬ 64 < w := of_decide_eq_false f
    rw [if_neg (by omega)] at hQ
    show Q (w64 (2 + w)) h
    rw [w64_of (by omega) (by omega)]
    exact hQ

/-- What New tells. -/
def parkR (w sz : Int) (n : Nat) : Den K2 × (Int × Unit) :=
  if w < 1 ∨ 64 < w then ((0, (0, ())), (3, ())) else if sz - (n : Int) < 2 + w then ((0, (0, ())), (22, ())) else (((n : Int), (w, ())), (0, ()))
def parkC (w sz : Int) (cs : List Int) : List Int := if w < 1 ∨ 64 < w then cs else if sz - (cs.length : Int) < 2 + w then cs else cs ++ List.replicate (2 + w).toNat 0
def parkL (w sz : Int) (cs : List Int) (lg : List Acc) (who : Int) : List Acc := if w < 1 ∨ 64 < w then lg else if sz - (cs.length : Int) < 2 + w then lg else lg ++ [(who, (4, ((cs.length : Int), (2 + w, (0, (true, ()))))))]

theorem pnew_spec {h0 h : Heap} {b : Nat} {c l : Sl} {sz w : Int} {cs : List Int} {lg : List Acc} {who : Int} (o : Ar h0 h b c l sz cs lg who true) {v : Value} (hv : isI v) (hn : isNilI v = false)
    {c1 : Int → Heap → (Int → Heap → Prop) → Prop} {c2 : Value → Int → Heap → (Den K2 → Heap → Prop) → Prop} {c3 : Value → Prop} (i1 : ∀ {a h Q}, park_Cells.M a h Q → c1 a h Q)
    (i2 : ∀ {n : Int} {Q}, (n < 1 → Q (0, (21, ())) h) → (1 ≤ n → sz - (cs.length : Int) < n → Q (0, (22, ())) h) →
      (∀ c' l' h2, 1 ≤ n → n ≤ sz - (cs.length : Int) → Ar h0 h2 b c' l' sz (cs ++ List.replicate n.toNat 0) (wl true lg (who, (4, ((cs.length : Int), (n, (0, (true, ()))))))) who true → Step (fpA b c l) (fpA b c' l') h h2 → Q ((cs.length : Int), (0, ())) h2) → c2 v n h Q)
    (i3 : c3 (Value.func (.method "Reserve") (List.toArray [v]) (List.toArray [])))
    {Q : (Den K2 × (Int × Unit)) → Heap → Prop} (hQ : ∀ c' l' h', Ar h0 h' b c' l' sz (parkC w sz cs) (parkL w sz cs lg who) who true → Step (fpA b c l) (fpA b c' l') h h' → Q (parkR w sz cs.length) h') : park_New.M c1 c2 c3 v w h Q := by
  refine ⟨hv, fun e => (by rw [hn] at e; cases e), fun _ => i1 (pcells_spec ⟨fun e => ?_, fun e => ⟨i3, i1 (pcells_spec (i2 (fun q => ?_) (fun _ q => ⟨fun _ => ?_, fun e => (by cases e)⟩) fun c' l' h2 q1 q2 o' s' => ⟨fun e => (by cases e), fun _ => ?_⟩))⟩⟩)⟩
  · have e : parkE w = 0 := of_decide_eq_true e
    have hb : w < 1 ∨ 64 < w := by unfold parkE at e; split at e <;> omega
    have := hQ c l h
    rw [parkC, parkL, parkR, if_pos hb, if_pos hb, if_pos hb] at this
    exact this o (.refl _ _)
  all_goals
    have e : ¬ parkE w = 0 := of_decide_eq_false e
    have hb : ¬ (w < 1 ∨ 64 < w) := by unfold parkE at e; split at e <;> omega
    have hp : parkE w = 2 + w := by unfold parkE; rw [if_neg hb]
  · rw [hp] at q; omega
  · rw [hp] at q
    have := hQ c l h
    rw [parkC, parkL, parkR, if_neg hb, if_neg hb, if_neg hb, if_pos q, if_pos q, if_pos q] at this
    exact this o (.refl _ _)
  · rw [hp] at q1 q2 o'
    have := hQ c' l' h2
    rw [parkC, parkL, parkR, if_neg hb, if_neg hb, if_neg hb, if_neg (by omega), if_neg (by omega), if_neg (by omega)] at this
    exact this o' s'


end Go.Mx
