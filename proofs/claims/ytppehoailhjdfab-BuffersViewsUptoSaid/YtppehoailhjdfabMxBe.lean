/-
  buffers.New, use, judged, Play.
-/
import Derived.Test.YtppehoailhjdfabMxBd
import Derived.Test.YtppehoailhjdfabMxNe
set_option linter.unusedVariables false
set_option linter.unusedSimpArgs false
set_option linter.unusedSectionVars false
namespace Go.Mx

theorem tmod_emodB (x n : Int) (h : 0 < n) : Int.tmod x n < 0 ∧ Int.tmod x n + n = x % n ∨ 0 ≤ Int.tmod x n ∧ Int.tmod x n = x % n := by
  rcases Int.lt_or_le x 0 with hx | hx
  · have h1 : Int.tmod x n = -(Int.tmod (-x) n) := by rw [Int.neg_tmod]; omega
    have h2 : Int.tmod (-x) n = (-x) % n := Int.tmod_eq_emod_of_nonneg (by omega)
    have h3 := Int.emod_nonneg (-x) (b := n) (by omega)
    have h4 := Int.emod_lt_of_pos (-x) h
    have h5 := Int.emod_nonneg x (b := n) (by omega)
    have h6 := Int.emod_lt_of_pos x h
    have h7 := Int.emod_def (-x) n
    have h8 := Int.emod_def x n
    by_cases z : (-x) % n = 0
    · right
      have : x % n = 0 := by
        have h9 : x % n = n * ((-x) / n) * -1 + x % n - x + x - n * ((-x) / n) * -1 := by omega
        have h10 : (-x) = n * ((-x) / n) := by omega
        have h11 : x = n * (-((-x) / n)) := by rw [Int.mul_neg]; omega
        rw [h11]; exact Int.mul_emod_right _ _
      omega
    · left
      refine ⟨by omega, ?_⟩
      -- x % n = n - (-x) % n
      have h10 : x = n * (-((-x) / n) - 1) + (n - (-x) % n) := by rw [Int.mul_sub, Int.mul_neg]; omega
      have h11 : x % n = (n - (-x) % n) := by
        conv => lhs; rw [h10]
        rw [Int.mul_add_emod_self_left]
        exact Int.emod_eq_of_lt (by omega) (by omega)
      omega
  · right
    have h2 : Int.tmod x n = x % n := Int.tmod_eq_emod_of_nonneg hx
    have h5 := Int.emod_nonneg x (b := n) (by omega)
    omega
theorem mod_rangeB {x n : Int} (h : 0 < n) : 0 ≤ x % n ∧ x % n < n := ⟨Int.emod_nonneg x (by omega), Int.emod_lt_of_pos x h⟩
def ModC (c : Int → Int → Heap → (Int → Heap → Prop) → Prop) : Prop := ∀ {x n : Int} {h : Heap} {Q : Int → Heap → Prop}, 0 < n → n ≤ 1000000000 → Q (x % n) h → c x n h Q

/-! ### New -/
def BM.new (n room : Nat) (sz : Int) : BM := ⟨n, room, sz, [], [], true, fun _ => []⟩
theorem BM.new_ok {n room : Nat} {sz : Int} (h1 : n ≤ 8) (h2 : 1 ≤ room) (h3 : room ≤ 64) (h4 : 0 ≤ sz) (h5 : sz ≤ 1048576) : (BM.new n room sz).Ok 0 := ⟨h1, h2, h3, h4, h5, Nat.le_refl _, fun _ => Nat.zero_le _, fun _ _ h => (by cases h), fun _ _ => rfl⟩
def ANewC (c : Int → Heap → (Den KPl → Heap → Prop) → Prop) : Prop := ∀ {size : Int} {h : Heap} {Q : Den KPl → Heap → Prop}, (¬ (0 ≤ size ∧ size ≤ 1048576) → Q (none, (3, ())) h) →
  (0 ≤ size ∧ size ≤ 1048576 → ∀ b h', Ar h h' b ⟨none, 0, 0⟩ ⟨none, 0, 0⟩ size [] [] 0 false → Q (some (ptr b), (0, ())) h') → c size h Q
def BNewC (c : Int → Int → Int → Heap → (Den KPl → Heap → Prop) → Prop) : Prop := ∀ {size actors room : Int} {h : Heap} {Q : Den KPl → Heap → Prop}, (¬ (0 ≤ size ∧ size ≤ 1048576) → Q (none, (3, ())) h) →
  (0 ≤ size ∧ size ≤ 1048576 → ¬ (1 ≤ actors ∧ actors ≤ 8 ∧ 1 ≤ room ∧ room ≤ 64) → ∀ h', Go.Mx.le h h' → Q (none, (210, ())) h') →
  (∀ n rm : Nat, 0 ≤ size ∧ size ≤ 1048576 → actors = n → 1 ≤ n → n ≤ 8 → room = rm → 1 ≤ rm → rm ≤ 64 → ∀ bm S h', BmR h bm (BM.new n rm size) S h' → Q (some (ptr bm), (0, ())) h') → c size actors room h Q
theorem vsOf_zero (b : Nat) : vsOf b 0 = fun _ => ((none, (0, ())), ()) := by
  funext i
  exact if_neg (Nat.not_lt_zero _)
theorem vsOf_succ (b n : Nat) : aput (vsOf b n) n ((some (ptr b), ((n : Int), ())), ()) = vsOf b (n + 1) := by
  funext i
  unfold aput vsOf
  by_cases e : i.val = n
  · rw [if_pos e, if_pos (by omega), e]
  · rw [if_neg e]
    by_cases q : i.val < n
    · rw [if_pos q, if_pos (by omega)]
    · rw [if_neg q, if_neg (by omega)]
theorem bnew_spec {cn cw} (iN : ANewC cn) (iW : WatchC cw) : BNewC (buffers_New.M cn cw) := by
  intro size actors room h Q hE hB hQ
  refine iN (fun q => ⟨fun _ => hE q, fun e => (by cases e)⟩) fun hz ba h1 o1 => ⟨fun e => (by cases e), fun _ => ?_⟩
  have bad : ¬ (1 ≤ actors ∧ actors ≤ 8 ∧ 1 ≤ room ∧ room ≤ 64) → buffers_New.j3 cw actors room Q (some (ptr ba), (0, ())) (true, ()) h1 := fun q => ⟨fun _ => hB hz q h1 o1.le, fun e => (by cases e)⟩
  refine ⟨fun e => bad ?_, fun e => ⟨fun f => bad ?_, fun f => ⟨fun g => bad ?_, fun g => ⟨fun d => hB hz ?_ h1 o1.le, fun d => ?_⟩⟩⟩⟩
  · have e : actors < 1 := of_decide_eq_true e
    omega
  · have f : 8 < actors := of_decide_eq_true f
    omega
  · have g : room < 1 := of_decide_eq_true g
    omega
  · have d : 64 < room := of_decide_eq_true d
    omega
  have e : ¬ actors < 1 := of_decide_eq_false e
  have f : ¬ 8 < actors := of_decide_eq_false f
  have g : ¬ room < 1 := of_decide_eq_false g
  have d : ¬ 64 < room := of_decide_eq_false d
  obtain ⟨n, rfl⟩ := Int.eq_ofNat_of_zero_le (show 0 ≤ actors by omega)
  obtain ⟨rm, rfl⟩ := Int.eq_ofNat_of_zero_le (show 0 ≤ room by omega)
  have hQ := hQ n rm hz rfl (by omega) (by omega) rfl (by omega) (by omega)
  refine iW o1 fun h2 a2 s2 => ?_
  have l2 : Go.Mx.le h h2 := a2.le
  refine Obj.new (k := KBm) fun bm h3 hb ob l3 => ?_
  have hne : bm ≠ ba := fun q => by subst q; exact a2.obj.live hb
  rw [← vsOf_zero bm] at ob
  have f0 : ∀ x, x = bm → h x = none := fun x q => by subst q; exact l2.none hb
  refine Loop.up n (fun s => s.1) (fun i _ k => Obj k bm KBm (some (ptr ba), ((n : Int), ((rm : Int), ((fun _ => Sl.none), (vsOf bm i, ()))))) ∧ Ext (· = bm) h3 k) rfl ⟨ob, .refl _ _⟩ ?_
  rintro i ⟨i', u⟩ k go hi hc ⟨oi, xi⟩ hgo
  dsimp only at hc; subst hc
  refine ⟨fun q => ?_, fun q => ?_⟩
  · have q : (i : Int) < (n : Int) := of_decide_eq_true q
    refine ⟨⟨by omega, by dsimp only; omega⟩, ?_⟩
    refine oi.stArr (ka := KVw) (f := vsOf bm i) (i := i) (off := 11) (v := ((some (ptr bm), ((i : Int), ())), ())) (x' := (some (ptr ba), ((n : Int), ((rm : Int), ((fun _ => Sl.none), (vsOf bm (i + 1), ())))))) (by omega) rfl
      ⟨.pointer (some (ptr ba)) :: .int .i64 n :: .int .i64 rm :: (Kd.cells (.arr 8 .sl) fun _ => Sl.none), [], ?_, ?_, rfl⟩ (fun h' o' x' => hgo (by omega) _ _ ?_ ⟨o', xi.trans x'⟩) (by rw [add_add']; rfl)
    · show _ :: _ :: _ :: (_ ++ _) = _; simp [Kd.cells]
    · rw [vsOf_succ]; show _ :: _ :: _ :: (_ ++ _) = _; simp [Kd.cells]
    · show w64 ((i : Int) + 1) = _
      rw [w64_of] <;> omega
  · have q : ¬ (i : Int) < (n : Int) := of_decide_eq_false q
    obtain rfl : i = n := by omega
    have l3' : Go.Mx.le h h3 := l2.trans l3
    refine hQ bm _ k ⟨ba, ⟨none, 0, 0⟩, ⟨none, 0, 0⟩, 0, _, rfl, oi, ?_, fun j => Tl.nil (le_ext l3' xi f0) _, l2.none hb, ?_, fun j => no_blk, fun j x hx => absurd hx no_blk, fun i j _ x hx => absurd hx no_blk⟩
    · refine (a2.more l3).ext xi (fun x hx q => ?_) f0
      subst q
      exact a2.live hx hb
    · rintro (q | q | q)
      · exact hne q
      · exact no_blk q
      · exact no_blk q
def BM.used (M : BM) (u : Nat) : BM := { M with cs := List.replicate u 0 }
def UseC (c : Option Addr → Int → Heap → (Unit → Heap → Prop) → Prop) : Prop := ∀ {h0 h : Heap} {bm n rm : Nat} {sz : Int} {S : Nat → Prop} {u : Nat} {Q : Unit → Heap → Prop}, BmR h0 bm (BM.new n rm sz) S h → sz ≤ 1048576 → 1 ≤ u → (u : Int) ≤ sz →
  (∀ S' h', BmR h0 bm ((BM.new n rm sz).used u) S' h' → Q () h') → c (some (ptr bm)) u h Q

/-! ### lists that may be read -/
def Arr2 (h : Heap) (k : Kd) (s : Sl) (xss : List (List (Den k))) : Prop := ∃ sls, Arr h .sl s sls ∧ sls.length = xss.length ∧ ∀ (i : Nat) sl xs, sls[i]? = some sl → xss[i]? = some xs → Arr h k sl xs
theorem Arr2.le {h h' : Heap} {k : Kd} {s : Sl} {xss : List (List (Den k))} (a : Arr2 h k s xss) (l : Go.Mx.le h h') : Arr2 h' k s xss := by
  obtain ⟨sls, a1, a2, a3⟩ := a
  exact ⟨sls, a1.le l, a2, fun i sl xs p q => (a3 i sl xs p q).le l⟩
theorem Arr2.len {h : Heap} {k : Kd} {s : Sl} {xss : List (List (Den k))} (a : Arr2 h k s xss) : s.len = xss.length := by
  obtain ⟨sls, a1, a2, a3⟩ := a
  rw [← a1.1, a2]

def judgedP (size used room : Int) (ls : List (List AMv)) (np : Nat) : Int :=
  if size < 0 ∨ 1048576 < size ∨ used < 0 ∨ size < used then 3 else if ls.length < 1 ∨ 8 < ls.length ∨ room < 1 ∨ 64 < room then 210 else if 1048576 < np then 2 else if ls.any fun l => decide (4096 < l.length) then 2 else 0
def JudgedC (c : Int → Int → Int → Sl → Sl → Heap → (Int → Heap → Prop) → Prop) : Prop := ∀ {size used room : Int} {lists picks : Sl} {h : Heap} {ls : List (List AMv)} {ps : List Int} {Q : Int → Heap → Prop}, Arr2 h KMv lists ls → Arr h ki picks ps → Q (judgedP size used room ls ps.length) h → c size used room lists picks h Q

end Go.Mx
