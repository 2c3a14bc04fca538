/-
  ExploreRun: lists of picks; scripts.
-/
import Derived.Test.YtipihecaaakagaaMxEd
import Derived.Test.YtipihecaaakagaaMxNe
set_option linter.unusedVariables false
set_option linter.unusedSimpArgs false
namespace Go.Mx

theorem w64_up' {i n : Nat} (h : i < n) (hn : n ≤ 2000000000) : w64 ((i : Int) + 1) = ((i + 1 : Nat) : Int) := by rw [w64_of] <;> omega

theorem same_spec {a b : Sl} {h : Heap} {xs : List Int} (ha : Arr h ki a xs) (hb : Arr h ki b xs) (hn : xs.length ≤ 1048576) {Q : Bool → Heap → Prop} (hQ : Q true h) : law22_same.M a b h Q :=
  show law22_sameCells.M a b h Q from sameCells_spec ha hb hn hQ




/-! ### scripts -/
def cnt (ps : List Int) (i : Nat) : Nat := (ps.filter fun p => decide (p = (i : Int))).length
def InR (n : Nat) (ps : List Int) : Prop := ∀ p ∈ ps, 0 ≤ p ∧ p < (n : Int)
/-- Each actor stands there as often as it has acts. -/
def ScriptP (lens : List Nat) (ps : List Int) : Prop := InR lens.length ps ∧ ∀ (i l : Nat), lens[i]? = some l → cnt ps i = l
theorem cnt_app (ps qs : List Int) (i : Nat) : cnt (ps ++ qs) i = cnt ps i + cnt qs i := by simp [cnt]
theorem cnt_one (p : Int) (i : Nat) : cnt [p] i = if p = (i : Int) then 1 else 0 := by
  unfold cnt
  by_cases h : p = (i : Int) <;> simp [h]
theorem cnt_take (ps : List Int) (j i : Nat) : cnt (ps.take j) i ≤ cnt ps i := by
  conv => rhs; rw [← List.take_append_drop j ps]
  rw [cnt_app]; omega

theorem pos_spec {n : Int} {h : Heap} {Q : Bool → Heap → Prop} (hQ : Q (decide (0 < n)) h) : explore_isScript_1.M n h Q := hQ
theorem index_spec {s : Sl} {h : Heap} {ls : List Int} (ha : Arr h ki s ls) (hn : ls.length ≤ 1048576) {f : Value} {c1 : Value → Int → Heap → (Bool → Heap → Prop) → Prop} (i1 : ∀ {n : Int} {h : Heap} {Q : Bool → Heap → Prop}, Q (decide (0 < n)) h → c1 f n h Q)
    {Q : Int → Heap → Prop} (hT : (∃ x ∈ ls, 0 < x) → ∀ r : Int, 0 ≤ r → Q r h) (hF : (¬ ∃ x ∈ ls, 0 < x) → Q (-1) h) : slices_IndexFunc_int_int.M c1 s f h Q := by
  have hl := ha.1
  refine Loop.up ls.length (fun s => s.1) (fun i st k => k = h ∧ ¬ ∃ x ∈ ls.take i, 0 < x) rfl ⟨rfl, by simp⟩ ?_
  rintro i ⟨j, u⟩ k go hi hc ⟨rfl, hI⟩ hgo
  dsimp only at hc; subst hc
  refine ⟨fun e => ?_, fun e => ?_⟩
  · have e : (i : Int) < (s.len : Int) := of_decide_eq_true e
    have hlt : i < ls.length := by omega
    refine ⟨⟨by omega, e⟩, ha.at (by omega) e rfl fun x hx => i1 ⟨fun d => ?_, fun d => ?_⟩⟩
    · obtain rfl : ls[i] = x := by simpa [hlt] using hx
      exact hT ⟨ls[i], by simp, of_decide_eq_true d⟩ _ (Int.natCast_nonneg i)
    · obtain rfl : ls[i] = x := by simpa [hlt] using hx
      have d : ¬ 0 < ls[i] := of_decide_eq_false d
      refine hgo hlt _ _ (w64_up' (n := ls.length) hlt (by omega)) ⟨rfl, ?_⟩
      rw [take_succ' ls hlt]
      rintro ⟨x, hx, hp⟩
      rcases List.mem_append.1 hx with hx | hx
      · exact hI ⟨x, hx, hp⟩
      · obtain rfl : x = ls[i] := by simpa using hx
        exact d hp
  · have e : ¬ (i : Int) < (s.len : Int) := of_decide_eq_false e
    rw [List.take_of_length_le (by omega)] at hI
    exact hF hI

theorem isScript_spec {s : Sc} {t : Sl} {h : Heap} {bs ps : List Int} {xss : List (List Ac)} (r : ScR h s bs xss) (hs : Small bs xss) (hp : Arr h ki t ps) (hn : ps.length ≤ 1048576)
    {c1 : Sl → Value → Heap → (Bool → Heap → Prop) → Prop} (i1 : ∀ {s : Sl} {ls : List Int} {h : Heap} {Q : Bool → Heap → Prop}, Arr h ki s ls → ls.length ≤ 1048576 → (∀ b : Bool, (b = true ↔ ∃ x ∈ ls, 0 < x) → Q b h) → c1 s (Value.func (.func 85) #[] #[]) h Q)
    {Q : Bool → Heap → Prop} (hQ : ∀ b h', (b = true ↔ ScriptP (xss.map List.length) ps) → le h h' → Q b h') : explore_isScript.M c1 s t h Q := by
  obtain ⟨size, bg, lsl, u0⟩ := s
  obtain ⟨r1, sls, r2, r3, r4⟩ := r
  dsimp only at r1 r2
  have hsl : lsl.len = xss.length := by rw [← r3, r2.1]
  have hs2 := hs.2.1
  have hpl := hp.1
  refine make_new (by omega) (Int.le_refl _) (by show ((8 : Nat) : Int) * (lsl.len : Int) ≤ _; omega) (by show (lsl.len : Int) ≤ _; omega) fun l h1 n1 l1 c1' a1 => ?_
  rw [Int.toNat_natCast] at n1 l1
  have n1 : New h h1 ki l (List.replicate lsl.len (0 : Int)) := n1
  have l1 : l.len = lsl.len := l1
  have hz : (xss.map fun xs => (xs.length : Int)).length = (List.replicate lsl.len (0 : Int)).length := by simp [hsl]
  refine Loop.up xss.length (fun s => s.1) (fun i st k => New h k ki l (mix i (xss.map fun xs => (xs.length : Int)) (List.replicate lsl.len (0 : Int)))) rfl n1 ?_
  rintro i ⟨j, u⟩ k go hi hc n hgo
  dsimp only at hc; subst hc
  refine ⟨fun e => ?_, fun e => ?_⟩
  · have e : (i : Int) < (lsl.len : Int) := of_decide_eq_true e
    have hlt : i < xss.length := by omega
    refine ⟨⟨by omega, e⟩, (r2.le n.le).at (by omega) e rfl fun x hx => ?_⟩
    rw [Int.toNat_natCast] at hx
    have hxl := (r4 i x xss[i] hx (by simp)).1
    refine ⟨⟨by omega, by omega⟩, n.set (by omega) (by omega) rfl rfl fun h2 n2 x2 => ?_⟩
    rw [Int.toNat_natCast, ← hxl, mix_set (i := i) (x := (xss[i].length : Int)) hz (by simp [hlt])] at n2
    exact hgo hlt _ _ (w64_up' (n := xss.length) hlt (by omega)) n2
  have e : ¬ (i : Int) < (lsl.len : Int) := of_decide_eq_false e
  rw [mix_all (by simp; omega) hz] at n
  clear hgo e hi
  generalize hlens : xss.map List.length = lens at hQ
  have hln : lens.length = xss.length := by rw [← hlens]; simp
  have hl0 : ∀ (i m : Nat), lens[i]? = some m → (xss.map fun xs => (xs.length : Int))[i]? = some ((m : Nat) : Int) := by
    intro i m e
    rw [← hlens, List.getElem?_map] at e
    rw [List.getElem?_map]
    cases q : xss[i]? with
    | none => rw [q] at e; cases e
    | some xs => rw [q] at e; simp at e; simp [e]
  have hmx : ∀ (i m : Nat), lens[i]? = some m → m ≤ 1048576 := by
    intro i m e
    rw [← hlens, List.getElem?_map] at e
    cases q : xss[i]? with
    | none => rw [q] at e; cases e
    | some xs => rw [q] at e; simp at e; rw [← e]; exact hs.at q
  refine Loop.up ps.length (fun s => s.1) (fun j st k => ∃ ls : List Int, New h k ki l ls ∧ ls.length = lens.length ∧ InR lens.length (ps.take j) ∧
    ∀ (i m : Nat), lens[i]? = some m → ls[i]? = some ((m : Int) - (cnt (ps.take j) i : Int)) ∧ cnt (ps.take j) i ≤ m) rfl ⟨_, n, by simp [hln], fun p hp => by simp at hp, fun i m e => ⟨by rw [hl0 i m e]; simp [cnt], by simp [cnt]⟩⟩ ?_
  rintro j ⟨j', u'⟩ k2 go2 hj hc ⟨ls, n, hll, hin, hI⟩ hgo2
  dsimp only at hc; subst hc
  have hLl := n.len
  refine ⟨fun e => ?_, fun e => ?_⟩
  · have e : (j : Int) < (t.len : Int) := of_decide_eq_true e
    have hjt : j < ps.length := by omega
    refine ⟨⟨by omega, e⟩, (hp.le n.le).at (by omega) e rfl fun p hp' => ?_⟩
    obtain rfl : ps[j] = p := by simpa [hjt] using hp'
    have bad : ¬ ScriptP lens ps → explore_isScript.j3 Q l go2 ((j : Int), u') ps[j] (true, ()) k2 := fun hb => ⟨fun _ => hQ false k2 ⟨fun e => (by cases e), fun q => absurd q hb⟩ n.le, fun e => (by cases e)⟩
    refine ⟨fun d => bad fun q => ?_, fun d => ⟨fun f => bad fun q => ?_, fun f => ?_⟩⟩
    · have d : ps[j] < 0 := of_decide_eq_true d
      have := q.1 ps[j] (by simp)
      omega
    · have f : (l.len : Int) ≤ ps[j] := of_decide_eq_true f
      have := q.1 ps[j] (by simp)
      omega
    have d : ¬ ps[j] < 0 := of_decide_eq_false d
    have f : ¬ (l.len : Int) ≤ ps[j] := of_decide_eq_false f
    obtain ⟨i, hi⟩ : ∃ i : Nat, ps[j] = (i : Int) := ⟨ps[j].toNat, by omega⟩
    have hil : i < lens.length := by omega
    have hil' : i < l.len := by omega
    obtain ⟨q1, q2⟩ := hI i lens[i] (by simp)
    have step : cnt (ps.take (j + 1)) i = cnt (ps.take j) i + 1 := by rw [take_succ' ps hjt, cnt_app, cnt_one, if_pos hi]
    have stepn : ∀ i', i' ≠ i → cnt (ps.take (j + 1)) i' = cnt (ps.take j) i' := fun i' hne => by rw [take_succ' ps hjt, cnt_app, cnt_one, if_neg (by omega), Nat.add_zero]
    rw [hi]
    have hb : (0 : Int) ≤ (i : Int) ∧ (i : Int) < (l.len : Int) := ⟨by omega, by omega⟩
    refine ⟨hb, n.arr.at hb.1 hb.2 rfl fun v hv => ?_⟩
    rw [Int.toNat_natCast, q1] at hv
    cases hv
    have hcase : ∀ b : Bool, b = decide ((lens[i] : Int) - (cnt (ps.take j) i : Int) = 0) → explore_isScript.j3 Q l go2 ((j : Int), u') ((i : Nat) : Int) (b, ()) k2 := by
      rintro b rfl
      refine ⟨fun g => ?_, fun g => ?_⟩
      · have g : (lens[i] : Int) - (cnt (ps.take j) i : Int) = 0 := of_decide_eq_true g
        refine hQ false k2 ⟨fun e => (by cases e), fun q => ?_⟩ n.le
        have h1 := q.2 i lens[i] (by simp)
        have h2 := cnt_take ps (j + 1) i
        omega
      · have g : ¬ (lens[i] : Int) - (cnt (ps.take j) i : Int) = 0 := of_decide_eq_false g
        have hm := hmx i lens[i] (by simp)
        refine ⟨hb, n.arr.at hb.1 hb.2 rfl fun v hv => ?_⟩
        rw [Int.toNat_natCast, q1] at hv
        cases hv
        have w : w64 ((lens[i] : Int) - (cnt (ps.take j) i : Int) - 1) = (lens[i] : Int) - (cnt (ps.take j) i : Int) - 1 := by rw [w64_of] <;> omega
        rw [w]
        refine ⟨hb, n.set hb.1 hb.2 rfl rfl fun h3 n3 x3 => ?_⟩
        rw [Int.toNat_natCast] at n3
        refine hgo2 hjt _ _ (w64_up' (n := ps.length) hjt (by omega)) ⟨_, n3, by simp [hll], fun p hp => ?_, fun i' m' e' => ?_⟩
        · rw [take_succ' ps hjt] at hp
          rcases List.mem_append.1 hp with hp | hp
          · exact hin p hp
          · obtain rfl : p = ps[j] := by simpa using hp
            omega
        · by_cases c : i' = i
          · subst c
            obtain rfl : lens[i'] = m' := by simpa [hil] using e'
            rw [List.getElem?_set_self (by omega), step]
            exact ⟨by congr 1; omega, by omega⟩
          · rw [List.getElem?_set_ne (fun e => c e.symm), stepn i' c]
            exact hI i' m' e'
    rw [hi] at *
    exact hcase _ rfl
  · have e : ¬ (j : Int) < (t.len : Int) := of_decide_eq_false e
    rw [List.take_of_length_le (by omega)] at hin hI
    refine i1 n.arr (by omega) fun b hb => hQ _ k2 ⟨fun g => ⟨hin, fun i m e' => ?_⟩, fun g => ?_⟩ n.le
    · have hb0 : b ≠ true := fun q => by rw [q] at g; cases g
      obtain ⟨q1, q2⟩ := hI i m e'
      have : ¬ 0 < (m : Int) - (cnt ps i : Int) := fun q => hb0 (hb.2 ⟨_, List.mem_of_getElem? q1, q⟩)
      omega
    · cases hbb : b with
      | false => rfl
      | true =>
        obtain ⟨x, hx, hpos⟩ := hb.1 hbb
        obtain ⟨i, hi⟩ := List.mem_iff_getElem?.1 hx
        have hil : i < lens.length := by rw [← hll]; exact (List.getElem?_eq_some_iff.1 hi).1
        obtain ⟨q1, q2⟩ := hI i lens[i] (by simp)
        have q3 := g.2 i lens[i] (by simp)
        rw [hi] at q1
        cases q1
        omega

end Go.Mx
