/-
  Every script is alike to a least one; sorted lists of lists.
  ExploreFinals: the walks of what compares.
-/
import Derived.Test.YtipihecaaakagaaMxKv
set_option linter.unusedVariables false
set_option linter.unusedSimpArgs false
set_option linter.unusedSectionVars false
namespace Go.Mx

section
variable {sz len : Int} {xss : List (List Ac)}
theorem cnt_perm {p q : List Int} (h : p.Perm q) (w : Nat) : cnt p w = cnt q w := (h.filter _).length_eq
theorem least_ex {p : List Int} (hp : ScriptP (xss.map List.length) p) : ∃ q ∈ expS sz len xss, Alk (bdE sz len xss) (evL p) (evL q) := by
  have hin := hp.1
  rw [List.length_map] at hin
  have h0 : ∀ x ∈ p, 0 ≤ x := fun x hx => (hin x hx).1
  have nd := evL_nodup h0
  have hpos : ∀ e ∈ evL p, 0 ≤ e.1 := fun e he => ((evL_mem h0 e).1 he).1
  have hrng : ∀ e ∈ evL p, 0 ≤ e.1 ∧ e.1 < (xss.length : Int) := fun e he => by
    have : e.1 ∈ p := by rw [← evL_fst p]; exact List.mem_map_of_mem he
    exact hin _ this
  obtain ⟨m, h1, h2, h3⟩ := least_spec (sz := sz) (len := len) (fun _ => trivial) p.length (evL p) (evL_len p) nd hrng
  have hperm : p.Perm (m.map (·.1)) := by
    have := (Alk.perm (bdE sz len xss) h2).map (·.1)
    rwa [evL_fst] at this
  have hq : ScriptP (xss.map List.length) (m.map (·.1)) := ⟨fun x hx => hp.1 x (hperm.symm.subset hx), fun i l hl => by rw [← cnt_perm hperm]; exact hp.2 i l hl⟩
  have hinq := hq.1
  rw [List.length_map] at hinq
  have hm : m = evL (m.map (·.1)) := word_one (by rw [evL_fst]) fun w => by
    rw [← alk_filt nd hpos h2 w, evL_filter p h0 w, evL_filter (m.map (·.1)) (fun x hx => (hinq x hx).1) w, cnt_perm hperm]
  refine ⟨m.map (·.1), List.mem_filter.2 ⟨allS_mem.2 hq, (isLst_nb hinq).2 ?_⟩, ?_⟩
  · rw [← hm]; exact h3
  · rw [← hm]; exact h2
end

/-! ### lists of lists, sorted -/
def lexC : List Int → List Int → Int
  | [], [] => 0
  | [], _ :: _ => -1
  | _ :: _, [] => 1
  | x :: a, y :: b => if x < y then -1 else if y < x then 1 else lexC a b
def cmpC (a b : List Int) : Int := if a.length < b.length then -1 else if b.length < a.length then 1 else lexC a b
theorem lexC_zero : ∀ {a b : List Int}, lexC a b = 0 ↔ a = b
  | [], [] => ⟨fun _ => rfl, fun _ => rfl⟩
  | [], _ :: _ => ⟨fun h => (by cases h), fun h => (by cases h)⟩
  | _ :: _, [] => ⟨fun h => (by cases h), fun h => (by cases h)⟩
  | x :: a, y :: b => by
    unfold lexC
    by_cases h1 : x < y
    · rw [if_pos h1]; exact ⟨fun h => (by cases h), fun h => by cases h; omega⟩
    · rw [if_neg h1]
      by_cases h2 : y < x
      · rw [if_pos h2]; exact ⟨fun h => (by cases h), fun h => by cases h; omega⟩
      · rw [if_neg h2, lexC_zero]
        have : x = y := by omega
        subst this
        exact ⟨fun h => by rw [h], fun h => by cases h; rfl⟩
theorem lexC_neg : ∀ {a b : List Int}, lexC a b < 0 ↔ 0 < lexC b a
  | [], [] => ⟨fun h => (by cases h), fun h => (by cases h)⟩
  | [], _ :: _ => ⟨fun _ => (by decide : (0:Int) < 1), fun _ => (by decide : (-1:Int) < 0)⟩
  | _ :: _, [] => ⟨fun h => absurd h (by decide : ¬ (1:Int) < 0), fun h => absurd h (by decide : ¬ (0:Int) < -1)⟩
  | x :: a, y :: b => by
    unfold lexC
    by_cases h1 : x < y
    · rw [if_pos h1, if_neg (by omega), if_pos h1]; exact ⟨fun _ => by decide, fun _ => by decide⟩
    · rw [if_neg h1]
      by_cases h2 : y < x
      · rw [if_pos h2, if_pos h2]; exact ⟨fun h => absurd h (by decide), fun h => absurd h (by decide)⟩
      · rw [if_neg h2, if_neg h2, if_neg h1]; exact lexC_neg
theorem lexC_trans : ∀ {a b c : List Int}, lexC a b < 0 → lexC b c < 0 → lexC a c < 0
  | [], [], _, h, _ => (by cases h)
  | [], _ :: _, [], _, h => absurd h (by decide : ¬ (1:Int) < 0)
  | [], _ :: _, _ :: _, _, _ => (by decide : (-1:Int) < 0)
  | _ :: _, [], _, h, _ => absurd h (by decide : ¬ (1:Int) < 0)
  | _ :: _, _ :: _, [], _, h => absurd h (by decide : ¬ (1:Int) < 0)
  | x :: a, y :: b, z :: c, h1, h2 => by
    unfold lexC at h1 h2 ⊢
    by_cases p1 : x < y
    · by_cases p2 : y < z
      · rw [if_pos (by omega)]; decide
      · rw [if_neg p2] at h2
        by_cases p3 : z < y
        · rw [if_pos p3] at h2; exact absurd h2 (by decide)
        · rw [if_pos (by omega)]; decide
    · rw [if_neg p1] at h1
      by_cases p3 : y < x
      · rw [if_pos p3] at h1; exact absurd h1 (by decide)
      · rw [if_neg p3] at h1
        have : x = y := by omega
        subst this
        by_cases p2 : x < z
        · rw [if_pos p2]; decide
        · rw [if_neg p2] at h2 ⊢
          by_cases p4 : z < x
          · rw [if_pos p4] at h2; exact absurd h2 (by decide)
          · rw [if_neg p4] at h2 ⊢
            exact lexC_trans h1 h2
theorem cmpC_zero {a b : List Int} : cmpC a b = 0 ↔ a = b := by
  unfold cmpC
  by_cases h1 : a.length < b.length
  · rw [if_pos h1]; exact ⟨fun h => (by cases h), fun h => by subst h; omega⟩
  · rw [if_neg h1]
    by_cases h2 : b.length < a.length
    · rw [if_pos h2]; exact ⟨fun h => (by cases h), fun h => by subst h; omega⟩
    · rw [if_neg h2]; exact lexC_zero
theorem cmpC_neg {a b : List Int} : cmpC a b < 0 ↔ 0 < cmpC b a := by
  unfold cmpC
  by_cases h1 : a.length < b.length
  · rw [if_pos h1, if_neg (by omega), if_pos h1]; exact ⟨fun _ => by decide, fun _ => by decide⟩
  · rw [if_neg h1]
    by_cases h2 : b.length < a.length
    · rw [if_pos h2, if_pos h2]; exact ⟨fun h => absurd h (by decide), fun h => absurd h (by decide)⟩
    · rw [if_neg h2, if_neg h2, if_neg h1]; exact lexC_neg
theorem cmpC_trans {a b c : List Int} (h1 : cmpC a b < 0) (h2 : cmpC b c < 0) : cmpC a c < 0 := by
  unfold cmpC at h1 h2 ⊢
  by_cases p1 : a.length < b.length
  · by_cases p2 : b.length < c.length
    · rw [if_pos (by omega)]; decide
    · rw [if_neg p2] at h2
      by_cases p3 : c.length < b.length
      · rw [if_pos p3] at h2; exact absurd h2 (by decide)
      · rw [if_pos (by omega)]; decide
  · rw [if_neg p1] at h1
    by_cases p3 : b.length < a.length
    · rw [if_pos p3] at h1; exact absurd h1 (by decide)
    · rw [if_neg p3] at h1
      by_cases p2 : b.length < c.length
      · rw [if_pos (by omega)]; decide
      · rw [if_neg p2] at h2
        by_cases p4 : c.length < b.length
        · rw [if_pos p4] at h2; exact absurd h2 (by decide)
        · rw [if_neg p4] at h2
          rw [if_neg (by omega), if_neg (by omega)]
          exact lexC_trans h1 h2
def Srt (l : List (List Int)) : Prop := l.Pairwise fun a b => cmpC a b < 0
theorem Srt.one : ∀ {l m : List (List Int)}, Srt l → Srt m → (∀ x, x ∈ l ↔ x ∈ m) → l = m
  | [], [], _, _, _ => rfl
  | [], y :: m, _, _, h => absurd ((h y).2 (by simp)) (by simp)
  | x :: l, [], _, _, h => absurd ((h x).1 (by simp)) (by simp)
  | x :: l, y :: m, h1, h2, h => by
    obtain ⟨a1, a2⟩ := List.pairwise_cons.1 h1
    obtain ⟨b1, b2⟩ := List.pairwise_cons.1 h2
    have hne : ∀ {u v : List Int}, cmpC u v < 0 → u ≠ v := fun hlt q => by rw [cmpC_zero.2 q] at hlt; exact absurd hlt (by decide)
    have asym : ∀ {u v : List Int}, cmpC u v < 0 → ¬ cmpC v u < 0 := fun p q => by have := cmpC_neg.1 p; omega
    have hxy : x = y := by
      rcases List.mem_cons.1 ((h x).1 (by simp)) with q | q
      · exact q
      · rcases List.mem_cons.1 ((h y).2 (by simp)) with q2 | q2
        · exact q2.symm
        · exact absurd (a1 y q2) (asym (b1 x q))
    subst hxy
    rw [Srt.one a2 b2 fun z => ?_]
    constructor
    · intro hz
      rcases List.mem_cons.1 ((h z).1 (List.mem_cons_of_mem _ hz)) with q | q
      · exact absurd q.symm (hne (a1 z hz))
      · exact q
    · intro hz
      rcases List.mem_cons.1 ((h z).2 (List.mem_cons_of_mem _ hz)) with q | q
      · exact absurd q.symm (hne (b1 z hz))
      · exact q
def putC : List (List Int) → List Int → List (List Int)
  | [], c => [c]
  | x :: l, c => if cmpC c x < 0 then c :: x :: l else if c = x then x :: l else x :: putC l c
theorem putC_mem {c z : List Int} : ∀ {l : List (List Int)}, z ∈ putC l c ↔ z ∈ l ∨ z = c
  | [] => by simp [putC]
  | x :: l => by
    unfold putC
    by_cases h1 : cmpC c x < 0
    · rw [if_pos h1, List.mem_cons]; exact Or.comm
    · rw [if_neg h1]
      by_cases h2 : c = x
      · rw [if_pos h2, ← h2, List.mem_cons]
        constructor
        · exact .inl
        · rintro (h | h)
          · exact h
          · exact .inl h
      · rw [if_neg h2, List.mem_cons, List.mem_cons, putC_mem, or_assoc]
theorem putC_srt {c : List Int} : ∀ {l : List (List Int)}, Srt l → Srt (putC l c)
  | [], _ => List.pairwise_singleton ..
  | x :: l, h => by
    obtain ⟨a1, a2⟩ := List.pairwise_cons.1 h
    unfold putC
    by_cases h1 : cmpC c x < 0
    · rw [if_pos h1]
      refine List.pairwise_cons.2 ⟨fun y hy => ?_, h⟩
      rcases List.mem_cons.1 hy with rfl | hy
      · exact h1
      · exact cmpC_trans h1 (a1 y hy)
    · rw [if_neg h1]
      by_cases h2 : c = x
      · rw [if_pos h2]; exact h
      · rw [if_neg h2]
        refine List.pairwise_cons.2 ⟨fun y hy => ?_, putC_srt a2⟩
        rcases putC_mem.1 hy with hy | rfl
        · exact a1 y hy
        · have hz : cmpC y x ≠ 0 := fun q => h2 (cmpC_zero.1 q)
          have := @cmpC_neg x y
          omega
/-- What may stand in the cells at the end. -/
def finL (sz : Int) (bs : List Int) (xss : List (List Ac)) (L : List (List Int)) : List (List Int) := L.foldl (fun l q => putC l (playP sz bs xss q).1) []
theorem finL_snoc {sz : Int} {bs : List Int} {xss : List (List Ac)} (L : List (List Int)) (q : List Int) : finL sz bs xss (L ++ [q]) = putC (finL sz bs xss L) (playP sz bs xss q).1 := by unfold finL; rw [List.foldl_append]; rfl
theorem finL_srt {sz : Int} {bs : List Int} {xss : List (List Ac)} (L : List (List Int)) : Srt (finL sz bs xss L) := by
  induction L using rev_ind with
  | nil => exact .nil
  | append_singleton L q ih => rw [finL_snoc]; exact putC_srt ih
theorem finL_mem {sz : Int} {bs : List Int} {xss : List (List Ac)} {L : List (List Int)} {z : List Int} : z ∈ finL sz bs xss L ↔ ∃ q ∈ L, z = (playP sz bs xss q).1 := by
  induction L using rev_ind with
  | nil => exact ⟨fun h => (by cases h), fun ⟨q, h, _⟩ => (by cases h)⟩
  | append_singleton L q ih =>
    rw [finL_snoc, putC_mem, ih]
    constructor
    · rintro (⟨p, h1, h2⟩ | h)
      · exact ⟨p, List.mem_append_left _ h1, h2⟩
      · exact ⟨q, by simp, h⟩
    · rintro ⟨p, h1, h2⟩
      rcases List.mem_append.1 h1 with h1 | h1
      · exact .inl ⟨p, h1, h2⟩
      · have : p = q := by simpa using h1
        subst this
        exact .inr h2
theorem finals_eq {sz : Int} {bs : List Int} {xss : List (List Ac)} (h2 : (bs.length : Int) ≤ sz) (hbad : badsE xss = false) : finL sz bs xss (allS xss) = finL sz bs xss (expS sz bs.length xss) := by
  refine Srt.one (finL_srt _) (finL_srt _) fun z => ?_
  rw [finL_mem, finL_mem]
  constructor
  · rintro ⟨p, h3, h4⟩
    have hp := allS_mem.1 h3
    obtain ⟨q, hq, ha⟩ := least_ex (sz := sz) (len := bs.length) hp
    have hqS := allS_mem.1 (List.mem_filter.1 hq).1
    exact ⟨q, hq, by rw [h4]; exact ends_alk h2 hbad hp hqS ha⟩
  · rintro ⟨q, hq, h⟩
    exact ⟨q, (List.mem_filter.1 hq).1, h⟩
/-- Where the new one comes. -/
theorem putC_at {c : List Int} : ∀ {l : List (List Int)} {j : Nat}, j ≤ l.length → (∀ x ∈ l.take j, cmpC x c < 0) → (∀ x, l[j]? = some x → cmpC c x < 0) → putC l c = l.take j ++ c :: l.drop j
  | [], j, hj, _, _ => by
    have : j = 0 := Nat.le_zero.1 hj
    subst this; rfl
  | x :: l, 0, _, _, h => by
    unfold putC
    rw [if_pos (h x rfl)]; rfl
  | x :: l, j + 1, hj, h1, h2 => by
    have hx := h1 x (by simp)
    have hn : ¬ cmpC c x < 0 := fun q => by have := cmpC_neg.1 q; omega
    have hne : c ≠ x := fun q => by rw [cmpC_zero.2 q.symm] at hx; exact absurd hx (by decide)
    unfold putC
    rw [if_neg hn, if_neg hne, putC_at (j := j) (by simpa using hj) (fun y hy => h1 y (by rw [List.take_succ_cons]; exact List.mem_cons_of_mem _ hy)) (fun y hy => h2 y (by simpa using hy))]
    rfl
theorem putC_in {c : List Int} : ∀ {l : List (List Int)}, Srt l → c ∈ l → putC l c = l
  | [], _, h => by cases h
  | x :: l, hs, h => by
    obtain ⟨a1, a2⟩ := List.pairwise_cons.1 hs
    unfold putC
    rcases List.mem_cons.1 h with rfl | h
    · rw [if_neg (by rw [cmpC_zero.2 rfl]; decide), if_pos rfl]
    · have hx := a1 c h
      have hn : ¬ cmpC c x < 0 := fun q => by have := cmpC_neg.1 q; omega
      have hne : c ≠ x := fun q => by rw [cmpC_zero.2 q.symm] at hx; exact absurd hx (by decide)
      rw [if_neg hn, if_neg hne, putC_in a2 h]
end Go.Mx

namespace Go.Mx

def sgnC (a b : Int) : Int := if a < b then -1 else if b < a then 1 else 0
theorem cmpI_spec {x y : Int} {h : Heap} {c : Int → Heap → (Bool → Heap → Prop) → Prop} (i : ∀ {x : Int} {h Q}, cmp_isNaN_int.M x h Q → c x h Q) {Q : Int → Heap → Prop} (hQ : Q (sgnC x y) h) : cmp_Compare_int.M c x y h Q := by
  refine i (i ?_)
  have e : ∀ z : Int, (!(decide (z = z))) = false := fun z => by simp
  unfold sgnC at hQ
  refine ⟨fun q => ?_, fun _ => ⟨fun q => ?_, fun _ => dcs (fun h1 => ?_) (fun h1 => dcs (fun h2 => ?_) (fun h2 => ?_))⟩⟩
  · exfalso; revert q; simp
  · exfalso; revert q; simp
  · have h1 : x < y := h1
    rwa [if_pos h1] at hQ
  · have h1 : ¬ x < y := h1
    have h2 : y < x := h2
    rwa [if_neg h1, if_pos h2] at hQ
  · have h1 : ¬ x < y := h1
    have h2 : ¬ y < x := h2
    rwa [if_neg h1, if_neg h2] at hQ
theorem cmpL_spec {x y : Int} {h : Heap} {c : Int → Heap → (Bool → Heap → Prop) → Prop} (i : ∀ {x : Int} {h Q}, cmp_isNaN_int64.M x h Q → c x h Q) {Q : Int → Heap → Prop} (hQ : Q (sgnC x y) h) : cmp_Compare_int64.M c x y h Q := by
  refine i (i ?_)
  unfold sgnC at hQ
  refine ⟨fun q => ?_, fun _ => ⟨fun q => ?_, fun _ => dcs (fun h1 => ?_) (fun h1 => dcs (fun h2 => ?_) (fun h2 => ?_))⟩⟩
  · exfalso; revert q; simp
  · exfalso; revert q; simp
  · have h1 : x < y := h1
    rwa [if_pos h1] at hQ
  · have h1 : ¬ x < y := h1
    have h2 : y < x := h2
    rwa [if_neg h1, if_pos h2] at hQ
  · have h1 : ¬ x < y := h1
    have h2 : ¬ y < x := h2
    rwa [if_neg h1, if_neg h2] at hQ
theorem lexC_drop {xs ys : List Int} (hl : xs.length = ys.length) {i : Nat} (h : xs.take i = ys.take i) : lexC xs ys = lexC (xs.drop i) (ys.drop i) := by
  induction i generalizing xs ys with
  | zero => rfl
  | succ i ih =>
    cases xs with
    | nil => cases ys with
      | nil => rfl
      | cons _ _ => cases hl
    | cons x xs => cases ys with
      | nil => cases hl
      | cons y ys =>
        rw [List.take_succ_cons, List.take_succ_cons] at h
        obtain ⟨rfl, h3⟩ := List.cons.inj h
        rw [List.drop_succ_cons, List.drop_succ_cons, ← ih (by simpa using hl) h3]
        show (if x < x then _ else if x < x then _ else lexC xs ys) = _
        rw [if_neg (Int.lt_irrefl x), if_neg (Int.lt_irrefl x)]
theorem compare_spec {a b : Sl} {h : Heap} {xs ys : List Int} (ha : Arr h ki a xs) (hb : Arr h ki b ys) (hn : xs.length ≤ 1000000) (hlen : xs.length = ys.length) {c : Int → Int → Heap → (Int → Heap → Prop) → Prop} (i : ∀ {x y : Int} {h : Heap} {Q : Int → Heap → Prop}, Q (sgnC x y) h → c x y h Q)
    {Q : Int → Heap → Prop} (hQ : Q (lexC xs ys) h) : slices_Compare_int64_int64.M c a b h Q := by
  have hal := ha.1
  have hbl := hb.1
  refine Loop.up xs.length (fun s => s.1) (fun i st k => k = h ∧ xs.take i = ys.take i) rfl ⟨rfl, rfl⟩ ?_
  rintro i' ⟨i2, u⟩ k go hi hc ⟨rfl, hI⟩ hgo
  dsimp only at hc; subst hc
  rw [lexC_drop hlen hI] at hQ
  refine dcs (fun e2 => ?_) (fun e2 => ?_)
  · have e2 : (i' : Int) < (a.len : Int) := e2
    have hia : i' < xs.length := by omega
    have hib : i' < ys.length := by omega
    rw [List.drop_eq_getElem_cons hia, List.drop_eq_getElem_cons hib] at hQ
    unfold lexC at hQ
    refine ⟨⟨Int.natCast_nonneg i', e2⟩, ha.at (Int.natCast_nonneg i') e2 rfl fun x hx => ?_⟩
    rw [Int.toNat_natCast, List.getElem?_eq_getElem hia] at hx
    obtain rfl := Option.some.inj hx
    refine dcs (fun z => absurd (show (b.len : Int) ≤ (i' : Int) from z) (by omega)) (fun _ => ⟨⟨Int.natCast_nonneg i', show (i' : Int) < (b.len : Int) by omega⟩, hb.at (Int.natCast_nonneg i') (by omega) rfl fun y hy => ?_⟩)
    rw [Int.toNat_natCast, List.getElem?_eq_getElem hib] at hy
    obtain rfl := Option.some.inj hy
    refine i ?_
    unfold sgnC
    by_cases z : xs[i'] < ys[i']
    · rw [if_pos z] at hQ ⊢
      exact dcs (fun _ => hQ) (fun q => absurd (show (-1 : Int) ≠ 0 by decide) q)
    · rw [if_neg z] at hQ ⊢
      by_cases z2 : ys[i'] < xs[i']
      · rw [if_pos z2] at hQ ⊢
        exact dcs (fun _ => hQ) (fun q => absurd (show (1 : Int) ≠ 0 by decide) q)
      · rw [if_neg z2] at hQ ⊢
        refine dcs (fun q => absurd rfl q) (fun _ => hgo hia _ _ (w64_up' (n := xs.length) hia (by omega)) ⟨rfl, ?_⟩)
        rw [take_succ' xs hia, take_succ' ys hib, hI, show xs[i'] = ys[i'] by omega]
  · have e2 : ¬ (i' : Int) < (a.len : Int) := e2
    rw [List.drop_of_length_le (by omega), List.drop_of_length_le (by omega)] at hQ
    exact dcs (fun z => absurd (show (a.len : Int) < (b.len : Int) from z) (by omega)) (fun _ => hQ)
theorem lesser_spec {a b : Sl} {h : Heap} {xs ys : List Int} (ha : Arr h ki a xs) (hb : Arr h ki b ys) (hn : xs.length ≤ 1000000) {c1 : Int → Int → Heap → (Int → Heap → Prop) → Prop} {c2 : Sl → Sl → Heap → (Int → Heap → Prop) → Prop}
    (i1 : ∀ {x y : Int} {h : Heap} {Q : Int → Heap → Prop}, Q (sgnC x y) h → c1 x y h Q) (i2 : ∀ {Q : Int → Heap → Prop}, xs.length = ys.length → Q (lexC xs ys) h → c2 a b h Q)
    {Q : Int → Heap → Prop} (hQ : Q (cmpC xs ys) h) : explore_lesser.M c1 c2 a b h Q := by
  have hal := ha.1
  have hbl := hb.1
  refine i1 ?_
  unfold sgnC
  unfold cmpC at hQ
  by_cases z : xs.length < ys.length
  · rw [if_pos z] at hQ
    rw [if_pos (by omega)]
    exact dcs (fun _ => hQ) (fun q => absurd (show (-1 : Int) ≠ 0 by decide) q)
  · rw [if_neg z] at hQ
    rw [if_neg (by omega)]
    by_cases z2 : ys.length < xs.length
    · rw [if_pos z2] at hQ
      rw [if_pos (by omega)]
      exact dcs (fun _ => hQ) (fun q => absurd (show (1 : Int) ≠ 0 by decide) q)
    · rw [if_neg z2] at hQ
      rw [if_neg (by omega)]
      exact dcs (fun q => absurd rfl q) (fun _ => i2 (by omega) hQ)
theorem mid_eq {i j : Nat} (hi : i + j ≤ 4000000) : w64 (Int.fdiv (IntKind.wrap .u64 (w64 ((i : Int) + (j : Int)))) (2 ^ (min (1 : Int).toNat (IntKind.bits .u64)))) = (((i + j) / 2 : Nat) : Int) := by
  have h1 : w64 ((i : Int) + (j : Int)) = ((i + j : Nat) : Int) := by rw [w64_of (by omega) (by omega)]; rfl
  have h2 : IntKind.wrap .u64 ((i + j : Nat) : Int) = ((i + j : Nat) : Int) := by
    show ((i + j : Nat) : Int) % 2 ^ 64 = _
    rw [Int.emod_eq_of_lt (by omega) (by omega)]
  rw [h1, h2]
  have h3 : (2 : Int) ^ (min (1 : Int).toNat (IntKind.bits .u64)) = 2 := by decide
  rw [h3, Int.fdiv_eq_ediv_of_nonneg _ (by decide), w64_of (by omega) (by omega)]
  omega
theorem bsearch_spec {h0 h : Heap} {o t : Sl} {els : List Sl} {l : List (List Int)} {q : List Int} (n : Nest h0 h ki o els l) (hs : Srt l) (ht : Arr h ki t q) (hl : l.length ≤ 2000000) {fv : Value} {cf : Value → Sl → Sl → Heap → (Int → Heap → Prop) → Prop}
    (i : ∀ {u : Sl} {xs : List Int} {Q : Int → Heap → Prop}, xs ∈ l → Arr h ki u xs → Q (cmpC xs q) h → cf fv u t h Q) {Q : (Int × (Bool × Unit)) → Heap → Prop}
    (hQ : ∀ m : Nat, m ≤ l.length → (∀ k xs, l[k]? = some xs → (k < m ↔ cmpC xs q < 0)) → Q ((m : Int), (decide (l[m]? = some q), ())) h) : slices_BinarySearchFunc_int64_int64_int64.M cf o t fv h Q := by
  have hol := n.out.len
  have hel := n.len
  refine ⟨fun st k => k = h ∧ ∃ a b : Nat, st.1 = (a : Int) ∧ st.2.1 = (b : Int) ∧ a ≤ b ∧ b ≤ l.length ∧ (∀ k xs, l[k]? = some xs → k < a → cmpC xs q < 0) ∧ ∀ k xs, l[k]? = some xs → b ≤ k → ¬ cmpC xs q < 0, fun st _ => (st.2.1 - st.1).toNat,
    ⟨rfl, 0, l.length, rfl, show (o.len : Int) = (l.length : Int) by omega, Nat.zero_le _, Nat.le_refl _, fun k xs _ hk => absurd hk (Nat.not_lt_zero _), fun k xs hk hb => by rw [List.getElem?_eq_none hb] at hk; cases hk⟩, ?_⟩
  rintro ⟨a', b', u⟩ k ⟨rfl, a, b, ha, hb, hab, hbl, hlo, hhi⟩
  dsimp only at ha hb; subst ha; subst hb
  have rd : ∀ {j : Nat} {K : Sl → Prop}, j < l.length → (∀ u xs, l[j]? = some xs → Arr k ki u xs → K u) → (0 ≤ (j : Int) ∧ (j : Int) < (o.len : Int)) ∧ deref o.a fun p => ld (.sl : Kd) k (p.add (((j : Int)).toNat * 1)) K := fun {j K} hj hK => by
    have hje : j < els.length := by omega
    refine ⟨⟨Int.natCast_nonneg j, by omega⟩, n.out.arr.at (Int.natCast_nonneg j) (by omega) rfl fun u hu => ?_⟩
    rw [Int.toNat_natCast] at hu
    exact hK u _ (List.getElem?_eq_getElem hj) (n.row j _ _ hu (List.getElem?_eq_getElem hj)).arr
  refine dcs (fun z => ?_) (fun z => ?_)
  · have z : (a : Int) < (b : Int) := z
    have hm := mid_eq (i := a) (j := b) (by omega)
    have hmb : (a + b) / 2 < b := by omega
    have hma : a ≤ (a + b) / 2 := by omega
    refine ⟨by decide, ?_⟩
    rw [hm]
    refine rd (by omega) fun u xs hx hu => i (List.mem_of_getElem? hx) hu (dcs (fun y => ?_) (fun y => ?_))
    · have y : cmpC xs q < 0 := y
      have w1 : w64 ((((a + b) / 2 : Nat) : Int) + 1) = (((a + b) / 2 + 1 : Nat) : Int) := w64_up' (n := b) hmb (by omega)
      refine ⟨⟨rfl, (a + b) / 2 + 1, b, w1, rfl, hmb, hbl, fun k' ys hk hlt => ?_, hhi⟩, ?_⟩
      · rcases Nat.lt_or_ge k' ((a + b) / 2) with c | c
        · have hk2 := (List.getElem?_eq_some_iff.1 hk)
          have hx2 := (List.getElem?_eq_some_iff.1 hx)
          have := (List.pairwise_iff_getElem.1 hs) k' ((a + b) / 2) hk2.1 hx2.1 c
          rw [hk2.2, hx2.2] at this
          exact cmpC_trans this y
        · have : k' = (a + b) / 2 := by omega
          subst this
          rw [hx] at hk; cases hk; exact y
      · show ((b : Int) - w64 ((((a + b) / 2 : Nat) : Int) + 1)).toNat < ((b : Int) - (a : Int)).toNat
        rw [w1]; omega
    · have y : ¬ cmpC xs q < 0 := y
      refine ⟨⟨rfl, a, (a + b) / 2, rfl, rfl, hma, by omega, hlo, fun k' ys hk hge hneg => ?_⟩, ?_⟩
      · rcases Nat.lt_or_ge ((a + b) / 2) k' with c | c
        · have hk2 := (List.getElem?_eq_some_iff.1 hk)
          have hx2 := (List.getElem?_eq_some_iff.1 hx)
          have := (List.pairwise_iff_getElem.1 hs) ((a + b) / 2) k' hx2.1 hk2.1 c
          rw [hk2.2, hx2.2] at this
          exact y (cmpC_trans this hneg)
        · have : k' = (a + b) / 2 := by omega
          subst this
          rw [hx] at hk; cases hk; exact y hneg
      · show ((((a + b) / 2 : Nat) : Int) - (a : Int)).toNat < ((b : Int) - (a : Int)).toNat
        omega
  · have z : ¬ (a : Int) < (b : Int) := z
    have hae : a = b := by omega
    subst hae
    have fin := hQ a hbl fun k' xs hk => ⟨fun c => hlo k' xs hk c, fun c => by
      rcases Nat.lt_or_ge k' a with y | y
      · exact y
      · exact absurd c (hhi k' xs hk y)⟩
    refine dcs (fun y => ?_) (fun y => ?_)
    · have y : (a : Int) < (o.len : Int) := y
      refine rd (by omega) fun u xs hx hu => i (List.mem_of_getElem? hx) hu ?_
      rw [hx] at fin
      have : decide (cmpC xs q = 0) = decide (some xs = some q) := by
        rw [decide_eq_decide, cmpC_zero]
        exact ⟨fun e => by rw [e], fun e => Option.some.inj e⟩
      rw [← this] at fin
      exact fin
    · have y : ¬ (a : Int) < (o.len : Int) := y
      rw [List.getElem?_eq_none (by omega)] at fin
      exact fin
end Go.Mx
