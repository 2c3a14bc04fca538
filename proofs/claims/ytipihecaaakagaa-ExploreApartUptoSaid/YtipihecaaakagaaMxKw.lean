/-
  Every script is alike to a least one; sorted lists of lists.
-/
import Derived.Test.YtipihecaaakagaaMxKv
set_option linter.unusedVariables false
set_option linter.unusedSimpArgs false
set_option linter.unusedSectionVars false
namespace Go.Mx

section
variable {sz len : Int} {xss : List (List Ac)}
theorem cnt_perm {p q : List Int} (h : p.Perm q) (w : Nat) : cnt p w = cnt q w := (h.filter _).length_eq
theorem least_ex {p : List Int} (hp : ScriptP (xss.map List.length) p) : ∃ q ∈ expS sz len xss, Alk (bdE sz len xss) (evL p) (evL q) := by
  have hin := hp.1
  rw [List.length_map] at hin
  have h0 : ∀ x ∈ p, 0 ≤ x := fun x hx => (hin x hx).1
  have nd := evL_nodup h0
  have hpos : ∀ e ∈ evL p, 0 ≤ e.1 := fun e he => ((evL_mem h0 e).1 he).1
  have hrng : ∀ e ∈ evL p, 0 ≤ e.1 ∧ e.1 < (xss.length : Int) := fun e he => by
    have : e.1 ∈ p := by rw [← evL_fst p]; exact List.mem_map_of_mem he
    exact hin _ this
  obtain ⟨m, h1, h2, h3⟩ := least_spec (sz := sz) (len := len) (fun _ => trivial) p.length (evL p) (evL_len p) nd hrng
  have hperm : p.Perm (m.map (·.1)) := by
    have := (Alk.perm (bdE sz len xss) h2).map (·.1)
    rwa [evL_fst] at this
  have hq : ScriptP (xss.map List.length) (m.map (·.1)) := ⟨fun x hx => hp.1 x (hperm.symm.subset hx), fun i l hl => by rw [← cnt_perm hperm]; exact hp.2 i l hl⟩
  have hinq := hq.1
  rw [List.length_map] at hinq
  have hm : m = evL (m.map (·.1)) := word_one (by rw [evL_fst]) fun w => by
    rw [← alk_filt nd hpos h2 w, evL_filter p h0 w, evL_filter (m.map (·.1)) (fun x hx => (hinq x hx).1) w, cnt_perm hperm]
  refine ⟨m.map (·.1), List.mem_filter.2 ⟨allS_mem.2 hq, (isLst_nb hinq).2 ?_⟩, ?_⟩
  · rw [← hm]; exact h3
  · rw [← hm]; exact h2
end

/-! ### lists of lists, sorted -/
def lexC : List Int → List Int → Int
  | [], [] => 0
  | [], _ :: _ => -1
  | _ :: _, [] => 1
  | x :: a, y :: b => if x < y then -1 else if y < x then 1 else lexC a b
def cmpC (a b : List Int) : Int := if a.length < b.length then -1 else if b.length < a.length then 1 else lexC a b
theorem lexC_zero : ∀ {a b : List Int}, lexC a b = 0 ↔ a = b
  | [], [] => ⟨fun _ => rfl, fun _ => rfl⟩
  | [], _ :: _ => ⟨fun h => (by cases h), fun h => (by cases h)⟩
  | _ :: _, [] => ⟨fun h => (by cases h), fun h => (by cases h)⟩
  | x :: a, y :: b => by
    unfold lexC
    by_cases h1 : x < y
    · rw [if_pos h1]; exact ⟨fun h => (by cases h), fun h => by cases h; omega⟩
    · rw [if_neg h1]
      by_cases h2 : y < x
      · rw [if_pos h2]; exact ⟨fun h => (by cases h), fun h => by cases h; omega⟩
      · rw [if_neg h2, lexC_zero]
        have : x = y := by omega
        subst this
        exact ⟨fun h => by rw [h], fun h => by cases h; rfl⟩
theorem lexC_neg : ∀ {a b : List Int}, lexC a b < 0 ↔ 0 < lexC b a
  | [], [] => ⟨fun h => (by cases h), fun h => (by cases h)⟩
  | [], _ :: _ => ⟨fun _ => (by decide : (0:Int) < 1), fun _ => (by decide : (-1:Int) < 0)⟩
  | _ :: _, [] => ⟨fun h => absurd h (by decide : ¬ (1:Int) < 0), fun h => absurd h (by decide : ¬ (0:Int) < -1)⟩
  | x :: a, y :: b => by
    unfold lexC
    by_cases h1 : x < y
    · rw [if_pos h1, if_neg (by omega), if_pos h1]; exact ⟨fun _ => by decide, fun _ => by decide⟩
    · rw [if_neg h1]
      by_cases h2 : y < x
      · rw [if_pos h2, if_pos h2]; exact ⟨fun h => absurd h (by decide), fun h => absurd h (by decide)⟩
      · rw [if_neg h2, if_neg h2, if_neg h1]; exact lexC_neg
theorem lexC_trans : ∀ {a b c : List Int}, lexC a b < 0 → lexC b c < 0 → lexC a c < 0
  | [], [], _, h, _ => (by cases h)
  | [], _ :: _, [], _, h => absurd h (by decide : ¬ (1:Int) < 0)
  | [], _ :: _, _ :: _, _, _ => (by decide : (-1:Int) < 0)
  | _ :: _, [], _, h, _ => absurd h (by decide : ¬ (1:Int) < 0)
  | _ :: _, _ :: _, [], _, h => absurd h (by decide : ¬ (1:Int) < 0)
  | x :: a, y :: b, z :: c, h1, h2 => by
    unfold lexC at h1 h2 ⊢
    by_cases p1 : x < y
    · by_cases p2 : y < z
      · rw [if_pos (by omega)]; decide
      · rw [if_neg p2] at h2
        by_cases p3 : z < y
        · rw [if_pos p3] at h2; exact absurd h2 (by decide)
        · rw [if_pos (by omega)]; decide
    · rw [if_neg p1] at h1
      by_cases p3 : y < x
      · rw [if_pos p3] at h1; exact absurd h1 (by decide)
      · rw [if_neg p3] at h1
        have : x = y := by omega
        subst this
        by_cases p2 : x < z
        · rw [if_pos p2]; decide
        · rw [if_neg p2] at h2 ⊢
          by_cases p4 : z < x
          · rw [if_pos p4] at h2; exact absurd h2 (by decide)
          · rw [if_neg p4] at h2 ⊢
            exact lexC_trans h1 h2
theorem cmpC_zero {a b : List Int} : cmpC a b = 0 ↔ a = b := by
  unfold cmpC
  by_cases h1 : a.length < b.length
  · rw [if_pos h1]; exact ⟨fun h => (by cases h), fun h => by subst h; omega⟩
  · rw [if_neg h1]
    by_cases h2 : b.length < a.length
    · rw [if_pos h2]; exact ⟨fun h => (by cases h), fun h => by subst h; omega⟩
    · rw [if_neg h2]; exact lexC_zero
theorem cmpC_neg {a b : List Int} : cmpC a b < 0 ↔ 0 < cmpC b a := by
  unfold cmpC
  by_cases h1 : a.length < b.length
  · rw [if_pos h1, if_neg (by omega), if_pos h1]; exact ⟨fun _ => by decide, fun _ => by decide⟩
  · rw [if_neg h1]
    by_cases h2 : b.length < a.length
    · rw [if_pos h2, if_pos h2]; exact ⟨fun h => absurd h (by decide), fun h => absurd h (by decide)⟩
    · rw [if_neg h2, if_neg h2, if_neg h1]; exact lexC_neg
theorem cmpC_trans {a b c : List Int} (h1 : cmpC a b < 0) (h2 : cmpC b c < 0) : cmpC a c < 0 := by
  unfold cmpC at h1 h2 ⊢
  by_cases p1 : a.length < b.length
  · by_cases p2 : b.length < c.length
    · rw [if_pos (by omega)]; decide
    · rw [if_neg p2] at h2
      by_cases p3 : c.length < b.length
      · rw [if_pos p3] at h2; exact absurd h2 (by decide)
      · rw [if_pos (by omega)]; decide
  · rw [if_neg p1] at h1
    by_cases p3 : b.length < a.length
    · rw [if_pos p3] at h1; exact absurd h1 (by decide)
    · rw [if_neg p3] at h1
      by_cases p2 : b.length < c.length
      · rw [if_pos (by omega)]; decide
      · rw [if_neg p2] at h2
        by_cases p4 : c.length < b.length
        · rw [if_pos p4] at h2; exact absurd h2 (by decide)
        · rw [if_neg p4] at h2
          rw [if_neg (by omega), if_neg (by omega)]
          exact lexC_trans h1 h2
def Srt (l : List (List Int)) : Prop := l.Pairwise fun a b => cmpC a b < 0
theorem Srt.one : ∀ {l m : List (List Int)}, Srt l → Srt m → (∀ x, x ∈ l ↔ x ∈ m) → l = m
  | [], [], _, _, _ => rfl
  | [], y :: m, _, _, h => absurd ((h y).2 (by simp)) (by simp)
  | x :: l, [], _, _, h => absurd ((h x).1 (by simp)) (by simp)
  | x :: l, y :: m, h1, h2, h => by
    obtain ⟨a1, a2⟩ := List.pairwise_cons.1 h1
    obtain ⟨b1, b2⟩ := List.pairwise_cons.1 h2
    have hne : ∀ {u v : List Int}, cmpC u v < 0 → u ≠ v := fun hlt q => by rw [cmpC_zero.2 q] at hlt; exact absurd hlt (by decide)
    have asym : ∀ {u v : List Int}, cmpC u v < 0 → ¬ cmpC v u < 0 := fun p q => by have := cmpC_neg.1 p; omega
    have hxy : x = y := by
      rcases List.mem_cons.1 ((h x).1 (by simp)) with q | q
      · exact q
      · rcases List.mem_cons.1 ((h y).2 (by simp)) with q2 | q2
        · exact q2.symm
        · exact absurd (a1 y q2) (asym (b1 x q))
    subst hxy
    rw [Srt.one a2 b2 fun z => ?_]
    constructor
    · intro hz
      rcases List.mem_cons.1 ((h z).1 (List.mem_cons_of_mem _ hz)) with q | q
      · exact absurd q.symm (hne (a1 z hz))
      · exact q
    · intro hz
      rcases List.mem_cons.1 ((h z).2 (List.mem_cons_of_mem _ hz)) with q | q
      · exact absurd q.symm (hne (b1 z hz))
      · exact q
def putC : List (List Int) → List Int → List (List Int)
  | [], c => [c]
  | x :: l, c => if cmpC c x < 0 then c :: x :: l else if c = x then x :: l else x :: putC l c
theorem putC_mem {c z : List Int} : ∀ {l : List (List Int)}, z ∈ putC l c ↔ z ∈ l ∨ z = c
  | [] => by simp [putC]
  | x :: l => by
    unfold putC
    by_cases h1 : cmpC c x < 0
    · rw [if_pos h1, List.mem_cons]; exact Or.comm
    · rw [if_neg h1]
      by_cases h2 : c = x
      · rw [if_pos h2, ← h2, List.mem_cons]
        constructor
        · exact .inl
        · rintro (h | h)
          · exact h
          · exact .inl h
      · rw [if_neg h2, List.mem_cons, List.mem_cons, putC_mem, or_assoc]
theorem putC_srt {c : List Int} : ∀ {l : List (List Int)}, Srt l → Srt (putC l c)
  | [], _ => List.pairwise_singleton ..
  | x :: l, h => by
    obtain ⟨a1, a2⟩ := List.pairwise_cons.1 h
    unfold putC
    by_cases h1 : cmpC c x < 0
    · rw [if_pos h1]
      refine List.pairwise_cons.2 ⟨fun y hy => ?_, h⟩
      rcases List.mem_cons.1 hy with rfl | hy
      · exact h1
      · exact cmpC_trans h1 (a1 y hy)
    · rw [if_neg h1]
      by_cases h2 : c = x
      · rw [if_pos h2]; exact h
      · rw [if_neg h2]
        refine List.pairwise_cons.2 ⟨fun y hy => ?_, putC_srt a2⟩
        rcases putC_mem.1 hy with hy | rfl
        · exact a1 y hy
        · have hz : cmpC y x ≠ 0 := fun q => h2 (cmpC_zero.1 q)
          have := @cmpC_neg x y
          omega
/-- What may stand in the cells at the end. -/
def finL (sz : Int) (bs : List Int) (xss : List (List Ac)) (L : List (List Int)) : List (List Int) := L.foldl (fun l q => putC l (playP sz bs xss q).1) []
theorem finL_snoc {sz : Int} {bs : List Int} {xss : List (List Ac)} (L : List (List Int)) (q : List Int) : finL sz bs xss (L ++ [q]) = putC (finL sz bs xss L) (playP sz bs xss q).1 := by unfold finL; rw [List.foldl_append]; rfl
theorem finL_srt {sz : Int} {bs : List Int} {xss : List (List Ac)} (L : List (List Int)) : Srt (finL sz bs xss L) := by
  induction L using rev_ind with
  | nil => exact .nil
  | append_singleton L q ih => rw [finL_snoc]; exact putC_srt ih
theorem finL_mem {sz : Int} {bs : List Int} {xss : List (List Ac)} {L : List (List Int)} {z : List Int} : z ∈ finL sz bs xss L ↔ ∃ q ∈ L, z = (playP sz bs xss q).1 := by
  induction L using rev_ind with
  | nil => exact ⟨fun h => (by cases h), fun ⟨q, h, _⟩ => (by cases h)⟩
  | append_singleton L q ih =>
    rw [finL_snoc, putC_mem, ih]
    constructor
    · rintro (⟨p, h1, h2⟩ | h)
      · exact ⟨p, List.mem_append_left _ h1, h2⟩
      · exact ⟨q, by simp, h⟩
    · rintro ⟨p, h1, h2⟩
      rcases List.mem_append.1 h1 with h1 | h1
      · exact .inl ⟨p, h1, h2⟩
      · have : p = q := by simpa using h1
        subst this
        exact .inr h2
theorem finals_eq {sz : Int} {bs : List Int} {xss : List (List Ac)} (h2 : (bs.length : Int) ≤ sz) (hbad : badsE xss = false) : finL sz bs xss (allS xss) = finL sz bs xss (expS sz bs.length xss) := by
  refine Srt.one (finL_srt _) (finL_srt _) fun z => ?_
  rw [finL_mem, finL_mem]
  constructor
  · rintro ⟨p, h3, h4⟩
    have hp := allS_mem.1 h3
    obtain ⟨q, hq, ha⟩ := least_ex (sz := sz) (len := bs.length) hp
    have hqS := allS_mem.1 (List.mem_filter.1 hq).1
    exact ⟨q, hq, by rw [h4]; exact ends_alk h2 hbad hp hqS ha⟩
  · rintro ⟨q, hq, h⟩
    exact ⟨q, (List.mem_filter.1 hq).1, h⟩
/-- Where the new one comes. -/
theorem putC_at {c : List Int} : ∀ {l : List (List Int)} {j : Nat}, j ≤ l.length → (∀ x ∈ l.take j, cmpC x c < 0) → (∀ x, l[j]? = some x → cmpC c x < 0) → putC l c = l.take j ++ c :: l.drop j
  | [], j, hj, _, _ => by
    have : j = 0 := Nat.le_zero.1 hj
    subst this; rfl
  | x :: l, 0, _, _, h => by
    unfold putC
    rw [if_pos (h x rfl)]; rfl
  | x :: l, j + 1, hj, h1, h2 => by
    have hx := h1 x (by simp)
    have hn : ¬ cmpC c x < 0 := fun q => by have := cmpC_neg.1 q; omega
    have hne : c ≠ x := fun q => by rw [cmpC_zero.2 q.symm] at hx; exact absurd hx (by decide)
    unfold putC
    rw [if_neg hn, if_neg hne, putC_at (j := j) (by simpa using hj) (fun y hy => h1 y (by rw [List.take_succ_cons]; exact List.mem_cons_of_mem _ hy)) (fun y hy => h2 y (by simpa using hy))]
    rfl
theorem putC_in {c : List Int} : ∀ {l : List (List Int)}, Srt l → c ∈ l → putC l c = l
  | [], _, h => by cases h
  | x :: l, hs, h => by
    obtain ⟨a1, a2⟩ := List.pairwise_cons.1 hs
    unfold putC
    rcases List.mem_cons.1 h with rfl | h
    · rw [if_neg (by rw [cmpC_zero.2 rfl]; decide), if_pos rfl]
    · have hx := a1 c h
      have hn : ¬ cmpC c x < 0 := fun q => by have := cmpC_neg.1 q; omega
      have hne : c ≠ x := fun q => by rw [cmpC_zero.2 q.symm] at hx; exact absurd hx (by decide)
      rw [if_neg hn, if_neg hne, putC_in a2 h]
end Go.Mx
