/-
  The reference's deque machine: what it wants next, from the list of its answers, is what the machine of the program asks for.
-/
import Derived.Test.YtndhbkhhehleaaaMxQa
set_option linter.unusedVariables false
set_option linter.unusedSimpArgs false
namespace Go.Mx

abbrev KWn : Kd := .pair ki (.pair ki (.pair ki (.pair ki (.pair ki (.pair ki .nil)))))
abbrev Wn := Den KWn
def wLd (a : Int) : Wn := (0, (a, (0, (0, (0, (0, ()))))))
def wSt (a v : Int) : Wn := (1, (a, (v, (0, (0, (0, ()))))))
def wCas (a x y : Int) : Wn := (2, (a, (x, (y, (0, (0, ()))))))
def wRs (n : Int) : Wn := (4, (0, (n, (0, (0, (0, ()))))))
def wEnd (c v : Int) : Wn := (-1, (0, (0, (0, (c, (v, ()))))))
def Rq.want : Rq → Wn
  | .ld a => wLd a
  | .st a v => wSt a v
  | .cas a x y => wCas a x y
  | .rs n => wRs n
/-- What the machine asks for, or what has come of it. -/
def DOp.want (o : DOp) : Wn := if o = DOp.zero then wEnd 1 0 else if o.pc = 0 then wEnd o.code o.value else o.req.want

def modR (x n : Int) : Int := if Int.tmod x n < 0 then w64 (Int.tmod x n + n) else Int.tmod x n
def atR (a c i : Int) : Int := w64 (w64 (a + 1) + modR i c)
theorem atR_place (a c i : Int) : atR a c i = placeD a c i := by unfold atR modR placeD; split <;> rfl
def c2R (most c : Int) : Int := if most < w64 (2 * c) then most else w64 (2 * c)
def lastR (base v a c b n : Int) : Wn := if n = 0 then wSt (atR a c b) v else if n = 1 then wSt (w64 (base + 1)) (w64 (b + 1)) else wEnd 2 0
def pushR (base most v : Int) (h : List Int) : Wn :=
  if (h.length : Int) = 0 then wLd (w64 (base + 1)) else if (h.length : Int) = 1 then wLd base else if (h.length : Int) = 2 then wLd (w64 (base + 2)) else if (h.length : Int) = 3 then wLd (h.getD 2 0)
  else if h.getD 3 0 < 1 then wEnd 1 0 else if w64 (h.getD 0 0 - h.getD 1 0) < h.getD 3 0 then lastR base v (h.getD 2 0) (h.getD 3 0) (h.getD 0 0) (w64 ((h.length : Int) - 4))
  else if most ≤ h.getD 3 0 then wEnd 3 0 else if (h.length : Int) = 4 then wRs (w64 (1 + c2R most (h.getD 3 0))) else if (h.length : Int) = 5 then wSt (h.getD 4 0) (c2R most (h.getD 3 0))
  else if w64 (Int.tdiv (w64 ((h.length : Int) - 6)) 2) < w64 (h.getD 0 0 - h.getD 1 0) then
    (if Int.tmod (w64 ((h.length : Int) - 6)) 2 = 0 then wLd (atR (h.getD 2 0) (h.getD 3 0) (w64 (h.getD 1 0 + w64 (Int.tdiv (w64 ((h.length : Int) - 6)) 2))))
    else wSt (atR (h.getD 4 0) (c2R most (h.getD 3 0)) (w64 (h.getD 1 0 + w64 (Int.tdiv (w64 ((h.length : Int) - 6)) 2)))) (h.getD (h.length - 1) 0))
  else if w64 ((h.length : Int) - 6) = w64 (2 * w64 (h.getD 0 0 - h.getD 1 0)) then wSt (w64 (base + 2)) (h.getD 4 0)
  else lastR base v (h.getD 4 0) (c2R most (h.getD 3 0)) (h.getD 0 0) (w64 (w64 (w64 ((h.length : Int) - 6) - w64 (2 * w64 (h.getD 0 0 - h.getD 1 0))) - 1))
def popR (base : Int) (h : List Int) : Wn :=
  if (h.length : Int) = 0 then wLd (w64 (base + 1)) else if (h.length : Int) = 1 then wLd (w64 (base + 2)) else if (h.length : Int) = 2 then wSt (w64 (base + 1)) (w64 (h.getD 0 0 - 1)) else if (h.length : Int) = 3 then wLd base
  else if w64 (h.getD 0 0 - 1) < h.getD 3 0 then (if (h.length : Int) = 4 then wSt (w64 (base + 1)) (h.getD 3 0) else wEnd 5 0)
  else if (h.length : Int) = 4 then wLd (h.getD 1 0) else if h.getD 4 0 < 1 then wEnd 1 0 else if (h.length : Int) = 5 then wLd (atR (h.getD 1 0) (h.getD 4 0) (w64 (h.getD 0 0 - 1)))
  else if h.getD 3 0 < w64 (h.getD 0 0 - 1) then wEnd 4 (h.getD 5 0) else if (h.length : Int) = 6 then wCas base (h.getD 3 0) (w64 (h.getD 3 0 + 1)) else if (h.length : Int) = 7 then wSt (w64 (base + 1)) (w64 (h.getD 3 0 + 1))
  else if h.getD 6 0 = 1 then wEnd 4 (h.getD 5 0) else wEnd 5 0
def stealR (base : Int) (h : List Int) : Wn :=
  if (h.length : Int) = 0 then wLd base else if (h.length : Int) = 1 then wLd (w64 (base + 1)) else if h.getD 1 0 ≤ h.getD 0 0 then wEnd 5 0
  else if (h.length : Int) = 2 then wLd (w64 (base + 2)) else if (h.length : Int) = 3 then wLd (h.getD 2 0) else if h.getD 3 0 < 1 then wEnd 1 0
  else if (h.length : Int) = 4 then wLd (atR (h.getD 2 0) (h.getD 3 0) (h.getD 0 0)) else if (h.length : Int) = 5 then wCas base (h.getD 0 0) (w64 (h.getD 0 0 + 1))
  else if h.getD 5 0 = 1 then wEnd 4 (h.getD 4 0) else wEnd 6 0
def lookR (base : Int) (h : List Int) : Wn :=
  if (h.length : Int) = 0 then wLd base else if (h.length : Int) = 1 then wLd (w64 (base + 1)) else if h.getD 0 0 < h.getD 1 0 then wEnd 7 0 else wEnd 8 0

/-- The machine behind these answers. -/
def runH (o : DOp) (h : List Int) : DOp := h.foldl DOp.after o
/-- It had not ended ahead of any of them. -/
def LiveH (o : DOp) (h : List Int) : Prop := ∀ i, i < h.length → (runH o (h.take i)).pc ≠ 0
theorem runH_snoc (o : DOp) (h : List Int) (g : Int) : runH o (h ++ [g]) = (runH o h).after g := by unfold runH; rw [List.foldl_append]; rfl
theorem LiveH.nil (o : DOp) : LiveH o [] := fun i hi => by cases hi
theorem LiveH.snoc {o : DOp} {h : List Int} (l : LiveH o h) (p : (runH o h).pc ≠ 0) (g : Int) : LiveH o (h ++ [g]) := fun i hi => by
  rw [List.length_append, List.length_singleton] at hi
  by_cases c : i < h.length
  · rw [List.take_append_of_le_length (by omega)]; exact l i c
  · obtain rfl : i = h.length := by omega
    rw [List.take_left']; exact p; rfl
theorem LiveH.pre {o : DOp} {h m : List Int} (l : LiveH o (h ++ m)) : LiveH o h := fun i hi => by
  have := l i (by rw [List.length_append]; omega)
  rwa [List.take_append_of_le_length (by omega)] at this
theorem LiveH.at {o : DOp} {h m : List Int} (l : LiveH o (h ++ m)) (hm : m ≠ []) : (runH o h).pc ≠ 0 := by
  have := l h.length (by rw [List.length_append]; have := List.length_pos_iff.2 hm; omega)
  rwa [List.take_left' rfl] at this

theorem w64_wrap (x : Int) : ∃ k : Int, w64 x = x + k * 18446744073709551616 ∧ -9223372036854775808 ≤ w64 x ∧ w64 x < 9223372036854775808 := by
  refine ⟨-((x + 9223372036854775808) / 18446744073709551616), ?_⟩
  simp [IntKind.wrap, IntKind.bits, IntKind.signed]; omega
theorem want_run {o : DOp} (hk : o.kind ≠ 0) (hp : o.pc ≠ 0) : o.want = o.req.want := by
  unfold DOp.want
  rw [if_neg (fun e => hk (by rw [e]; rfl)), if_neg hp]
theorem want_end {o : DOp} (hk : o.kind ≠ 0) (hp : o.pc = 0) : o.want = wEnd o.code o.value := by
  unfold DOp.want
  rw [if_neg (fun e => hk (by rw [e]; rfl)), if_pos hp]
theorem runH_cons (o : DOp) (x : Int) (h : List Int) : runH o (x :: h) = runH (o.after x) h := rfl
theorem runH_nil (o : DOp) : runH o [] = o := rfl
theorem LiveH.tl {o : DOp} {x : Int} {h : List Int} (l : LiveH o (x :: h)) : o.pc ≠ 0 ∧ LiveH (o.after x) h := by
  refine ⟨l 0 (by simp), fun i hi => ?_⟩
  have := l (i + 1) (by simp; omega)
  rwa [List.take_succ_cons, runH_cons] at this

theorem look_want {base most v : Int} (hb : w64 base = base) {h : List Int} (l : LiveH ⟨4, 2, base, most, v, 0, 0, 0, 0, 0, 0, 0, 0, false, 0, 0⟩ h) : (runH ⟨4, 2, base, most, v, 0, 0, 0, 0, 0, 0, 0, 0, false, 0, 0⟩ h).want = lookR base h := by
  match h, l with
  | [], _ => rw [runH_nil, want_run (by simp) (by simp)]; simp [DOp.req, Rq.want, lookR, hb]
  | [t], l =>
    rw [runH_cons, runH_nil]
    have e : DOp.after ⟨4, 2, base, most, v, 0, 0, 0, 0, 0, 0, 0, 0, false, 0, 0⟩ t = ⟨4, 1, base, most, v, t, 0, 0, 0, 0, 0, 0, 0, false, 0, 0⟩ := rfl
    rw [e, want_run (by simp) (by simp)]; simp [DOp.req, Rq.want, lookR]
  | t :: b :: r, l =>
    have e : DOp.after ⟨4, 2, base, most, v, 0, 0, 0, 0, 0, 0, 0, 0, false, 0, 0⟩ t = ⟨4, 1, base, most, v, t, 0, 0, 0, 0, 0, 0, 0, false, 0, 0⟩ := rfl
    have e2 : DOp.after ⟨4, 1, base, most, v, t, 0, 0, 0, 0, 0, 0, 0, false, 0, 0⟩ b = if t < b then DOp.over ⟨4, 1, base, most, v, t, 0, 0, 0, 0, 0, 0, 0, false, 0, 0⟩ 7 0 else DOp.over ⟨4, 1, base, most, v, t, 0, 0, 0, 0, 0, 0, 0, false, 0, 0⟩ 8 0 := rfl
    have l2 := l.tl.2.tl.2
    rw [e, e2] at l2
    rw [runH_cons, runH_cons, e, e2]
    match r, l2 with
    | [], _ =>
      rw [runH_nil]
      by_cases c : t < b
      · rw [if_pos c, want_end (by simp [DOp.over]) (by rfl)]; simp [lookR, DOp.over, c]
      · rw [if_neg c, want_end (by simp [DOp.over]) (by rfl)]; simp [lookR, DOp.over, c]
    | x :: r, l2 => exact absurd (by split <;> rfl) l2.tl.1
theorem steal_want {base most v : Int} (hb : w64 base = base) {h : List Int} (l : LiveH ⟨3, 2, base, most, v, 0, 0, 0, 0, 0, 0, 0, 0, false, 0, 0⟩ h) : (runH ⟨3, 2, base, most, v, 0, 0, 0, 0, 0, 0, 0, 0, false, 0, 0⟩ h).want = stealR base h := by
  have e1 : ∀ t, DOp.after ⟨3, 2, base, most, v, 0, 0, 0, 0, 0, 0, 0, 0, false, 0, 0⟩ t = ⟨3, 1, base, most, v, t, 0, 0, 0, 0, 0, 0, 0, false, 0, 0⟩ := fun t => rfl
  have e2 : ∀ t b, DOp.after ⟨3, 1, base, most, v, t, 0, 0, 0, 0, 0, 0, 0, false, 0, 0⟩ b = if b ≤ t then DOp.over ⟨3, 3, base, most, v, t, b, 0, 0, 0, 0, 0, 0, false, 0, 0⟩ 5 0 else ⟨3, 3, base, most, v, t, b, 0, 0, 0, 0, 0, 0, false, 0, 0⟩ := fun t b => rfl
  have e3 : ∀ t b a, DOp.after ⟨3, 3, base, most, v, t, b, 0, 0, 0, 0, 0, 0, false, 0, 0⟩ a = ⟨3, 4, base, most, v, t, b, a, 0, 0, 0, 0, 0, false, 0, 0⟩ := fun t b a => rfl
  have e4 : ∀ t b a c, DOp.after ⟨3, 4, base, most, v, t, b, a, 0, 0, 0, 0, 0, false, 0, 0⟩ c = if c < 1 then DOp.over ⟨3, 12, base, most, v, t, b, a, c, 0, 0, 0, 0, false, 0, 0⟩ 1 0 else ⟨3, 12, base, most, v, t, b, a, c, 0, 0, 0, 0, false, 0, 0⟩ := fun t b a c => rfl
  have e5 : ∀ t b a c x, DOp.after ⟨3, 12, base, most, v, t, b, a, c, 0, 0, 0, 0, false, 0, 0⟩ x = ⟨3, 13, base, most, v, t, b, a, c, 0, 0, 0, x, false, 0, 0⟩ := fun t b a c x => rfl
  have e6 : ∀ t b a c x g, DOp.after ⟨3, 13, base, most, v, t, b, a, c, 0, 0, 0, x, false, 0, 0⟩ g = if g = 1 then DOp.over ⟨3, 13, base, most, v, t, b, a, c, 0, 0, 0, x, false, 0, 0⟩ 4 x else DOp.over ⟨3, 13, base, most, v, t, b, a, c, 0, 0, 0, x, false, 0, 0⟩ 6 0 := fun t b a c x g => rfl
  match h, l with
  | [], _ => rw [runH_nil, want_run (by simp) (by simp)]; simp [DOp.req, Rq.want, stealR, hb]
  | [t], l => rw [runH_cons, runH_nil, e1, want_run (by simp) (by simp)]; simp [DOp.req, Rq.want, stealR]
  | t :: b :: r, l =>
    have l2 := l.tl.2.tl.2
    rw [e1, e2] at l2
    rw [runH_cons, runH_cons, e1, e2]
    by_cases c : b ≤ t
    · rw [if_pos c] at l2 ⊢
      match r, l2 with
      | [], _ => rw [runH_nil, want_end (by simp [DOp.over]) (by rfl)]; simp [stealR, DOp.over, c]
      | x :: r, l2 => exact absurd rfl l2.tl.1
    rw [if_neg c] at l2 ⊢
    match r, l2 with
    | [], _ => rw [runH_nil, want_run (by simp) (by simp)]; simp [DOp.req, Rq.want, stealR, c]
    | [a], _ => rw [runH_cons, runH_nil, e3, want_run (by simp) (by simp)]; simp [DOp.req, Rq.want, stealR, c]
    | a :: cc :: r, l2 =>
      have l4 := l2.tl.2.tl.2
      rw [e3, e4] at l4
      rw [runH_cons, runH_cons, e3, e4]
      by_cases d : cc < 1
      · rw [if_pos d] at l4 ⊢
        match r, l4 with
        | [], _ => rw [runH_nil, want_end (by simp [DOp.over]) (by rfl)]; simp [stealR, DOp.over, c, d]
        | x :: r, l4 => exact absurd rfl l4.tl.1
      rw [if_neg d] at l4 ⊢
      match r, l4 with
      | [], _ => rw [runH_nil, want_run (by simp) (by simp)]; simp [DOp.req, Rq.want, stealR, c, d, atR_place]
      | [x], _ => rw [runH_cons, runH_nil, e5, want_run (by simp) (by simp)]; simp [DOp.req, Rq.want, stealR, c, d, hb]
      | x :: g :: r, l4 =>
        have l6 := l4.tl.2.tl.2
        rw [e5, e6] at l6
        rw [runH_cons, runH_cons, e5, e6]
        match r, l6 with
        | [], _ =>
          rw [runH_nil]
          by_cases f : g = 1
          · rw [if_pos f, want_end (by simp [DOp.over]) (by rfl)]; simp [stealR, DOp.over, c, d, f]
          · rw [if_neg f, want_end (by simp [DOp.over]) (by rfl)]; simp [stealR, DOp.over, c, d, f]
        | y :: r, l6 => exact absurd (by split <;> rfl) l6.tl.1
theorem pop_want {base most v : Int} (hb : w64 base = base) {h : List Int} (l : LiveH ⟨2, 1, base, most, v, 0, 0, 0, 0, 0, 0, 0, 0, false, 0, 0⟩ h) : (runH ⟨2, 1, base, most, v, 0, 0, 0, 0, 0, 0, 0, 0, false, 0, 0⟩ h).want = popR base h := by
  have e1 : ∀ b, DOp.after ⟨2, 1, base, most, v, 0, 0, 0, 0, 0, 0, 0, 0, false, 0, 0⟩ b = ⟨2, 3, base, most, v, 0, w64 (b - 1), 0, 0, 0, 0, 0, 0, false, 0, 0⟩ := fun t => rfl
  have e2 : ∀ b a, DOp.after ⟨2, 3, base, most, v, 0, b, 0, 0, 0, 0, 0, 0, false, 0, 0⟩ a = ⟨2, 11, base, most, v, 0, b, a, 0, 0, 0, 0, 0, false, 0, 0⟩ := fun b a => rfl
  have e3 : ∀ b a z, DOp.after ⟨2, 11, base, most, v, 0, b, a, 0, 0, 0, 0, 0, false, 0, 0⟩ z = ⟨2, 2, base, most, v, 0, b, a, 0, 0, 0, 0, 0, false, 0, 0⟩ := fun b a z => rfl
  have e4 : ∀ b a t, DOp.after ⟨2, 2, base, most, v, 0, b, a, 0, 0, 0, 0, 0, false, 0, 0⟩ t = if b < t then ⟨2, 11, base, most, v, t, b, a, 0, 0, 0, 1, 0, false, 0, 0⟩ else ⟨2, 4, base, most, v, t, b, a, 0, 0, 0, 1, 0, false, 0, 0⟩ := fun b a t => rfl
  have e5 : ∀ b a t c z, DOp.after ⟨2, 11, base, most, v, t, b, a, c, 0, 0, 1, 0, false, 0, 0⟩ z = DOp.over ⟨2, 11, base, most, v, t, b, a, c, 0, 0, 1, 0, false, 0, 0⟩ 5 0 := fun b a t c z => rfl
  have e6 : ∀ b a t c, DOp.after ⟨2, 4, base, most, v, t, b, a, 0, 0, 0, 1, 0, false, 0, 0⟩ c = if c < 1 then DOp.over ⟨2, 12, base, most, v, t, b, a, c, 0, 0, 1, 0, false, 0, 0⟩ 1 0 else ⟨2, 12, base, most, v, t, b, a, c, 0, 0, 1, 0, false, 0, 0⟩ := fun b a t c => rfl
  have e7 : ∀ b a t c x, DOp.after ⟨2, 12, base, most, v, t, b, a, c, 0, 0, 1, 0, false, 0, 0⟩ x = if t < b then DOp.over ⟨2, 13, base, most, v, t, b, a, c, 0, 0, 1, x, false, 0, 0⟩ 4 x else ⟨2, 13, base, most, v, t, b, a, c, 0, 0, 1, x, false, 0, 0⟩ := fun b a t c x => rfl
  have e8 : ∀ b a t c x g, DOp.after ⟨2, 13, base, most, v, t, b, a, c, 0, 0, 1, x, false, 0, 0⟩ g = ⟨2, 11, base, most, v, t, b, a, c, 0, 0, 1, x, decide (g = 1), 0, 0⟩ := fun b a t c x g => rfl
  have e9 : ∀ b a t c x w z, DOp.after ⟨2, 11, base, most, v, t, b, a, c, 0, 0, 1, x, w, 0, 0⟩ z = if w = true then DOp.over ⟨2, 11, base, most, v, t, b, a, c, 0, 0, 1, x, w, 0, 0⟩ 4 x else DOp.over ⟨2, 11, base, most, v, t, b, a, c, 0, 0, 1, x, w, 0, 0⟩ 5 0 := fun b a t c x w z => rfl
  match h, l with
  | [], _ => rw [runH_nil, want_run (by simp) (by simp)]; simp [DOp.req, Rq.want, popR]
  | [b], _ => rw [runH_cons, runH_nil, e1, want_run (by simp) (by simp)]; simp [DOp.req, Rq.want, popR]
  | [b, a], _ => rw [runH_cons, runH_cons, runH_nil, e1, e2, want_run (by simp) (by simp)]; simp [DOp.req, DOp.next, Rq.want, popR]
  | [b, a, z], _ => rw [runH_cons, runH_cons, runH_cons, runH_nil, e1, e2, e3, want_run (by simp) (by simp)]; simp [DOp.req, Rq.want, popR, hb]
  | b :: a :: z :: t :: r, l =>
    have l4 := l.tl.2.tl.2.tl.2.tl.2
    rw [e1, e2, e3, e4] at l4
    rw [runH_cons, runH_cons, runH_cons, runH_cons, e1, e2, e3, e4]
    by_cases c : w64 (b - 1) < t
    · rw [if_pos c] at l4 ⊢
      match r, l4 with
      | [], _ => rw [runH_nil, want_run (by simp) (by simp)]; simp [DOp.req, DOp.next, Rq.want, popR, c]
      | [y], _ => rw [runH_cons, runH_nil, e5, want_end (by simp [DOp.over]) (by rfl)]; simp [popR, DOp.over, c]
      | y :: y2 :: r, l4 => exact absurd (by rw [e5]; rfl) l4.tl.2.tl.1
    rw [if_neg c] at l4 ⊢
    match r, l4 with
    | [], _ => rw [runH_nil, want_run (by simp) (by simp)]; simp [DOp.req, Rq.want, popR, c]
    | cc :: r, l4 =>
      have l5 := l4.tl.2
      rw [e6] at l5
      rw [runH_cons, e6]
      by_cases d : cc < 1
      · rw [if_pos d] at l5 ⊢
        match r, l5 with
        | [], _ => rw [runH_nil, want_end (by simp [DOp.over]) (by rfl)]; simp [popR, DOp.over, c, d]
        | x :: r, l5 => exact absurd rfl l5.tl.1
      rw [if_neg d] at l5 ⊢
      match r, l5 with
      | [], _ => rw [runH_nil, want_run (by simp) (by simp)]; simp [DOp.req, Rq.want, popR, c, d, atR_place]
      | x :: r, l5 =>
        have l6 := l5.tl.2
        rw [e7] at l6
        rw [runH_cons, e7]
        by_cases f : t < w64 (b - 1)
        · rw [if_pos f] at l6 ⊢
          match r, l6 with
          | [], _ => rw [runH_nil, want_end (by simp [DOp.over]) (by rfl)]; simp [popR, DOp.over, c, d, f]
          | y :: r, l6 => exact absurd rfl l6.tl.1
        rw [if_neg f] at l6 ⊢
        match r, l6 with
        | [], _ => rw [runH_nil, want_run (by simp) (by simp)]; simp [DOp.req, Rq.want, popR, c, d, f, hb]
        | [g], _ => rw [runH_cons, runH_nil, e8, want_run (by simp) (by simp)]; simp [DOp.req, DOp.next, Rq.want, popR, c, d, f]
        | g :: y :: r, l6 =>
          have l8 := l6.tl.2.tl.2
          rw [e8, e9] at l8
          rw [runH_cons, runH_cons, e8, e9]
          match r, l8 with
          | [], _ =>
            rw [runH_nil]
            by_cases k : g = 1
            · rw [if_pos (decide_eq_true k), want_end (by simp [DOp.over]) (by rfl)]; simp [popR, DOp.over, c, d, f, k]
            · rw [if_neg (by rw [decide_eq_false k]; decide), want_end (by simp [DOp.over]) (by rfl)]; simp [popR, DOp.over, c, d, f, k]
          | y :: r, l8 => exact absurd (by split <;> rfl) l8.tl.1

/-! ### push -/
theorem wt_step {t : Int} {j : Nat} : w64 (w64 (t + (j : Int)) + 1) = w64 (t + ((j + 1 : Nat) : Int)) := by
  simp [IntKind.wrap, IntKind.bits, IntKind.signed]; omega
theorem wt_end {b t : Int} {j : Nat} (hb : w64 b = b) (hj : (j : Int) < w64 (b - t)) : w64 (t + ((j + 1 : Nat) : Int)) = b ↔ ((j + 1 : Nat) : Int) = w64 (b - t) := by
  simp [IntKind.wrap, IntKind.bits, IntKind.signed] at *; omega
section
variable {base most v t b a c a2 c2 : Int}
theorem last_want {i x : Int} {r : List Int} (l : LiveH ⟨1, 10, base, most, v, t, b, a, c, a2, c2, i, x, false, 0, 0⟩ r) : (runH ⟨1, 10, base, most, v, t, b, a, c, a2, c2, i, x, false, 0, 0⟩ r).want = lastR base v a c b (r.length : Int) := by
  have e10 : ∀ z, DOp.after ⟨1, 10, base, most, v, t, b, a, c, a2, c2, i, x, false, 0, 0⟩ z = ⟨1, 11, base, most, v, t, b, a, c, a2, c2, i, x, false, 0, 0⟩ := fun z => rfl
  have e11 : ∀ z, DOp.after ⟨1, 11, base, most, v, t, b, a, c, a2, c2, i, x, false, 0, 0⟩ z = DOp.over ⟨1, 11, base, most, v, t, b, a, c, a2, c2, i, x, false, 0, 0⟩ 2 0 := fun z => rfl
  match r, l with
  | [], _ => rw [runH_nil, want_run (by simp) (by simp)]; simp [DOp.req, Rq.want, lastR, atR_place]
  | [z], _ => rw [runH_cons, runH_nil, e10, want_run (by simp) (by simp)]; simp [DOp.req, DOp.next, Rq.want, lastR]
  | [z, z2], _ => rw [runH_cons, runH_cons, runH_nil, e10, e11, want_end (by simp [DOp.over]) (by rfl)]; simp [DOp.over, lastR]
  | z :: z2 :: z3 :: r, l => exact absurd (by rw [e10, e11]; rfl) l.tl.2.tl.2.tl.1
def growR (base v t b a c a2 c2 : Int) (n : Int) (y : Int) : Wn :=
  if n / 2 < w64 (b - t) then (if n % 2 = 0 then wLd (atR a c (w64 (t + n / 2))) else wSt (atR a2 c2 (w64 (t + n / 2))) y)
  else if n = 2 * w64 (b - t) then wSt (w64 (base + 2)) a2 else lastR base v a2 c2 b (n - 2 * w64 (b - t) - 1)
theorem grow_want (hb : w64 b = b) : ∀ (m : Nat) (q : List Int) (j : Nat) (x : Int), q.length ≤ m → (j : Int) < w64 (b - t) → LiveH ⟨1, 7, base, most, v, t, b, a, c, a2, c2, w64 (t + (j : Int)), x, false, 0, 0⟩ q →
    (runH ⟨1, 7, base, most, v, t, b, a, c, a2, c2, w64 (t + (j : Int)), x, false, 0, 0⟩ q).want = growR base v t b a c a2 c2 (2 * (j : Int) + (q.length : Int)) (q.getD (q.length - 1) 0) := by
  intro m
  induction m with
  | zero =>
    intro q j x hm hj l
    obtain rfl : q = [] := List.length_eq_zero_iff.1 (by omega)
    rw [runH_nil, want_run (by simp) (by simp)]
    have h2 : (2 * (j : Int) + (([] : List Int).length : Int)) = 2 * (j : Int) := by simp
    rw [h2]
    unfold growR
    rw [if_pos (by omega), if_pos (by omega), show 2 * (j : Int) / 2 = j by omega]
    simp [DOp.req, Rq.want, atR_place]
  | succ m ih =>
    intro q j x hm hj l
    have e7 : ∀ i x x', DOp.after ⟨1, 7, base, most, v, t, b, a, c, a2, c2, i, x, false, 0, 0⟩ x' = ⟨1, 8, base, most, v, t, b, a, c, a2, c2, i, x', false, 0, 0⟩ := fun i x x' => rfl
    have e8 : ∀ i x z, DOp.after ⟨1, 8, base, most, v, t, b, a, c, a2, c2, i, x, false, 0, 0⟩ z = if w64 (i + 1) = b then ⟨1, 9, base, most, v, t, b, a, c, a2, c2, w64 (i + 1), x, false, 0, 0⟩ else ⟨1, 7, base, most, v, t, b, a, c, a2, c2, w64 (i + 1), x, false, 0, 0⟩ := fun i x z => rfl
    have e9 : ∀ i x z, DOp.after ⟨1, 9, base, most, v, t, b, a, c, a2, c2, i, x, false, 0, 0⟩ z = ⟨1, 10, base, most, v, t, b, a2, c2, a2, c2, i, x, false, 0, 0⟩ := fun i x z => rfl
    match q, hm, l with
    | [], _, l => exact ih [] j x (by simp) hj l
    | [x'], _, l =>
      rw [runH_cons, runH_nil, e7, want_run (by simp) (by simp)]
      have h2 : (2 * (j : Int) + (([x'] : List Int).length : Int)) = 2 * (j : Int) + 1 := by simp
      rw [h2]
      unfold growR
      rw [if_pos (by omega), if_neg (by omega), show (2 * (j : Int) + 1) / 2 = j by omega]
      simp [DOp.req, Rq.want, atR_place]
    | x' :: z :: q', hm, l =>
      have l2 := l.tl.2.tl.2
      rw [e7, e8, wt_step] at l2
      rw [runH_cons, runH_cons, e7, e8, wt_step]
      have hn : (2 * (j : Int) + ((x' :: z :: q' : List Int).length : Int)) = 2 * ((j + 1 : Nat) : Int) + (q'.length : Int) := by simp only [List.length_cons]; omega
      rw [hn]
      by_cases f : w64 (t + ((j + 1 : Nat) : Int)) = b
      · rw [if_pos f] at l2 ⊢
        have hk := (wt_end hb hj).1 f
        match q', l2 with
        | [], _ =>
          rw [runH_nil, want_run (by simp) (by simp)]
          have h2 : (2 * ((j + 1 : Nat) : Int) + (([] : List Int).length : Int)) = 2 * ((j + 1 : Nat) : Int) := by simp
          rw [h2]
          unfold growR
          rw [← hk, if_neg (by omega), if_pos rfl]
          simp [DOp.req, Rq.want]
        | z2 :: r, l2 =>
          rw [runH_cons, e9]
          have l3 := l2.tl.2
          rw [e9] at l3
          rw [last_want l3]
          have h2 : (2 * ((j + 1 : Nat) : Int) + ((z2 :: r : List Int).length : Int)) = 2 * ((j + 1 : Nat) : Int) + 1 + (r.length : Int) := by simp only [List.length_cons]; omega
          rw [h2]
          unfold growR
          rw [← hk, if_neg (by omega), if_neg (by omega), show 2 * ((j + 1 : Nat) : Int) + 1 + (r.length : Int) - 2 * ((j + 1 : Nat) : Int) - 1 = (r.length : Int) by omega]
      · rw [if_neg f] at l2 ⊢
        have hk : ((j + 1 : Nat) : Int) < w64 (b - t) := by
          have : ¬ ((j + 1 : Nat) : Int) = w64 (b - t) := fun e => f ((wt_end hb hj).2 e)
          omega
        have hl : q'.length ≤ m := by simp only [List.length_cons] at hm; omega
        rw [ih q' (j + 1) x' hl hk l2]
        match q' with
        | [] =>
          have h2 : (2 * ((j + 1 : Nat) : Int) + (([] : List Int).length : Int)) = 2 * ((j + 1 : Nat) : Int) := by simp
          rw [h2]
          unfold growR
          rw [if_pos (by omega), if_pos (by omega), if_pos (by omega), if_pos (by omega)]
        | y :: q'' => congr 1
end
theorem push_want {base most v : Int} (h1 : 1 ≤ most) (h2 : most ≤ 4096) {h : List Int} (hh : h.length ≤ 1000000000000) (hr : 2 ≤ h.length → w64 (h.getD 0 0) = h.getD 0 0 ∧ w64 (h.getD 1 0) = h.getD 1 0) (hb : w64 base = base) (l : LiveH ⟨1, 1, base, most, v, 0, 0, 0, 0, 0, 0, 0, 0, false, 0, 0⟩ h) : (runH ⟨1, 1, base, most, v, 0, 0, 0, 0, 0, 0, 0, 0, false, 0, 0⟩ h).want = pushR base most v h := by
  have e1 : ∀ b, DOp.after ⟨1, 1, base, most, v, 0, 0, 0, 0, 0, 0, 0, 0, false, 0, 0⟩ b = ⟨1, 2, base, most, v, 0, b, 0, 0, 0, 0, 0, 0, false, 0, 0⟩ := fun b => rfl
  have e2 : ∀ b t, DOp.after ⟨1, 2, base, most, v, 0, b, 0, 0, 0, 0, 0, 0, false, 0, 0⟩ t = ⟨1, 3, base, most, v, t, b, 0, 0, 0, 0, 0, 0, false, 0, 0⟩ := fun b t => rfl
  have e3 : ∀ b t a, DOp.after ⟨1, 3, base, most, v, t, b, 0, 0, 0, 0, 0, 0, false, 0, 0⟩ a = ⟨1, 4, base, most, v, t, b, a, 0, 0, 0, 0, 0, false, 0, 0⟩ := fun b t a => rfl
  have e4 : ∀ b t a c, DOp.after ⟨1, 4, base, most, v, t, b, a, 0, 0, 0, 0, 0, false, 0, 0⟩ c = if c < 1 then DOp.over ⟨1, 10, base, most, v, t, b, a, c, 0, 0, 0, 0, false, 0, 0⟩ 1 0 else if w64 (b - t) < c then ⟨1, 10, base, most, v, t, b, a, c, 0, 0, 0, 0, false, 0, 0⟩
      else if most ≤ c then DOp.over ⟨1, 10, base, most, v, t, b, a, c, 0, 0, 0, 0, false, 0, 0⟩ 3 0 else ⟨1, 5, base, most, v, t, b, a, c, 0, c2R most c, 0, 0, false, 0, 0⟩ := fun b t a c => rfl
  have e5 : ∀ b t a c c2 a2, DOp.after ⟨1, 5, base, most, v, t, b, a, c, 0, c2, 0, 0, false, 0, 0⟩ a2 = ⟨1, 6, base, most, v, t, b, a, c, a2, c2, 0, 0, false, 0, 0⟩ := fun b t a c c2 a2 => rfl
  have e6 : ∀ b t a c c2 a2 z, DOp.after ⟨1, 6, base, most, v, t, b, a, c, a2, c2, 0, 0, false, 0, 0⟩ z = ⟨1, 7, base, most, v, t, b, a, c, a2, c2, t, 0, false, 0, 0⟩ := fun b t a c c2 a2 z => rfl
  match h, hh, hr, l with
  | [], _, _, _ => rw [runH_nil, want_run (by simp) (by simp)]; simp [DOp.req, Rq.want, pushR]
  | [b], _, _, _ => rw [runH_cons, runH_nil, e1, want_run (by simp) (by simp)]; simp [DOp.req, Rq.want, pushR, hb]
  | [b, t], _, _, _ => rw [runH_cons, runH_cons, runH_nil, e1, e2, want_run (by simp) (by simp)]; simp [DOp.req, Rq.want, pushR]
  | [b, t, a], _, _, _ => rw [runH_cons, runH_cons, runH_cons, runH_nil, e1, e2, e3, want_run (by simp) (by simp)]; simp [DOp.req, Rq.want, pushR]
  | b :: t :: a :: c :: r, hh, hr, l =>
    have hrr := hr (by simp)
    simp only [List.getD_cons_zero, List.getD_cons_succ] at hrr
    have l4 := l.tl.2.tl.2.tl.2.tl.2
    rw [e1, e2, e3, e4] at l4
    have hlen : ((b :: t :: a :: c :: r : List Int).length : Int) = (r.length : Int) + 4 := by simp only [List.length_cons]; omega
    simp only [List.length_cons] at hh
    unfold pushR
    rw [hlen, if_neg (by omega), if_neg (by omega), if_neg (by omega), if_neg (by omega)]
    simp only [List.getD_cons_zero, List.getD_cons_succ]
    rw [runH_cons, runH_cons, runH_cons, runH_cons, e1, e2, e3, e4]
    by_cases d : c < 1
    · rw [if_pos d] at l4 ⊢
      rw [if_pos d]
      match r, l4 with
      | [], _ => rw [runH_nil, want_end (by simp [DOp.over]) (by rfl)]; rfl
      | x :: r, l4 => exact absurd rfl l4.tl.1
    rw [if_neg d] at l4 ⊢
    rw [if_neg d]
    by_cases f : w64 (b - t) < c
    · rw [if_pos f] at l4 ⊢
      rw [if_pos f, last_want l4, show (r.length : Int) + 4 - 4 = (r.length : Int) by omega, w64_of (x := (r.length : Int)) (by omega) (by omega)]
    rw [if_neg f] at l4 ⊢
    rw [if_neg f]
    by_cases g : most ≤ c
    · rw [if_pos g] at l4 ⊢
      rw [if_pos g]
      match r, l4 with
      | [], _ => rw [runH_nil, want_end (by simp [DOp.over]) (by rfl)]; rfl
      | x :: r, l4 => exact absurd rfl l4.tl.1
    rw [if_neg g] at l4 ⊢
    rw [if_neg g]
    match r, l4 with
    | [], _ => rw [runH_nil, want_run (by simp) (by simp), if_pos (by simp)]; simp [DOp.req, Rq.want]
    | [a2], _ => rw [runH_cons, runH_nil, e5, want_run (by simp) (by simp), if_neg (by simp), if_pos (by simp)]; simp [DOp.req, Rq.want]
    | a2 :: z :: q, l4 =>
      have l6 := l4.tl.2.tl.2
      rw [e5, e6] at l6
      rw [runH_cons, runH_cons, e5, e6]
      have h0 : w64 (t + ((0 : Nat) : Int)) = t := by rw [show t + ((0 : Nat) : Int) = t by omega]; exact hrr.2
      have G := grow_want (base := base) (most := most) (v := v) (t := t) (b := b) (a := a) (c := c) (a2 := a2) (c2 := c2R most c) hrr.1 q.length q 0 0 (Nat.le_refl _) (by omega)
      rw [h0] at G
      rw [G l6]
      simp only [List.length_cons] at hh
      have hq : ((a2 :: z :: q : List Int).length : Int) = (q.length : Int) + 2 := by simp only [List.length_cons]; omega
      rw [hq, if_neg (by omega), if_neg (by omega)]
      have hw : w64 ((q.length : Int) + 2 + 4 - 6) = (q.length : Int) := by rw [w64_of] <;> omega
      rw [hw]
      have hd : Int.tdiv (q.length : Int) 2 = (q.length : Int) / 2 := Int.tdiv_eq_ediv_of_nonneg (by omega)
      have hm : Int.tmod (q.length : Int) 2 = (q.length : Int) % 2 := Int.tmod_eq_emod_of_nonneg (by omega)
      have hw2 : w64 ((q.length : Int) / 2) = (q.length : Int) / 2 := by rw [w64_of] <;> omega
      rw [hd, hm, hw2]
      simp only [List.getD_cons_zero, List.getD_cons_succ]
      unfold growR
      rw [show 2 * ((0 : Nat) : Int) + (q.length : Int) = (q.length : Int) by omega]
      by_cases k : (q.length : Int) / 2 < w64 (b - t)
      · rw [if_pos k, if_pos k]
        by_cases k2 : (q.length : Int) % 2 = 0
        · rw [if_pos k2, if_pos k2]
        · rw [if_neg k2, if_neg k2]
          congr 1
          match q, k2 with
          | [], k2 => exact absurd rfl k2
          | y :: q, _ => rfl
      · rw [if_neg k, if_neg k]
        have hw3 : w64 (2 * w64 (b - t)) = 2 * w64 (b - t) := by rw [w64_of (x := 2 * w64 (b - t))] <;> omega
        rw [hw3]
        by_cases k2 : (q.length : Int) = 2 * w64 (b - t)
        · rw [if_pos k2, if_pos k2]
        · rw [if_neg k2, if_neg k2]
          have hw4 : w64 (w64 ((q.length : Int) - 2 * w64 (b - t)) - 1) = (q.length : Int) - 2 * w64 (b - t) - 1 := by
            rw [w64_of (x := (q.length : Int) - 2 * w64 (b - t)) (by omega) (by omega), w64_of (by omega) (by omega)]
          rw [hw4]
end Go.Mx
