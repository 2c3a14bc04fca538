/-
  A park play by its log: the book that is kept of it.
-/
import Derived.Test.YtndhbkhhehleaaaMxWo
import Derived.Test.YtndhbkhhehleaaaMxOa
set_option linter.unusedVariables false
set_option linter.unusedSimpArgs false
set_option linter.unusedSectionVars false
namespace Go.Mx

theorem dyes {p : Prop} [Decidable p] {A B : Prop} (hp : p) (a : A) : (decide p = true → A) ∧ (decide p = false → B) := ⟨fun _ => a, fun q => absurd hp (of_decide_eq_false q)⟩
theorem dno {p : Prop} [Decidable p] {A B : Prop} (hp : ¬ p) (b : B) : (decide p = true → A) ∧ (decide p = false → B) := ⟨fun q => absurd (of_decide_eq_true q) hp, fun _ => b⟩
structure Bk where
  fl : Nat → Int
  ow : Nat → Bool
  cnt : Int
  clr : Int
  dn : Int
def Bk.zero : Bk := ⟨fun _ => 0, fun _ => false, 0, 0, 0⟩
abbrev ac (w : Nat) (k a x y : Int) (ok : Bool) : Acc := ((w : Int), (k, (a, (x, (y, (ok, ()))))))
/-- An entry, and what comes of the book. -/
inductive EStep (P : Nat) (b : Bk) : Acc → Bk → Prop
  | far (w : Nat) (hw : w < P) (ow : b.ow w = false) (e : Acc) (q : DqE (2 + (P : Int)) (w : Int) e) : EStep P b e b
  | ldF (w : Nat) (w0 : w ≠ 0) (hw : w < P) (ow : b.ow w = false) : EStep P b (ac w 0 (2 + w) (b.fl w) 0 true) b
  | stF (w : Nat) (w0 : w ≠ 0) (hw : w < P) (ow : b.ow w = false) : EStep P b (ac w 1 (2 + w) 1 0 true) { b with fl := updN b.fl w 1 }
  | casS (w : Nat) (w0 : w ≠ 0) (hw : w < P) (ow : b.ow w = false) (f : b.fl w = 1) : EStep P b (ac w 2 (2 + w) 1 0 true) { b with fl := updN b.fl w 0, ow := updN b.ow w true }
  | casF (w : Nat) (w0 : w ≠ 0) (hw : w < P) (ow : b.ow w = false) (f : b.fl w ≠ 1) : EStep P b (ac w 2 (2 + w) 1 0 false) b
  | clrS (i : Nat) (i0 : i ≠ 0) (hi : i < P) (ow : b.ow 0 = false) (f : b.fl i = 1) : EStep P b (ac 0 2 (2 + i) 1 0 true) { b with fl := updN b.fl i 0, ow := updN b.ow 0 true, clr := w64 (b.clr + 1) }
  | clrF (i : Nat) (i0 : i ≠ 0) (hi : i < P) (ow : b.ow 0 = false) (f : b.fl i ≠ 1) : EStep P b (ac 0 2 (2 + i) 1 0 false) b
  | stD (ow : b.ow 0 = false) : EStep P b (ac 0 1 1 1 0 true) { b with dn := 1 }
  | ldD (w : Nat) (w0 : w ≠ 0) (hw : w < P) (ow : b.ow w = false) : EStep P b (ac w 0 1 b.dn 0 true) b
  | ldC (ow : b.ow 0 = false) : EStep P b (ac 0 0 0 b.cnt 0 true) b
  | inc (w : Nat) (w0 : w ≠ 0) (hw : w < P) (ow : b.ow w = false) : EStep P b (ac w 3 0 1 (w64 (b.cnt + 1)) true) { b with cnt := w64 (b.cnt + 1) }
  | dec (w : Nat) (hw : w < P) (ow : b.ow w = true) : EStep P b (ac w 3 0 (-1) (w64 (b.cnt + (-1))) true) { b with cnt := w64 (b.cnt + (-1)), ow := updN b.ow w false }
def isLess : SM → Bool
  | .less _ => true
  | _ => false
def owes (m : WM) : Bool := match m with
  | .wu _ => true
  | .fu _ => true
  | _ => false
def wkN : WM → Int
  | .wu _ => 1
  | _ => 0
/-- A push that has not woken yet. -/
def puN : WM → Int
  | .push => 1
  | .pend => 1
  | .wk => 1
  | .wc _ => 1
  | .wu _ => 1
  | _ => 0
def finM : WM → Prop
  | .fs => True
  | .fc _ => True
  | .fu _ => True
  | _ => False
def puL (l : List DTd) : Nat := l.countP fun t => decide (t.1 = 0)
structure BkM (td0 : List DTd) (P : Nat) (b : Bk) (s : PkS) : Prop where
  fl : ∀ i, i < P → b.fl i = FLc s (i : Int)
  ow0 : b.ow 0 = owes s.wm
  ow : ∀ i, 1 ≤ i → i < P → b.ow i = isLess (s.sm i)
  cnt : b.cnt = SLc s
  dn : b.dn = DNc s
  wo0 : 0 ≤ s.g.woken
  sub : ∀ t ∈ s.g.todos, t ∈ td0
  pu : s.g.woken + puN s.wm + (puL s.g.todos : Int) ≤ (puL td0 : Int)
  clr : s.g.woken + wkN s.wm ≤ b.clr
  clm : b.clr ≤ (s.g.m.lg.length : Int)
  nof : (∀ t ∈ td0, t.1 = 0 ∨ t.1 = 1) → b.clr = s.g.woken + wkN s.wm ∧ ¬ finM s.wm
def BkI (td0 : List DTd) (P : Nat) (s : PkS) : Prop := ∃ bs : Nat → Bk, bs 0 = Bk.zero ∧ (∀ (i : Nat) e, s.g.m.lg[i]? = some e → EStep P (bs i) e (bs (i + 1))) ∧ BkM td0 P (bs s.g.m.lg.length) s
theorem puL_cons (t : DTd) (ts : List DTd) : (puL (t :: ts) : Int) = (puL ts : Int) + if t.1 = 0 then 1 else 0 := by
  unfold puL
  rw [List.countP_cons]
  by_cases e : t.1 = 0
  · rw [if_pos e, decide_eq_true e]; simp
  · rw [if_neg e, decide_eq_false e]; simp
section
variable {td0 : List DTd} {P : Nat} {b : Bk} {s s' : PkS} (h : BkM td0 P b s)
include h
theorem BkM.pre {most : Int} {who : Nat} (hw : who < P) (k : KeepM s s') (p : PrkR most s who s') : BkM td0 P b s' := by
  have cc : ∀ y, gt s'.g.m.cs y = gt s.g.m.cs y := fun y => by rw [k.cs]
  have base : ∀ {td : List DTd}, s'.g.todos = td → (∀ t ∈ td, t ∈ td0) → (s.g.woken + puN s'.wm + (puL td : Int) ≤ (puL td0 : Int)) → owes s'.wm = owes s.wm → wkN s'.wm = wkN s.wm → ((∀ t ∈ td0, t.1 = 0 ∨ t.1 = 1) → ¬ finM s'.wm) → (∀ i, 1 ≤ i → i < P → isLess (s'.sm i) = isLess (s.sm i)) → BkM td0 P b s' := fun {td} e1 e2 e3 e4 e5 e6 e7 => by
    refine ⟨fun i a => (h.fl i a).trans (cc _).symm, by rw [e4]; exact h.ow0, fun i a c => by rw [e7 i a c]; exact h.ow i a c, h.cnt.trans (cc 0).symm, h.dn.trans (cc 1).symm, by rw [k.woken]; exact h.wo0, by rw [e1]; exact e2, by rw [k.woken, e1]; exact e3, by rw [k.woken, e5]; exact h.clr, by rw [k.lg]; exact h.clm, fun q => ?_⟩
    rw [k.woken, e5]
    exact ⟨(h.nof q).1, e6 q⟩
  cases p with
  | on o t w sm td => exact base td h.sub (by rw [w]; exact h.pu) (by rw [w]) (by rw [w]) (fun q => by rw [w]; exact (h.nof q).2) (fun i _ _ => by rw [sm])
  | push w0 m t ts td td' k2 w o op th sm =>
    have hp := h.pu
    rw [td, puL_cons, if_pos k2, m] at hp
    exact base td' (fun x hx => h.sub x (by rw [td]; exact List.mem_cons_of_mem _ hx)) (by rw [w]; show _ + 1 + _ ≤ _; have : s.g.woken + 0 + ((puL ts : Int) + 1) ≤ (puL td0 : Int) := hp; omega) (by rw [w, m]; rfl) (by rw [w, m]; rfl) (fun q => by rw [w]; exact id) (fun i _ _ => by rw [sm])
  | pop w0 m t ts td td' k2 k1 w o op th sm =>
    have hp := h.pu
    rw [td, puL_cons, if_neg k2, m] at hp
    exact base td' (fun x hx => h.sub x (by rw [td]; exact List.mem_cons_of_mem _ hx)) (by rw [w]; show _ + 0 + _ ≤ _; have : s.g.woken + 0 + ((puL ts : Int) + 0) ≤ (puL td0 : Int) := hp; omega) (by rw [w, m]; rfl) (by rw [w, m]; rfl) (fun q => by rw [w]; exact id) (fun i _ _ => by rw [sm])
  | fin w0 m t ts td td' k2 k1 w o th sm =>
    have hp := h.pu
    rw [td, puL_cons, if_neg k2, m] at hp
    refine base td' (fun x hx => h.sub x (by rw [td]; exact List.mem_cons_of_mem _ hx)) (by rw [w]; show _ + 0 + _ ≤ _; have : s.g.woken + 0 + ((puL ts : Int) + 0) ≤ (puL td0 : Int) := hp; omega) (by rw [w, m]; rfl) (by rw [w, m]; rfl) (fun q => ?_) (fun i _ _ => by rw [sm])
    rcases q t (h.sub t (by rw [td]; exact List.mem_cons_self ..)) with z | z
    · exact absurd z k2
    · exact absurd z k1
  | wake w0 m w o th sm td =>
    have hp := h.pu
    rw [m] at hp
    exact base td h.sub (by rw [w]; exact hp) (by rw [w, m]; rfl) (by rw [w, m]; rfl) (fun q => by rw [w]; exact id) (fun i _ _ => by rw [sm])
  | rest w0 m sm th o w td =>
    refine base td h.sub (by rw [w]; exact h.pu) (by rw [w]) (by rw [w]) (fun q => by rw [w]; exact (h.nof q).2) (fun i _ _ => ?_)
    rw [sm]
    by_cases e : i = who
    · subst e; rw [updN_at, m]; rfl
    · rw [updN_ne e]
  | steal w0 m sm th o w td =>
    refine base td h.sub (by rw [w]; exact h.pu) (by rw [w]) (by rw [w]) (fun q => by rw [w]; exact (h.nof q).2) (fun i _ _ => ?_)
    rw [sm]
    by_cases e : i = who
    · subst e; rw [updN_at, m]; rfl
    · rw [updN_ne e]
theorem BkM.go {first most : Int} {N : Int} {who : Nat} (p1 : 1 ≤ P) (p8 : P ≤ 8) (hw : who < P) (hn : s.g.m.lg.length ≤ 100000000) (r : PgoR first most P N s who s') : ∃ e b', LogE s s' e ∧ EStep P b e b' ∧ BkM td0 P b' s' := by
  have wl : ∀ {e : Acc}, LogE s s' e → (s'.g.m.lg.length : Int) = (s.g.m.lg.length : Int) + 1 := fun {e} l => by
    rw [l, List.length_append]; rfl
  have lc : ∀ {c v : Int}, LotC P s s' c v → (∀ i : Nat, i < P → FLc s' (i : Int) = if 2 + (i : Int) = c then v else FLc s (i : Int)) ∧ SLc s' = (if 0 = c then v else SLc s) ∧ DNc s' = (if 1 = c then v else DNc s) := fun {c v} q =>
    ⟨fun i a => q _ (by omega) (by omega), q 0 (by omega) (by omega), q 1 (by omega) (by omega)⟩
  have ls : LotS P s s' → (∀ i : Nat, i < P → FLc s' (i : Int) = FLc s (i : Int)) ∧ SLc s' = SLc s ∧ DNc s' = DNc s := fun q => ⟨fun i a => q _ (by omega) (by omega), q 0 (by omega) (by omega), q 1 (by omega) (by omega)⟩
  -- a sleeper's step
  have slp : ∀ {e : Acc} {b' : Bk}, who ≠ 0 → LogE s s' e → s'.wm = s.wm → s'.g.woken = s.g.woken → s'.g.todos = s.g.todos → (∀ i, i < P → b'.fl i = FLc s' (i : Int)) → b'.cnt = SLc s' → b'.dn = DNc s' → b'.clr = b.clr → b'.ow 0 = b.ow 0 → (∀ i, 1 ≤ i → i < P → b'.ow i = isLess (s'.sm i)) → BkM td0 P b' s' := fun {e b'} w l ew ewo etd f1 f2 f3 f4 f5 f6 => by
    refine ⟨f1, by rw [f5, ew]; exact h.ow0, f6, f2, f3, by rw [ewo]; exact h.wo0, by rw [etd]; exact h.sub, by rw [ewo, ew, etd]; exact h.pu, by rw [ewo, ew, f4]; exact h.clr, by rw [f4, wl l]; exact Int.le_trans h.clm (by omega), fun q => by rw [f4, ewo, ew]; exact h.nof q⟩
  have low : ∀ {m : SM}, s'.sm = updN s.sm who m → isLess m = isLess (s.sm who) → ∀ i, 1 ≤ i → i < P → b.ow i = isLess (s'.sm i) := fun {m} es e i a c => by
    rw [es]
    by_cases z : i = who
    · subst z; rw [updN_at, e]; exact h.ow i a c
    · rw [updN_ne z]; exact h.ow i a c
  have own : who ≠ 0 → b.ow who = isLess (s.sm who) := fun w => h.ow who (by omega) hw
  have endL : ∀ q, isLess (SM.ended q) = false := fun q => by cases q <;> rfl
  -- worker 0's step
  have wrk : ∀ {e : Acc} {b' : Bk}, who = 0 → LogE s s' e → s'.sm = s.sm → s'.g.todos = s.g.todos → (∀ i, i < P → b'.fl i = FLc s' (i : Int)) → b'.cnt = SLc s' → b'.dn = DNc s' → b'.ow 0 = owes s'.wm → (∀ i, 1 ≤ i → i < P → b'.ow i = b.ow i) → 0 ≤ s'.g.woken → s'.g.woken + puN s'.wm ≤ s.g.woken + puN s.wm → s'.g.woken + wkN s'.wm ≤ b'.clr → b'.clr ≤ b.clr + 1 → ((∀ t ∈ td0, t.1 = 0 ∨ t.1 = 1) → b'.clr = s'.g.woken + wkN s'.wm ∧ ¬ finM s'.wm) → BkM td0 P b' s' := fun {e b'} w l es etd f1 f2 f3 f4 f5 f6 f7 f8 f9 f10 => by
    refine ⟨f1, f4, fun i a c => by rw [f5 i a c, es]; exact h.ow i a c, f2, f3, f6, by rw [etd]; exact h.sub, by rw [etd]; have := h.pu; omega, f8, by rw [wl l]; have := h.clm; omega, f10⟩
  have ow0 : who = 0 → b.ow 0 = owes s.wm := fun _ => h.ow0
  cases r with
  | on w m m' k c l =>
    obtain ⟨c1, c2, c3⟩ := lc c
    refine ⟨_, { b with fl := updN b.fl who 1 }, l, .stF who w hw ((own w).trans (by rw [m]; rfl)), slp w l k.wm k.woken k.todos (fun i a => ?_) ?_ ?_ rfl rfl (low m' (by rw [m]; rfl))⟩
    · rw [c1 i a]
      show updN b.fl who 1 i = _
      by_cases z : i = who
      · subst z; rw [updN_at, if_pos rfl]
      · rw [updN_ne z, if_neg (by omega)]; exact h.fl i a
    · rw [c2, if_neg (by omega)]; exact h.cnt
    · rw [c3, if_neg (by omega)]; exact h.dn
  | cnt w m m' k c l =>
    obtain ⟨c1, c2, c3⟩ := lc c
    rw [show SLc s = b.cnt from h.cnt.symm] at l c2
    refine ⟨_, { b with cnt := w64 (b.cnt + 1) }, l, .inc who w hw ((own w).trans (by rw [m]; rfl)), slp w l k.wm k.woken k.todos (fun i a => ?_) ?_ ?_ rfl rfl (low m' (by rw [m]; rfl))⟩
    · rw [c1 i a, if_neg (by omega)]; exact h.fl i a
    · rw [c2, if_pos rfl]
    · rw [c3, if_neg (by omega)]; exact h.dn
  | ask w m m' k c l =>
    obtain ⟨c1, c2, c3⟩ := ls c
    rw [show DNc s = b.dn from h.dn.symm] at l
    refine ⟨_, b, l, .ldD who w hw ((own w).trans (by rw [m]; rfl)), slp w l k.wm k.woken k.todos (fun i a => by rw [c1 i a]; exact h.fl i a) (by rw [c2]; exact h.cnt) (by rw [c3]; exact h.dn) rfl rfl (low m' ?_)⟩
    rw [m]; split <;> rfl
  | look1 w j t j1 j2 m m' k c l =>
    obtain ⟨e, l, q⟩ := l
    obtain ⟨c1, c2, c3⟩ := ls c
    exact ⟨e, b, l, .far who hw ((own w).trans (by rw [m]; rfl)) e q, slp w l k.wm k.woken k.todos (fun i a => by rw [c1 i a]; exact h.fl i a) (by rw [c2]; exact h.cnt) (by rw [c3]; exact h.dn) rfl rfl (low m' (by rw [m]; rfl))⟩
  | look2 w j t j1 j2 m tt m' k c l =>
    obtain ⟨e, l, q⟩ := l
    obtain ⟨c1, c2, c3⟩ := ls c
    refine ⟨e, b, l, .far who hw ((own w).trans (by rw [m]; rfl)) e q, slp w l k.wm k.woken k.todos (fun i a => by rw [c1 i a]; exact h.fl i a) (by rw [c2]; exact h.cnt) (by rw [c3]; exact h.dn) rfl rfl (low m' ?_)⟩
    rw [m]
    split
    · rfl
    split <;> rfl
  | park w m m' k c l =>
    obtain ⟨c1, c2, c3⟩ := ls c
    rw [show FLc s (who : Int) = b.fl who from (h.fl who hw).symm] at l
    refine ⟨_, b, l, .ldF who w hw ((own w).trans (by rw [m]; rfl)), slp w l k.wm k.woken k.todos (fun i a => by rw [c1 i a]; exact h.fl i a) (by rw [c2]; exact h.cnt) (by rw [c3]; exact h.dn) rfl rfl (low m' ?_)⟩
    rw [m]; split <;> rfl
  | back w q m f m' k c l =>
    obtain ⟨c1, c2, c3⟩ := lc c
    refine ⟨_, { b with fl := updN b.fl who 0, ow := updN b.ow who true }, l, .casS who w hw ((own w).trans (by rw [m]; rfl)) ((h.fl who hw).trans f), slp w l k.wm k.woken k.todos (fun i a => ?_) ?_ ?_ rfl (updN_ne (fun z => w z.symm)) (fun i a c => ?_)⟩
    · rw [c1 i a]
      show updN b.fl who 0 i = _
      by_cases z : i = who
      · subst z; rw [updN_at, if_pos rfl]
      · rw [updN_ne z, if_neg (by omega)]; exact h.fl i a
    · rw [c2, if_neg (by omega)]; exact h.cnt
    · rw [c3, if_neg (by omega)]; exact h.dn
    · show updN b.ow who true i = _
      rw [m']
      by_cases z : i = who
      · subst z; rw [updN_at, updN_at]; rfl
      · rw [updN_ne z, updN_ne z]; exact h.ow i a c
  | fail w q m f m' k c l =>
    obtain ⟨c1, c2, c3⟩ := ls c
    exact ⟨_, b, l, .casF who w hw ((own w).trans (by rw [m]; rfl)) (fun z => f ((h.fl who hw).symm.trans z)), slp w l k.wm k.woken k.todos (fun i a => by rw [c1 i a]; exact h.fl i a) (by rw [c2]; exact h.cnt) (by rw [c3]; exact h.dn) rfl rfl (low m' (by rw [m, endL]; rfl))⟩
  | less w q m m' k c l =>
    obtain ⟨c1, c2, c3⟩ := lc c
    rw [show SLc s = b.cnt from h.cnt.symm] at l c2
    refine ⟨_, { b with cnt := w64 (b.cnt + (-1)), ow := updN b.ow who false }, l, .dec who hw ((own w).trans (by rw [m]; rfl)), slp w l k.wm k.woken k.todos (fun i a => ?_) ?_ ?_ rfl (updN_ne (fun z => w z.symm)) (fun i a c => ?_)⟩
    · rw [c1 i a, if_neg (by omega)]; exact h.fl i a
    · rw [c2, if_pos rfl]
    · rw [c3, if_neg (by omega)]; exact h.dn
    · show updN b.ow who false i = _
      rw [m']
      by_cases z : i = who
      · subst z; rw [updN_at, updN_at, endL]
      · rw [updN_ne z, updN_ne z]; exact h.ow i a c
  | steal w m x r k3 o th td wm wk run off c l =>
    obtain ⟨e, l, q⟩ := l
    obtain ⟨c1, c2, c3⟩ := ls c
    refine ⟨e, b, l, .far who hw ((own w).trans (by rw [m]; rfl)) e q, slp w l wm wk td (fun i a => by rw [c1 i a]; exact h.fl i a) (by rw [c2]; exact h.cnt) (by rw [c3]; exact h.dn) rfl rfl ?_⟩
    by_cases z : x.pc = 0
    · exact low (off z).1 (by rw [m]; rfl)
    · exact low (m := s.sm who) (by rw [updN_self]; exact (run z).1) rfl
  | own w m pc r sa th td sm wk run off c l =>
    obtain ⟨e, l, q⟩ := l
    obtain ⟨c1, c2, c3⟩ := ls c
    have mm : owes s.wm = false ∧ wkN s.wm = 0 ∧ ¬ finM s.wm := by rcases m with ⟨m, _⟩ | ⟨m, _⟩ <;> rw [m] <;> exact ⟨rfl, rfl, id⟩
    have mm' : owes s'.wm = false ∧ wkN s'.wm = 0 ∧ puN s'.wm ≤ puN s.wm ∧ ¬ finM s'.wm := by
      by_cases z : s'.own.pc = 0
      · rw [(off z).1]
        by_cases z2 : s'.own.code = 2
        · rw [if_pos z2]
          refine ⟨rfl, rfl, ?_, id⟩
          rcases m with ⟨m, k⟩ | ⟨m, k⟩
          · rw [m]; exact Int.le_refl _
          · exfalso
            cases r.eff with
            | same p => exact p z
            | push k' => omega
            | full k' p co => omega
            | low k' p => exact p z
            | got k' p co => omega
            | empty k' p co => omega
            | won k' p => exact p z
        · rw [if_neg z2]
          refine ⟨rfl, rfl, ?_, id⟩
          rcases m with ⟨m, _⟩ | ⟨m, _⟩ <;> rw [m] <;> decide
      · rw [(run z).1]
        exact ⟨mm.1, mm.2.1, Int.le_refl _, mm.2.2⟩
    have hclr := h.clr
    rw [mm.2.1] at hclr
    refine ⟨e, b, l, .far who hw (by rw [w]; exact h.ow0.trans mm.1) e q, wrk w l sm td (fun i a => by rw [c1 i a]; exact h.fl i a) (by rw [c2]; exact h.cnt) (by rw [c3]; exact h.dn) (by rw [mm'.1]; exact h.ow0.trans mm.1) (fun _ _ _ => rfl) (by rw [wk]; exact h.wo0) (by rw [wk]; have := mm'.2.2.1; omega) (by rw [wk, mm'.2.1]; exact hclr) (by omega) (fun q => ?_)⟩
    have := (h.nof q).1
    rw [mm.2.1] at this
    rw [wk, mm'.2.1]
    exact ⟨this, mm'.2.2.2⟩
  | wk w m m' k wo c l =>
    subst w
    obtain ⟨c1, c2, c3⟩ := ls c
    rw [show SLc s = b.cnt from h.cnt.symm] at l
    have h1 := h.clr
    rw [m] at h1
    have h1 : s.g.woken + 0 ≤ b.clr := h1
    have em : owes s'.wm = false ∧ wkN s'.wm = 0 ∧ puN s'.wm ≤ 1 ∧ ¬ finM s'.wm := by rw [m']; split <;> exact ⟨rfl, rfl, (by first | exact Int.le_refl (1 : Int) | exact (by decide : (0 : Int) ≤ 1)), id⟩
    refine ⟨_, b, l, .ldC (h.ow0.trans (by rw [m]; rfl)), wrk rfl l k.sm k.todos (fun i a => by rw [c1 i a]; exact h.fl i a) (by rw [c2]; exact h.cnt) (by rw [c3]; exact h.dn) (by rw [em.1]; exact h.ow0.trans (by rw [m]; rfl)) (fun _ _ _ => rfl) (by rw [wo]; exact h.wo0) (by rw [wo, m]; show _ ≤ s.g.woken + 1; have := em.2.2.1; omega) (by rw [wo, em.2.1]; exact h1) (by omega) (fun q => ?_)⟩
    have := (h.nof q).1
    rw [m] at this
    rw [wo, em.2.1]
    exact ⟨this, em.2.2.2⟩
  | wc w j j1 j2 m f m' k wo c l =>
    subst w
    obtain ⟨i, rfl⟩ : ∃ i : Nat, j = (i : Int) := ⟨j.toNat, by omega⟩
    obtain ⟨c1, c2, c3⟩ := lc c
    have h1 := h.clr
    rw [m] at h1
    have h1 : s.g.woken + 0 ≤ b.clr := h1
    have h2 := h.clm
    have wclr : w64 (b.clr + 1) = b.clr + 1 := by have := h.wo0; rw [w64_of] <;> omega
    refine ⟨_, { b with fl := updN b.fl i 0, ow := updN b.ow 0 true, clr := w64 (b.clr + 1) }, l, .clrS i (by omega) (by omega) (h.ow0.trans (by rw [m]; rfl)) ((h.fl i (by omega)).trans f), wrk rfl l k.sm k.todos (fun x a => ?_) ?_ ?_ (by rw [m']; rfl) (fun x a _ => updN_ne (by omega)) (by rw [wo]; exact h.wo0) (by rw [wo, m, m']; exact Int.le_refl _) ?_ ?_ (fun q => ?_)⟩
    · rw [c1 x a]
      show updN b.fl i 0 x = _
      by_cases z : x = i
      · subst z; rw [updN_at, if_pos rfl]
      · rw [updN_ne z, if_neg (by omega)]; exact h.fl x a
    · rw [c2, if_neg (by omega)]; exact h.cnt
    · rw [c3, if_neg (by omega)]; exact h.dn
    · show s'.g.woken + wkN s'.wm ≤ w64 (b.clr + 1)
      rw [wo, m', wclr]
      show s.g.woken + 1 ≤ _; omega
    · show w64 (b.clr + 1) ≤ _; rw [wclr]; exact Int.le_refl _
    · have := (h.nof q).1
      rw [m] at this
      show w64 (b.clr + 1) = _ ∧ _
      rw [wo, m', wclr, this]
      exact ⟨by show s.g.woken + 0 + 1 = s.g.woken + 1; omega, id⟩
  | wn w j j1 j2 m f m' k wo c l =>
    subst w
    obtain ⟨i, rfl⟩ : ∃ i : Nat, j = (i : Int) := ⟨j.toNat, by omega⟩
    obtain ⟨c1, c2, c3⟩ := ls c
    have h1 := h.clr
    rw [m] at h1
    have h1 : s.g.woken + 0 ≤ b.clr := h1
    have em : owes s'.wm = false ∧ wkN s'.wm = 0 ∧ puN s'.wm ≤ 1 ∧ ¬ finM s'.wm := by rw [m']; split <;> exact ⟨rfl, rfl, (by first | exact Int.le_refl (1 : Int) | exact (by decide : (0 : Int) ≤ 1)), id⟩
    refine ⟨_, b, l, .clrF i (by omega) (by omega) (h.ow0.trans (by rw [m]; rfl)) (fun z => f ((h.fl i (by omega)).symm.trans z)), wrk rfl l k.sm k.todos (fun i a => by rw [c1 i a]; exact h.fl i a) (by rw [c2]; exact h.cnt) (by rw [c3]; exact h.dn) (by rw [em.1]; exact h.ow0.trans (by rw [m]; rfl)) (fun _ _ _ => rfl) (by rw [wo]; exact h.wo0) (by rw [wo, m]; show _ ≤ s.g.woken + 1; have := em.2.2.1; omega) (by rw [wo, em.2.1]; exact h1) (by omega) (fun q => ?_)⟩
    have := (h.nof q).1
    rw [m] at this
    rw [wo, em.2.1]
    exact ⟨this, em.2.2.2⟩
  | wu w j m m' k wo c l =>
    subst w
    obtain ⟨c1, c2, c3⟩ := lc c
    rw [show SLc s = b.cnt from h.cnt.symm] at l c2
    have h1 := h.clr
    rw [m] at h1
    have h1 : s.g.woken + 1 ≤ b.clr := h1
    have h2 := h.clm
    have wow : w64 (s.g.woken + 1) = s.g.woken + 1 := by have := h.wo0; rw [w64_of] <;> omega
    refine ⟨_, { b with cnt := w64 (b.cnt + (-1)), ow := updN b.ow 0 false }, l, .dec 0 (by omega) (h.ow0.trans (by rw [m]; rfl)), wrk rfl l k.sm k.todos (fun i a => ?_) ?_ ?_ (by rw [m']; rfl) (fun x a _ => updN_ne (by omega)) (by rw [wo, wow]; have := h.wo0; omega) (by rw [wo, wow, m, m']; show s.g.woken + 1 + 0 ≤ s.g.woken + 1; omega) ?_ ?_ (fun q => ?_)⟩
    · rw [c1 i a, if_neg (by omega)]; exact h.fl i a
    · rw [c2, if_pos rfl]
    · rw [c3, if_neg (by omega)]; exact h.dn
    · rw [wo, wow, m']; show s.g.woken + 1 + 0 ≤ b.clr; omega
    · show b.clr ≤ b.clr + 1; omega
    · have := (h.nof q).1
      rw [m] at this
      rw [wo, wow, m']
      exact ⟨by show b.clr = s.g.woken + 1 + 0; have : b.clr = s.g.woken + 1 := this; omega, id⟩
  | fs w m m' k wo c l =>
    subst w
    obtain ⟨c1, c2, c3⟩ := lc c
    have h1 := h.clr
    rw [m] at h1
    have h1 : s.g.woken + 0 ≤ b.clr := h1
    have em : owes s'.wm = false ∧ wkN s'.wm = 0 ∧ puN s'.wm = 0 := by rw [m']; split <;> exact ⟨rfl, rfl, rfl⟩
    refine ⟨_, { b with dn := 1 }, l, .stD (h.ow0.trans (by rw [m]; rfl)), wrk rfl l k.sm k.todos (fun i a => ?_) ?_ ?_ (by rw [em.1]; exact h.ow0.trans (by rw [m]; rfl)) (fun _ _ _ => rfl) (by rw [wo]; exact h.wo0) (by rw [wo, em.2.2, m]; exact Int.le_refl _) (by rw [wo, em.2.1]; exact h1) (by show b.clr ≤ b.clr + 1; omega) (fun q => absurd (by rw [m]; trivial) (h.nof q).2)⟩
    · rw [c1 i a, if_neg (by omega)]; exact h.fl i a
    · rw [c2, if_neg (by omega)]; exact h.cnt
    · rw [c3, if_pos rfl]
  | fc w j j1 j2 m f m' k wo c l =>
    subst w
    obtain ⟨i, rfl⟩ : ∃ i : Nat, j = (i : Int) := ⟨j.toNat, by omega⟩
    obtain ⟨c1, c2, c3⟩ := lc c
    have h1 := h.clr
    rw [m] at h1
    have h1 : s.g.woken + 0 ≤ b.clr := h1
    have h2 := h.clm
    have wclr : w64 (b.clr + 1) = b.clr + 1 := by have := h.wo0; rw [w64_of] <;> omega
    refine ⟨_, { b with fl := updN b.fl i 0, ow := updN b.ow 0 true, clr := w64 (b.clr + 1) }, l, .clrS i (by omega) (by omega) (h.ow0.trans (by rw [m]; rfl)) ((h.fl i (by omega)).trans f), wrk rfl l k.sm k.todos (fun x a => ?_) ?_ ?_ (by rw [m']; rfl) (fun x a _ => updN_ne (by omega)) (by rw [wo]; exact h.wo0) (by rw [wo, m, m']; exact Int.le_refl _) ?_ ?_ (fun q => absurd (by rw [m]; trivial) (h.nof q).2)⟩
    · rw [c1 x a]
      show updN b.fl i 0 x = _
      by_cases z : x = i
      · subst z; rw [updN_at, if_pos rfl]
      · rw [updN_ne z, if_neg (by omega)]; exact h.fl x a
    · rw [c2, if_neg (by omega)]; exact h.cnt
    · rw [c3, if_neg (by omega)]; exact h.dn
    · show s'.g.woken + wkN s'.wm ≤ w64 (b.clr + 1)
      rw [wo, m', wclr]
      show s.g.woken + 0 ≤ _; omega
    · show w64 (b.clr + 1) ≤ _; rw [wclr]; exact Int.le_refl _
  | fn w j j1 j2 m f m' k wo c l =>
    subst w
    obtain ⟨i, rfl⟩ : ∃ i : Nat, j = (i : Int) := ⟨j.toNat, by omega⟩
    obtain ⟨c1, c2, c3⟩ := ls c
    have h1 := h.clr
    rw [m] at h1
    have h1 : s.g.woken + 0 ≤ b.clr := h1
    have em : owes s'.wm = false ∧ wkN s'.wm = 0 ∧ puN s'.wm = 0 := by rw [m']; split <;> exact ⟨rfl, rfl, rfl⟩
    exact ⟨_, b, l, .clrF i (by omega) (by omega) (h.ow0.trans (by rw [m]; rfl)) (fun z => f ((h.fl i (by omega)).symm.trans z)), wrk rfl l k.sm k.todos (fun i a => by rw [c1 i a]; exact h.fl i a) (by rw [c2]; exact h.cnt) (by rw [c3]; exact h.dn) (by rw [em.1]; exact h.ow0.trans (by rw [m]; rfl)) (fun _ _ _ => rfl) (by rw [wo]; exact h.wo0) (by rw [wo, em.2.2, m]; exact Int.le_refl _) (by rw [wo, em.2.1]; exact h1) (by omega) (fun q => absurd (by rw [m]; trivial) (h.nof q).2)⟩
  | fu w j j1 j2 m m' k wo c l =>
    subst w
    obtain ⟨c1, c2, c3⟩ := lc c
    rw [show SLc s = b.cnt from h.cnt.symm] at l c2
    have h1 := h.clr
    rw [m] at h1
    have h1 : s.g.woken + 0 ≤ b.clr := h1
    have em : owes s'.wm = false ∧ wkN s'.wm = 0 ∧ puN s'.wm = 0 := by rw [m']; split <;> exact ⟨rfl, rfl, rfl⟩
    refine ⟨_, { b with cnt := w64 (b.cnt + (-1)), ow := updN b.ow 0 false }, l, .dec 0 (by omega) (h.ow0.trans (by rw [m]; rfl)), wrk rfl l k.sm k.todos (fun i a => ?_) ?_ ?_ (by rw [em.1]; rfl) (fun x a _ => updN_ne (by omega)) (by rw [wo]; exact h.wo0) (by rw [wo, em.2.2, m]; exact Int.le_refl _) (by rw [wo, em.2.1]; exact h1) (by show b.clr ≤ b.clr + 1; omega) (fun q => absurd (by rw [m]; trivial) (h.nof q).2)⟩
    · rw [c1 i a, if_neg (by omega)]; exact h.fl i a
    · rw [c2, if_pos rfl]
    · rw [c3, if_neg (by omega)]; exact h.dn
end
theorem BkI.pick {td0 : List DTd} {P : Nat} {s s' : PkS} (h : BkI td0 P s) {first most : Int} {N : Int} {who : Nat} (I : PkI first most P s N) (hw : who < P) (hn : s.g.m.lg.length ≤ 100000000) (r : PickR first most P N s who s') : BkI td0 P s' := by
  obtain ⟨bs, h0, h1, h2⟩ := h
  cases r with
  | none q e => subst e; exact ⟨bs, h0, h1, ⟨h2.fl, h2.ow0, h2.ow, h2.cnt, h2.dn, h2.wo0, h2.sub, h2.pu, h2.clr, h2.clm, h2.nof⟩⟩
  | go s1 I1 k p a r =>
    have lg : s1.g.m.lg = s.g.m.lg := k.lg
    obtain ⟨e, b', l, st, M⟩ := (h2.pre hw k p).go I.mem.p1 I.mem.p8 hw (by rw [lg]; exact hn) r
    have l : s'.g.m.lg = s.g.m.lg ++ [e] := by rw [← lg]; exact l
    refine ⟨updN bs (s.g.m.lg.length + 1) b', by rw [updN_ne (Nat.succ_ne_zero _).symm]; exact h0, fun i x hx => ?_, ?_⟩
    · rw [l] at hx
      by_cases z : i < s.g.m.lg.length
      · rw [List.getElem?_append_left z] at hx
        rw [updN_ne (by omega), updN_ne (by omega)]
        exact h1 i x hx
      · have z2 := (List.getElem?_eq_some_iff.1 hx).1
        rw [List.length_append] at z2
        obtain rfl : i = s.g.m.lg.length := by simp at z2; omega
        rw [List.getElem?_append_right (Nat.le_refl _), Nat.sub_self] at hx
        cases hx
        rw [updN_ne (by omega), updN_at]
        exact st
    · rw [l, List.length_append, show s.g.m.lg.length + [e].length = s.g.m.lg.length + 1 from rfl, updN_at]
      exact M
theorem pk0_book {first most : Int} (hc : CapE first most) {P : Nat} (p1 : 1 ≤ P) (todos : List DTd) : BkI todos P (pk0 first most P todos) := by
  have z : ∀ y, 0 ≤ y → y < 2 + (P : Int) → gt (pk0 first most P todos).g.m.cs y = 0 := fun y a b => layP_lot hc P a b
  refine ⟨fun _ => Bk.zero, rfl, fun i e h => (by cases h), fun i a => (z _ (by omega) (by omega)).symm, rfl, fun _ _ _ => rfl, (z 0 (by omega) (by omega)).symm, (z 1 (by omega) (by omega)).symm, Int.le_refl _, fun t ht => ht, ?_, Int.le_refl _, Int.le_refl _, fun _ => ⟨rfl, id⟩⟩
  show (0 : Int) + 0 + (puL todos : Int) ≤ _
  omega
/-- The book at the end of a play. -/
theorem park_book {first most : Int} {P : Nat} {todos : List DTd} {ws : List Nat} (hc : CapE first most) (p1 : 1 ≤ P) (p8 : P ≤ 8) (hn : ws.length ≤ 100000000) (hw : ∀ w ∈ ws, w < P) : ∃ s, s.g = parkOf first most P todos ws ∧ PkI first most P s (ws.length : Int) ∧ BkI todos P s := by
  obtain ⟨s, e, I, B, M⟩ := park_run (fun vs s => (vs.length ≤ 100000000 → BkI todos P s) ∧ MovI todos P vs s) ws [] (pk0_I hc p1 p8 todos) ⟨fun _ => pk0_book hc p1 todos, pk0_mov todos⟩ (by omega) hw fun vs w s s' N hw I ⟨B, M⟩ I' R => ⟨fun q => by
    rw [List.length_append] at q
    have q : vs.length + 1 ≤ 100000000 := q
    exact (B (by omega)).pick I hw (by have := M.lgl; omega) R, M.pick I hw R⟩
  rw [Int.zero_add] at I
  exact ⟨s, e, I, B (by simpa using hn)⟩
end Go.Mx
