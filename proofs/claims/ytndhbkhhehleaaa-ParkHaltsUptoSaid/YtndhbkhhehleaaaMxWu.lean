/-
  A park play: once all are told that all is done, each sleeper halts.
-/
import Derived.Test.YtndhbkhhehleaaaMxWt
set_option linter.unusedVariables false
set_option linter.unusedSimpArgs false
set_option linter.unusedSectionVars false
namespace Go.Mx

theorem park_runW {first most : Int} {P : Nat} (W : Nat → Prop) (Inv : List Nat → PkS → Prop) : ∀ (ws vs : List Nat) {s : PkS} {N : Int}, PkI first most P s N → Inv vs s → N + (ws.length : Int) ≤ 1000000000 → (∀ w ∈ ws, w < P ∧ W w) →
    (∀ (vs : List Nat) (w : Nat) (s s' : PkS) (N : Int), w < P → W w → PkI first most P s N → Inv vs s → PkI first most P s' (N + 1) → PickR first most P N s w s' → Inv (vs ++ [w]) s') →
    ∃ s', s'.g = s.g.run (P : Int) (dsP first most P) ws ∧ PkI first most P s' (N + (ws.length : Int)) ∧ Inv (vs ++ ws) s'
  | [], vs, s, N, I, h, _, _, _ => ⟨s, rfl, by show PkI first most P s (N + 0); rw [Int.add_zero]; exact I, by rw [List.append_nil]; exact h⟩
  | w :: ws, vs, s, N, I, h, hN, hw, hs => by
    have hl : ((w :: ws).length : Int) = (ws.length : Int) + 1 := by simp
    obtain ⟨w1, w2⟩ := hw w (by simp)
    obtain ⟨s1, I1, e1, R⟩ := I.pick (by omega) w1
    obtain ⟨s', e', I', h'⟩ := park_runW W Inv ws (vs ++ [w]) I1 (hs vs w s s1 N w1 w2 I h I1 R) (by omega) (fun x hx => hw x (by simp [hx])) hs
    refine ⟨s', by rw [e', e1]; rfl, ?_, ?_⟩
    · rw [hl, show N + ((ws.length : Int) + 1) = N + 1 + (ws.length : Int) from by omega]; exact I'
    · rw [List.append_assoc] at h'
      exact h'
theorem PkI.lookk {first most : Int} {P : Nat} {s : PkS} {N : Int} (I : PkI first most P s N) {i : Nat} (a : 1 ≤ i) (b : i < P) {k t : Int} {q : Bool} (e : s.sm i = .look k q t) : 1 ≤ k ∧ k < (P : Int) := by
  have sl := I.sl i a b
  rw [e] at sl
  obtain ⟨_, _, _, _, r, R, _, hw', _, hk, k1, h⟩ := sl
  exact ⟨k1, by rw [← hk, ← hw']; exact R.lk (by omega)⟩
/-- Past the question whether all is done. -/
def hushed : SM → Prop
  | .look _ _ _ => True
  | .park => True
  | .back false => True
  | _ => False
def WM.lim (P : Nat) : WM → Int
  | .fc k => k
  | .fu k => k + 1
  | _ => P
def HaltI (P : Nat) (s : PkS) : Prop := DNc s = 1 → ∀ i : Nat, 1 ≤ i → i < P → (i : Int) < s.wm.lim P → hushed (s.sm i) → FLc s (i : Int) = 0
def isFin (t : DTd) : Prop := ¬ t.1 = 0 ∧ ¬ t.1 = 1
def FinI (td0 : List DTd) (s : PkS) : Prop := (∃ t ∈ td0, isFin t) → DNc s = 1 ∨ s.wm = .fs ∨ ∃ t ∈ s.g.todos, isFin t
section
variable {P : Nat} {s s' : PkS}
theorem FinI.pre {td0 : List DTd} (h : FinI td0 s) {most : Int} {who : Nat} (k : KeepM s s') (p : PrkR most s who s') : FinI td0 s' := fun q => by
  have dn : DNc s' = DNc s := by show gt _ _ = _; rw [k.cs]
  rcases h q with z | z | ⟨t, ht, z⟩
  · exact .inl (dn.trans z)
  · refine .inr (.inl ?_)
    cases p with
    | on o t w sm td => rw [w]; exact z
    | push w0 m => rw [z] at m; cases m
    | pop w0 m => rw [z] at m; cases m
    | fin w0 m => rw [z] at m; cases m
    | wake w0 m => rw [z] at m; cases m
    | rest w0 m sm th o w => rw [w]; exact z
    | steal w0 m sm th o w => rw [w]; exact z
  · cases p with
    | on o t' w sm td => exact .inr (.inr ⟨t, by rw [td]; exact ht, z⟩)
    | push w0 m x xs td td' k2 =>
      rw [td] at ht
      rcases List.mem_cons.1 ht with e | e
      · subst e; exact absurd k2 z.1
      · exact .inr (.inr ⟨t, by rw [td']; exact e, z⟩)
    | pop w0 m x xs td td' k2 k1 =>
      rw [td] at ht
      rcases List.mem_cons.1 ht with e | e
      · subst e; exact absurd k1 z.2
      · exact .inr (.inr ⟨t, by rw [td']; exact e, z⟩)
    | fin w0 m x xs td td' k2 k1 w => exact .inr (.inl w)
    | wake w0 m w o th sm td => exact .inr (.inr ⟨t, by rw [td]; exact ht, z⟩)
    | rest w0 m sm th o w td => exact .inr (.inr ⟨t, by rw [td]; exact ht, z⟩)
    | steal w0 m sm th o w td => exact .inr (.inr ⟨t, by rw [td]; exact ht, z⟩)
theorem FinI.go {td0 : List DTd} (h : FinI td0 s) {first most N : Int} {who : Nat} (p1 : 1 ≤ P) (hw : who < P) (r : PgoR first most P N s who s') : FinI td0 s' := fun q => by
  have td := r.modes.2.2
  rcases h q with z | z | ⟨t, ht, z⟩
  · exact .inl (r.done p1 hw z)
  · have keep : s'.wm = s.wm → DNc s' = 1 ∨ s'.wm = .fs ∨ ∃ t ∈ s'.g.todos, isFin t := fun e => .inr (.inl (e.trans z))
    by_cases w : who = 0
    · cases r with
      | fs _ m m' k wo c => exact .inl (by have := c 1 (by decide) (by omega); rw [if_pos rfl] at this; exact this)
      | own _ m => rw [z] at m; rcases m with ⟨m, _⟩ | ⟨m, _⟩ <;> cases m
      | wk _ m => rw [z] at m; cases m
      | wc _ _ _ _ m => rw [z] at m; cases m
      | wn _ _ _ _ m => rw [z] at m; cases m
      | wu _ _ m => rw [z] at m; cases m
      | fc _ _ _ _ m => rw [z] at m; cases m
      | fn _ _ _ _ m => rw [z] at m; cases m
      | fu _ _ _ _ m => rw [z] at m; cases m
      | on x => exact absurd w x
      | cnt x => exact absurd w x
      | ask x => exact absurd w x
      | look1 x => exact absurd w x
      | look2 x => exact absurd w x
      | park x => exact absurd w x
      | back x => exact absurd w x
      | fail x => exact absurd w x
      | less x => exact absurd w x
      | steal x => exact absurd w x
    · exact keep (r.modes.2.1 w).2.1
  · exact .inr (.inr ⟨t, by rw [td]; exact ht, z⟩)
theorem HaltI.pre (h : HaltI P s) {most : Int} {who : Nat} (k : KeepM s s') (p : PrkR most s who s') : HaltI P s' := fun d i a b li hu => by
  have cc : ∀ y, gt s'.g.m.cs y = gt s.g.m.cs y := fun y => by rw [k.cs]
  have d : DNc s = 1 := (cc 1).symm.trans d
  show gt _ _ = 0
  rw [cc]
  cases p with
  | on o t w sm => exact h d i a b (by rw [w] at li; exact li) (by rw [sm] at hu; exact hu)
  | push w0 m t ts td td' k2 w o op th sm => exact h d i a b (by rw [m]; exact (by omega : (i : Int) < P)) (by rw [sm] at hu; exact hu)
  | pop w0 m t ts td td' k2 k1 w o op th sm => exact h d i a b (by rw [m]; exact (by omega : (i : Int) < P)) (by rw [sm] at hu; exact hu)
  | fin w0 m t ts td td' k2 k1 w o th sm => exact h d i a b (by rw [m]; exact (by omega : (i : Int) < P)) (by rw [sm] at hu; exact hu)
  | wake w0 m w o th sm => exact h d i a b (by rw [m]; exact (by omega : (i : Int) < P)) (by rw [sm] at hu; exact hu)
  | rest w0 m sm th o w =>
    rw [sm] at hu
    by_cases e : i = who
    · subst e; rw [updN_at] at hu; exact hu.elim
    · rw [updN_ne e] at hu
      exact h d i a b (by rw [w] at li; exact li) hu
  | steal w0 m sm th o w =>
    rw [sm] at hu
    by_cases e : i = who
    · subst e; rw [updN_at] at hu; exact hu.elim
    · rw [updN_ne e] at hu
      exact h d i a b (by rw [w] at li; exact li) hu
theorem HaltI.go (h : HaltI P s) (F : FlagI P s) {first most N : Int} {who : Nat} (p1 : 1 ≤ P) (hw : who < P) (r : PgoR first most P N s who s') : HaltI P s' := by
  -- a sleeper's step: DONE is as it was
  have slp : who ≠ 0 → DNc s' = DNc s → s'.wm = s.wm → (∀ j : Nat, j < P → j ≠ who → FLc s' (j : Int) = FLc s (j : Int)) → (∀ j, j ≠ who → s'.sm j = s.sm j) → (DNc s = 1 → hushed (s'.sm who) → hushed (s.sm who) ∧ FLc s' (who : Int) = FLc s (who : Int)) → HaltI P s' := fun w eD eW eF eS eH d i a b li hu => by
    rw [eD] at d
    rw [eW] at li
    by_cases e : i = who
    · subst e
      obtain ⟨x, y⟩ := eH d hu
      rw [y]; exact h d i a b li x
    · rw [eF i b e]
      rw [eS i e] at hu
      exact h d i a b li hu
  have flC : ∀ {c v : Int}, LotC P s s' c v → (∀ j : Nat, j < P → 2 + (j : Int) ≠ c → FLc s' (j : Int) = FLc s (j : Int)) ∧ (c ≠ 1 → DNc s' = DNc s) := fun {c v} q => ⟨fun j b n => by
      have := q (2 + (j : Int)) (by omega) (by omega); rw [if_neg n] at this; exact this, fun n => by have := q 1 (by omega) (by omega); rw [if_neg (by omega)] at this; exact this⟩
  have flS : LotS P s s' → (∀ j : Nat, j < P → FLc s' (j : Int) = FLc s (j : Int)) ∧ DNc s' = DNc s := fun q => ⟨fun j b => q _ (by omega) (by omega), q 1 (by omega) (by omega)⟩
  have no : ∀ {m : SM} {A : Prop}, s'.sm = updN s.sm who m → ¬ hushed m → DNc s = 1 → hushed (s'.sm who) → A := fun {m A} e n _ q => by rw [e, updN_at] at q; exact absurd q n
  have nend : ∀ b, ¬ hushed (SM.ended b) := fun b => by cases b <;> exact id
  -- a step of worker 0
  have wrk : s'.sm = s.sm → DNc s' = DNc s → (∀ i : Nat, i < P → FLc s' (i : Int) = FLc s (i : Int) ∨ FLc s' (i : Int) = 0) → (∀ i : Nat, 1 ≤ i → i < P → (i : Int) < s'.wm.lim P → (i : Int) < s.wm.lim P ∨ FLc s' (i : Int) = 0) → HaltI P s' := fun eS eD eF eL d i a b li hu => by
    rw [eD] at d
    rw [eS] at hu
    rcases eL i a b li with z | z
    · rcases eF i b with y | y
      · rw [y]; exact h d i a b z hu
      · exact y
    · exact z
  have plain : ∀ {m : WM}, (∀ (k : Int), m ≠ .fc k ∧ m ≠ .fu k) → m.lim P = (P : Int) := fun {m} q => by
    cases m with
    | fc k => exact absurd rfl (q k).1
    | fu k => exact absurd rfl (q k).2
    | _ => rfl
  cases r with
  | on w m m' k c l =>
    obtain ⟨c1, c2⟩ := flC c
    exact slp w (c2 (by omega)) k.wm (fun j b n => c1 j b (by omega)) (fun j n => by rw [m', updN_ne n]) (no m' id)
  | cnt w m m' k c l =>
    obtain ⟨c1, c2⟩ := flC c
    exact slp w (c2 (by omega)) k.wm (fun j b n => c1 j b (by omega)) (fun j n => by rw [m', updN_ne n]) (no m' id)
  | ask w m m' k c l =>
    obtain ⟨c1, c2⟩ := flS c
    refine slp w c2 k.wm (fun j b _ => c1 j b) (fun j n => by rw [m', updN_ne n]) fun d hu => ?_
    rw [if_pos d] at m'
    exact no m' id d hu
  | look1 w j t j1 j2 m m' k c l =>
    obtain ⟨c1, c2⟩ := flS c
    exact slp w c2 k.wm (fun j b _ => c1 j b) (fun j n => by rw [m', updN_ne n]) fun d hu => ⟨by rw [m]; trivial, c1 who hw⟩
  | look2 w j t j1 j2 m tt m' k c l =>
    obtain ⟨c1, c2⟩ := flS c
    exact slp w c2 k.wm (fun j b _ => c1 j b) (fun j n => by rw [m', updN_ne n]) fun d hu => ⟨by rw [m]; trivial, c1 who hw⟩
  | park w m m' k c l =>
    obtain ⟨c1, c2⟩ := flS c
    exact slp w c2 k.wm (fun j b _ => c1 j b) (fun j n => by rw [m', updN_ne n]) fun d hu => ⟨by rw [m]; trivial, c1 who hw⟩
  | back w b m f m' k c l =>
    obtain ⟨c1, c2⟩ := flC c
    exact slp w (c2 (by omega)) k.wm (fun j b n => c1 j b (by omega)) (fun j n => by rw [m', updN_ne n]) (no m' id)
  | fail w b m f m' k c l =>
    obtain ⟨c1, c2⟩ := flS c
    exact slp w c2 k.wm (fun j b _ => c1 j b) (fun j n => by rw [m', updN_ne n]) (no m' (nend b))
  | less w b m m' k c l =>
    obtain ⟨c1, c2⟩ := flC c
    exact slp w (c2 (by omega)) k.wm (fun j b n => c1 j b (by omega)) (fun j n => by rw [m', updN_ne n]) (no m' (nend b))
  | steal w m x r k3 o th td wm wk run off c l =>
    obtain ⟨c1, c2⟩ := flS c
    by_cases e : x.pc = 0
    · exact slp w c2 wm (fun j b _ => c1 j b) (fun j n => by rw [(off e).1, updN_ne n]) (no (off e).1 id)
    · exact slp w c2 wm (fun j b _ => c1 j b) (fun j n => by rw [(run e).1]) fun d hu => by rw [(run e).1, m] at hu; exact hu.elim
  | own w m pc r sa th td sm wk run off c l =>
    obtain ⟨c1, c2⟩ := flS c
    refine wrk sm c2 (fun i b => .inl (c1 i b)) fun i a b _ => .inl ?_
    rcases m with ⟨m, _⟩ | ⟨m, _⟩ <;> rw [m] <;> exact (by omega : (i : Int) < P)
  | wk w m m' k wo c l =>
    obtain ⟨c1, c2⟩ := flS c
    exact wrk k.sm c2 (fun i b => .inl (c1 i b)) fun i a b _ => .inl (by rw [m]; exact (by omega : (i : Int) < P))
  | wc w j j1 j2 m f m' k wo c l =>
    obtain ⟨c1, c2⟩ := flC c
    refine wrk k.sm (c2 (by omega)) (fun i b => ?_) fun i a b _ => .inl (by rw [m]; exact (by omega : (i : Int) < P))
    by_cases e : (i : Int) = j
    · have := c (2 + (i : Int)) (by omega) (by omega)
      rw [if_pos (by omega)] at this
      exact .inr this
    · exact .inl (c1 i b (by omega))
  | wn w j j1 j2 m f m' k wo c l =>
    obtain ⟨c1, c2⟩ := flS c
    exact wrk k.sm c2 (fun i b => .inl (c1 i b)) fun i a b _ => .inl (by rw [m]; exact (by omega : (i : Int) < P))
  | wu w j m m' k wo c l =>
    obtain ⟨c1, c2⟩ := flC c
    exact wrk k.sm (c2 (by omega)) (fun i b => .inl (c1 i b (by omega))) fun i a b _ => .inl (by rw [m]; exact (by omega : (i : Int) < P))
  | fs w m m' k wo c l =>
    intro d i a b li hu
    by_cases e : P = 1
    · omega
    · rw [m', if_neg e] at li
      have li : (i : Int) < 1 := li
      omega
  | fc w j j1 j2 m f m' k wo c l =>
    obtain ⟨c1, c2⟩ := flC c
    refine wrk k.sm (c2 (by omega)) (fun i b => ?_) fun i a b li => ?_
    · by_cases e : (i : Int) = j
      · have := c (2 + (i : Int)) (by omega) (by omega)
        rw [if_pos (by omega)] at this
        exact .inr this
      · exact .inl (c1 i b (by omega))
    · rw [m'] at li
      have li : (i : Int) < j + 1 := li
      by_cases e : (i : Int) = j
      · have := c (2 + (i : Int)) (by omega) (by omega)
        rw [if_pos (by omega)] at this
        exact .inr this
      · exact .inl (by rw [m]; exact (by omega : (i : Int) < j))
  | fn w j j1 j2 m f m' k wo c l =>
    obtain ⟨c1, c2⟩ := flS c
    refine wrk k.sm c2 (fun i b => .inl (c1 i b)) fun i a b li => ?_
    have li : (i : Int) < j + 1 := by
      rw [m'] at li
      by_cases e : (P : Int) ≤ j + 1
      · omega
      · rw [if_neg e] at li; exact li
    by_cases e : (i : Int) = j
    · rw [c1 i b]
      subst e
      rcases F.f01 i a b with z | z
      · exact .inr z
      · exact absurd z f
    · exact .inl (by rw [m]; exact (by omega : (i : Int) < j))
  | fu w j j1 j2 m m' k wo c l =>
    obtain ⟨c1, c2⟩ := flC c
    refine wrk k.sm (c2 (by omega)) (fun i b => .inl (c1 i b (by omega))) fun i a b li => .inl ?_
    rw [m] at *
    rw [m'] at li
    by_cases e : (P : Int) ≤ j + 1
    · exact (by omega : (i : Int) < j + 1)
    · rw [if_neg e] at li; exact li
/-! ### how many steps more -/
def hme (P : Nat) (m : SM) (th : DOp) : Int := match m with
  | .idle => 5
  | .on => 5
  | .cnt => 4
  | .ask => 3
  | .back true => 2
  | .less true => 1
  | .halt => 0
  | .pend => 11
  | .steal => 11 - stepsOf th
  | .park => 12
  | .less false => 12
  | .back false => 12
  | .look k b _ => 2 * ((P : Int) - k) - (if b = true then 1 else 0) + 12
theorem stepsOf3 {th : DOp} (k : th.kind = 3) : 0 ≤ stepsOf th ∧ stepsOf th ≤ 5 := by
  unfold stepsOf
  rw [if_pos k]
  repeat' split
  all_goals omega
structure Hal3 (P : Nat) (vs : List Nat) (s : PkS) : Prop where
  wm : s.wm = .idle
  td : s.g.todos = []
  dn : DNc s = 1
  fl : FlagI P s
  ha : HaltI P s
  me : ∀ i, 1 ≤ i → i < P → hme P (s.sm i) (s.th i) = 0 ∨ hme P (s.sm i) (s.th i) + (vs.count i : Int) ≤ 2 * (P : Int) + 10
theorem hme_start {first most : Int} {N : Int} (I : PkI first most P s N) {i : Nat} (a : 1 ≤ i) (b : i < P) : hme P (s.sm i) (s.th i) ≤ 2 * (P : Int) + 10 ∧ 0 ≤ hme P (s.sm i) (s.th i) ∧ (hme P (s.sm i) (s.th i) = 0 → s.sm i = .halt) := by
  have sl := I.sl i a b
  cases e : s.sm i with
  | look k q t =>
    obtain ⟨k1, k2⟩ := I.lookk a b e
    show 2 * ((P : Int) - k) - (if q = true then 1 else 0) + 12 ≤ _ ∧ 0 ≤ 2 * ((P : Int) - k) - (if q = true then 1 else 0) + 12 ∧ (2 * ((P : Int) - k) - (if q = true then 1 else 0) + 12 = 0 → _)
    refine ⟨?_, ?_, fun z => ?_⟩
    · split <;> omega
    · split <;> omega
    · exfalso; split at z <;> omega
  | steal =>
    rw [e] at sl
    have := stepsOf3 sl.2.2.2.2.1
    show 11 - stepsOf (s.th i) ≤ _ ∧ 0 ≤ 11 - stepsOf (s.th i) ∧ (11 - stepsOf (s.th i) = 0 → _)
    exact ⟨by omega, by omega, fun z => by omega⟩
  | back q => cases q <;> simp only [hme] <;> exact ⟨by omega, by omega, fun z => by omega⟩
  | less q => cases q <;> simp only [hme] <;> exact ⟨by omega, by omega, fun z => by omega⟩
  | halt => exact ⟨by show (0 : Int) ≤ _; omega, Int.le_refl _, fun _ => rfl⟩
  | idle => simp only [hme]; exact ⟨by omega, by omega, fun z => by omega⟩
  | pend => simp only [hme]; exact ⟨by omega, by omega, fun z => by omega⟩
  | on => simp only [hme]; exact ⟨by omega, by omega, fun z => by omega⟩
  | cnt => simp only [hme]; exact ⟨by omega, by omega, fun z => by omega⟩
  | ask => simp only [hme]; exact ⟨by omega, by omega, fun z => by omega⟩
  | park => simp only [hme]; exact ⟨by omega, by omega, fun z => by omega⟩
theorem Hal3.pick {vs : List Nat} (h : Hal3 P vs s) {first most N : Int} (I : PkI first most P s N) (I' : PkI first most P s' (N + 1)) {who : Nat} (hw : who < P) (w : who ≠ 0) (r : PickR first most P N s who s') : Hal3 P (vs ++ [who]) s' := by
  have p1 := I.mem.p1
  obtain ⟨wm, td, dn, fl, ha, me⟩ := h
  cases r with
  | none q e =>
    subst e
    rcases q with ⟨q, _⟩ | ⟨_, q⟩
    · exact absurd q w
    · refine ⟨wm, td, dn, fl.same (s' := { s with g := s.g.whoS who }) (fun _ _ _ => rfl) (fun _ _ => rfl) p1 (by show SLc s = SLc s + (debt s.wm - debt s.wm); omega) fl.dn, ha, fun i a b => ?_⟩
      show hme P (s.sm i) (s.th i) = 0 ∨ hme P (s.sm i) (s.th i) + _ ≤ _
      rw [cnt_snoc]
      by_cases z : who = i
      · subst z; rw [q]; exact .inl rfl
      · rw [if_neg z]; exact me i a b
  | go s1 I1 k p a r =>
    have F1 := fl.pre p1 hw k p
    have H1 := ha.pre k p
    have d1 : DNc s1 = 1 := by show gt _ _ = 1; rw [k.cs]; exact dn
    have w1 : s1.wm = .idle ∧ s1.g.todos = [] ∧ (∀ i, i ≠ who → s1.sm i = s.sm i ∧ s1.th i = s.th i) ∧ hme P (s1.sm who) (s1.th who) = hme P (s.sm who) (s.th who) ∧ (s1.sm who).act := by
      have ac := a.2 w
      cases p with
      | on o t w' sm td' => exact ⟨w'.trans wm, td'.trans td, fun i _ => ⟨by rw [sm], by rw [t]⟩, by rw [sm, t], ac⟩
      | push w0 => exact absurd w0 w
      | pop w0 => exact absurd w0 w
      | fin w0 => exact absurd w0 w
      | wake w0 => exact absurd w0 w
      | rest w0 m sm th o w' td' =>
        refine ⟨w'.trans wm, td'.trans td, fun i n => ⟨by rw [sm, updN_ne n], by rw [th]⟩, ?_, ac⟩
        rw [sm, updN_at, m]; rfl
      | steal w0 m sm th o w' td' =>
        refine ⟨w'.trans wm, td'.trans td, fun i n => ⟨by rw [sm, updN_ne n], by rw [th, updN_ne n]⟩, ?_, ac⟩
        have m1 : 1 ≤ most := by have := I.mem.cap; unfold CapE at this; omega
        rw [sm, updN_at, m, th, updN_at, show DOp.steal 0 most = DOp.begin 3 2 0 most 0 from rfl, begin_eq m1 I.mem.cap.2.2]; rfl
    obtain ⟨wm1, td1, oth, sm1, ac⟩ := w1
    obtain ⟨_, m2, m3⟩ := r.modes
    obtain ⟨⟨m', em, _⟩, ewm, _⟩ := m2 w
    -- the others are as they were
    have oth2 : ∀ i, i ≠ who → s'.sm i = s.sm i ∧ s'.th i = s.th i := fun i n => by
      refine ⟨by rw [em, updN_ne n]; exact (oth i n).1, ?_⟩
      have : s'.th i = s1.th i := by
        cases r with
        | steal _ m x r k3 o th => rw [th, updN_ne n]
        | own x => exact absurd x w
        | wk x => exact absurd x w
        | wc x => exact absurd x w
        | wn x => exact absurd x w
        | wu x => exact absurd x w
        | fs x => exact absurd x w
        | fc x => exact absurd x w
        | fn x => exact absurd x w
        | fu x => exact absurd x w
        | on _ _ _ k => rw [k.th]
        | cnt _ _ _ k => rw [k.th]
        | ask _ _ _ k => rw [k.th]
        | look1 _ _ _ _ _ _ _ k => rw [k.th]
        | look2 _ _ _ _ _ _ _ _ k => rw [k.th]
        | park _ _ _ k => rw [k.th]
        | back _ _ _ _ _ k => rw [k.th]
        | fail _ _ _ _ _ k => rw [k.th]
        | less _ _ _ _ k => rw [k.th]
      rw [this]; exact (oth i n).2
    have a1 : 1 ≤ who := by omega
    have down : hme P (s'.sm who) (s'.th who) + 1 ≤ hme P (s1.sm who) (s1.th who) := by
      have f0 : hushed (s1.sm who) → FLc s1 (who : Int) = 0 := fun q => H1 d1 who a1 hw (by rw [wm1]; exact (by omega : (who : Int) < P)) q
      rw [em, updN_at]
      have em' : s'.sm who = m' := by rw [em, updN_at]
      cases r with
      | on _ m m2 k c => rw [m2, updN_at] at em'; subst em'; rw [m]; exact (by decide : (4 : Int) + 1 ≤ 5)
      | cnt _ m m2 k c => rw [m2, updN_at] at em'; subst em'; rw [m]; exact (by decide : (3 : Int) + 1 ≤ 4)
      | ask _ m m2 k c => rw [m2, updN_at, if_pos d1] at em'; subst em'; rw [m]; exact (by decide : (2 : Int) + 1 ≤ 3)
      | look1 _ j t j1 j2 m m2 k c =>
        rw [m2, updN_at] at em'; subst em'; rw [m]
        show 2 * ((P : Int) - j) - 1 + 12 + 1 ≤ 2 * ((P : Int) - j) - 0 + 12; omega
      | look2 _ j t j1 j2 m tt m2 k c =>
        rw [m2, updN_at] at em'; subst em'; rw [m]
        show hme P _ _ + 1 ≤ 2 * ((P : Int) - j) - 1 + 12
        split
        · show (12 : Int) + 1 ≤ _; omega
        split
        · show (12 : Int) + 1 ≤ _; omega
        · show 2 * ((P : Int) - (j + 1)) - 0 + 12 + 1 ≤ _; omega
      | park _ m m2 k c =>
        rw [m2, updN_at, if_neg (by rw [f0 (by rw [m]; trivial)]; decide)] at em'
        subst em'; rw [m]; exact (by decide : (11 : Int) + 1 ≤ 12)
      | back _ q m f m2 k c =>
        rw [m2, updN_at] at em'; subst em'; rw [m]
        cases q
        · have := f0 (by rw [m]; trivial); omega
        · exact (by decide : (1 : Int) + 1 ≤ 2)
      | fail _ q m f m2 k c =>
        rw [m2, updN_at] at em'; subst em'; rw [m]
        cases q
        · exact (by decide : (11 : Int) + 1 ≤ 12)
        · exact (by decide : (0 : Int) + 1 ≤ 2)
      | less _ q m m2 k c =>
        rw [m2, updN_at] at em'; subst em'; rw [m]
        cases q
        · exact (by decide : (11 : Int) + 1 ≤ 12)
        · exact (by decide : (0 : Int) + 1 ≤ 1)
      | steal _ m x r k3 o th td wm wk run off c =>
        have s5 := stepsOf3 k3.1
        obtain ⟨v, hv, _⟩ := k3.2
        rw [m]
        show _ ≤ 11 - stepsOf (s1.th who)
        by_cases e : x.pc = 0
        · rw [(off e).1, updN_at] at em'
          subst em'
          show (5 : Int) + 1 ≤ _; omega
        · rw [(run e).1, m] at em'
          subst em'
          rw [th, updN_at]
          show 11 - stepsOf x + 1 ≤ _
          have T := I1.th who a1 hw
          have sl := I1.sl who a1 hw
          rw [m] at sl
          have pc := sl.2.2.2.1
          have := (th_steps T.ths k3.1 pc v).1
          rw [← hv] at this
          have := this e
          omega
      | own x => exact absurd x w
      | wk x => exact absurd x w
      | wc x => exact absurd x w
      | wn x => exact absurd x w
      | wu x => exact absurd x w
      | fs x => exact absurd x w
      | fc x => exact absurd x w
      | fn x => exact absurd x w
      | fu x => exact absurd x w
    refine ⟨ewm.trans wm1, m3.trans td1, r.done p1 hw d1, F1.go p1 I.mem.p8 hw r, H1.go F1 p1 hw r, fun i a b => ?_⟩
    rw [cnt_snoc]
    by_cases z : who = i
    · subst z
      rw [if_pos rfl]
      have h0 := (hme_start I' a b).2.1
      rw [sm1] at down
      rcases me who a b with y | y
      · omega
      · exact .inr (by omega)
    · rw [if_neg z]
      obtain ⟨x, y⟩ := oth2 i (fun q => z q.symm)
      rw [x, y]; exact me i a b
end
end Go.Mx
