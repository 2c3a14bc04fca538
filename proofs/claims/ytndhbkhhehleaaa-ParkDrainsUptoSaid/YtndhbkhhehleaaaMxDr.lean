/-
  The law ParkDrains.
-/
import Derived.Test.YtndhbkhhehleaaaMxWz
set_option linter.unusedVariables false
set_option linter.unusedSimpArgs false
set_option linter.unusedSectionVars false
namespace Go.Mx

theorem dn_go {first most N : Int} {P who : Nat} {s s' : PkS} (h : DNc s = 0) (nf : ¬ finM s.wm) (r : PgoR first most P N s who s') : DNc s' = 0 := by
  have flC : ∀ {c v : Int}, LotC P s s' c v → c ≠ 1 → DNc s' = 0 := fun {c v} q n => by
    have := q 1 (by decide) (by omega)
    rw [if_neg (fun z => n z.symm)] at this
    exact this.trans h
  have flS : LotS P s s' → DNc s' = 0 := fun q => (q 1 (by decide) (by omega)).trans h
  cases r with
  | on w m m' k c l => exact flC c (by omega)
  | cnt w m m' k c l => exact flC c (by omega)
  | ask w m m' k c l => exact flS c
  | look1 w j t j1 j2 m m' k c l => exact flS c
  | look2 w j t j1 j2 m tt m' k c l => exact flS c
  | park w m m' k c l => exact flS c
  | back w b m f m' k c l => exact flC c (by omega)
  | fail w b m f m' k c l => exact flS c
  | less w b m m' k c l => exact flC c (by omega)
  | steal w m x r k3 o th td wm wk run off c l => exact flS c
  | own w m pc r sa th td sm wk run off c l => exact flS c
  | wk w m m' k wo c l => exact flS c
  | wc w j j1 j2 m f m' k wo c l => exact flC c (by omega)
  | wn w j j1 j2 m f m' k wo c l => exact flS c
  | wu w j m m' k wo c l => exact flC c (by omega)
  | fs w m m' k wo c l => rw [m] at nf; exact absurd trivial nf
  | fc w j j1 j2 m f m' k wo c l => exact flC c (by omega)
  | fn w j j1 j2 m f m' k wo c l => exact flS c
  | fu w j j1 j2 m m' k wo c l => exact flC c (by omega)
theorem dn_pick {td0 : List DTd} {first most N : Int} {P who : Nat} {s s' : PkS} (h : DNc s = 0) (C : CntI td0 most P s) (nf : ∀ t ∈ td0, t.1 = 0 ∨ t.1 = 1) (I : PkI first most P s N) (R : PickR first most P N s who s') : DNc s' = 0 := by
  obtain ⟨nP, nQ, nF, nW, T, L, C⟩ := C
  have m1 : 1 ≤ most := by have := I.mem.cap; unfold CapE at this; omega
  cases R with
  | none q e => subst e; exact h
  | go s1 I1 k p a r => exact dn_go (s := s1) (by show gt _ _ = 0; rw [k.cs]; exact h) ((C.pre m1 I.mem.cap.2.2 k p).nz nf).2 r
theorem rndL_add (sl a : Nat) : ∀ b, rndL sl (a + b) = rndL sl a ++ rndL sl b
  | 0 => by rw [show rndL sl 0 = [] from rfl, List.append_nil]; rfl
  | b + 1 => by
    show rndL sl (a + b) ++ oneL sl = rndL sl a ++ (rndL sl b ++ oneL sl)
    rw [rndL_add sl a b, List.append_assoc]
section
variable {td0 : List DTd} {most : Int} {P : Nat} {r K : Int} {s : PkS}
theorem DrB.start (h : DrB td0 most P r K s) : DrBr td0 most P r K [] s := by
  refine ⟨h.cal, ?_, fun i a b => ?_⟩
  · rcases h.wi with q | ⟨i, a, b, u, q⟩
    · exact .inl q
    · exact .inr ⟨i, a, b, u, .inl (by rw [if_neg (by simp)]; omega)⟩
  · rcases h.qs i a b with q | q
    · exact .inl q
    · exact .inr (by rw [if_neg (by simp)]; omega)
theorem DrBr.done {vs : List Nat} (h : DrBr td0 most P r K vs s) (all : ∀ i, 1 ≤ i → i < P → i ∈ vs) : DrB td0 most P (r + 1) K s := by
  refine ⟨h.cal, ?_, fun i a b => ?_⟩
  · rcases h.wi with q | ⟨i, a, b, u, q⟩
    · exact .inl q
    · refine .inr ⟨i, a, b, u, ?_⟩
      rw [if_pos (all i a b)] at q
      rcases q with q | q <;> omega
  · rcases h.qs i a b with q | q
    · exact .inl q
    · rw [if_pos (all i a b)] at q
      exact .inr (by omega)
theorem DrC.start {tk : List (Den KP2)} (h : DrC td0 most P r tk s) : DrCr td0 most P r tk [] s := by
  refine ⟨h.cal, h.em, h.tk, h.qs, fun i a b => ?_⟩
  rcases h.ps i a b with q | q
  · exact .inl q
  · exact .inr (by rw [if_neg (by simp)]; omega)
theorem DrCr.done {tk : List (Den KP2)} {vs : List Nat} (h : DrCr td0 most P r tk vs s) (all : ∀ i, 1 ≤ i → i < P → i ∈ vs) : DrC td0 most P (r + 1) tk s := by
  refine ⟨h.cal, h.em, h.tk, h.qs, fun i a b => ?_⟩
  rcases h.ps i a b with q | q
  · exact .inl q
  · rw [if_pos (all i a b)] at q
    exact .inr (by omega)
end
theorem one_all {sl P : Nat} (hP : sl + 1 = P) : (∀ i, 1 ≤ i → i < P → i ∈ (List.range sl).map (· + 1)) ∧ ∀ w ∈ (List.range sl).map (· + 1), w < P ∧ w ≠ 0 :=
  ⟨fun i a b => List.mem_map.2 ⟨i - 1, List.mem_range.2 (by omega), by omega⟩, fun w hw => by
    obtain ⟨k, hk, rfl⟩ := List.mem_map.1 hw
    have := List.mem_range.1 hk
    exact ⟨by omega, by omega⟩⟩
section
variable {td0 : List DTd} (nb : Numbd td0) {first most : Int} {P sl : Nat} (hP : sl + 1 = P)
include nb hP
theorem roundsB {K : Int} : ∀ (t : Nat) {s : PkS} {N r : Int}, PkI first most P s N → DrB td0 most P r K s → N + ((t * sl : Nat) : Int) ≤ 1000000000 →
    ∃ s', s'.g = s.g.run (P : Int) (dsP first most P) (whos (sl : Int) (rndL sl t)) ∧ PkI first most P s' (N + ((t * sl : Nat) : Int)) ∧ DrB td0 most P (r + (t : Int)) K s'
  | 0, s, N, r, I, h, _ => ⟨s, rfl, by rw [Nat.zero_mul]; show PkI first most P s (N + 0); rw [Int.add_zero]; exact I, by show DrB td0 most P (r + 0) K s; rw [Int.add_zero]; exact h⟩
  | t + 1, s, N, r, I, h, hN => by
    have e : (((t + 1) * sl : Nat) : Int) = ((t * sl : Nat) : Int) + (sl : Int) := by rw [Nat.succ_mul]; omega
    obtain ⟨o1, o2⟩ := one_all hP
    have len : (((List.range sl).map (· + 1)).length : Int) = (sl : Int) := by simp
    obtain ⟨s1, e1, I1, h1⟩ := roundsB t I h (by omega)
    obtain ⟨s2, e2, I2, h2⟩ := park_runW (fun w => w ≠ 0) (DrBr td0 most P (r + (t : Int)) K) ((List.range sl).map (· + 1)) [] I1 h1.start (by omega) o2 fun vs w s s' N hw n I h I' R => h.pick nb I I' hw n R
    rw [List.nil_append] at h2
    refine ⟨s2, ?_, ?_, ?_⟩
    · rw [e2, e1, rndL, whos_app, PG.run_app, whos_one hP]
    · rw [len] at I2
      rw [e, ← Int.add_assoc]; exact I2
    · have := h2.done o1
      rw [show r + ((t + 1 : Nat) : Int) = r + (t : Int) + 1 by omega]; exact this
theorem roundsC {tk : List (Den KP2)} : ∀ (t : Nat) {s : PkS} {N r : Int}, PkI first most P s N → DrC td0 most P r tk s → N + ((t * sl : Nat) : Int) ≤ 1000000000 →
    ∃ s', s'.g = s.g.run (P : Int) (dsP first most P) (whos (sl : Int) (rndL sl t)) ∧ PkI first most P s' (N + ((t * sl : Nat) : Int)) ∧ DrC td0 most P (r + (t : Int)) tk s'
  | 0, s, N, r, I, h, _ => ⟨s, rfl, by rw [Nat.zero_mul]; show PkI first most P s (N + 0); rw [Int.add_zero]; exact I, by show DrC td0 most P (r + 0) tk s; rw [Int.add_zero]; exact h⟩
  | t + 1, s, N, r, I, h, hN => by
    have e : (((t + 1) * sl : Nat) : Int) = ((t * sl : Nat) : Int) + (sl : Int) := by rw [Nat.succ_mul]; omega
    obtain ⟨o1, o2⟩ := one_all hP
    have len : (((List.range sl).map (· + 1)).length : Int) = (sl : Int) := by simp
    obtain ⟨s1, e1, I1, h1⟩ := roundsC t I h (by omega)
    obtain ⟨s2, e2, I2, h2⟩ := park_runW (fun w => w ≠ 0) (DrCr td0 most P (r + (t : Int)) tk) ((List.range sl).map (· + 1)) [] I1 h1.start (by omega) o2 fun vs w s s' N hw n I h I' R => h.pick nb I I' hw n R
    rw [List.nil_append] at h2
    refine ⟨s2, ?_, ?_, ?_⟩
    · rw [e2, e1, rndL, whos_app, PG.run_app, whos_one hP]
    · rw [len] at I2
      rw [e, ← Int.add_assoc]; exact I2
    · have := h2.done o1
      rw [show r + ((t + 1 : Nat) : Int) = r + (t : Int) + 1 by omega]; exact this
end
structure DrE (td0 : List DTd) (first most : Int) (P : Nat) (s : PkS) : Prop where
  pk : ∃ N, PkI first most P s N ∧ N ≤ 1000000000
  cal : Cal td0 most P s
  em : ctn s.A.cs = []
theorem park_drains {first most : Int} (hc : CapE first most) {P sl : Nat} (hP : sl + 1 = P) (s1 : 1 ≤ sl) (p8 : P ≤ 8) {l : List DTd} (nb : Numbd l) (nf : ∀ t ∈ l, t.1 = 0 ∨ t.1 = 1) {ws : List Nat} (hw : ∀ w ∈ ws, w < P) {T : Nat} (hT : (puL l + 2) * (2 * P + 12) ≤ T)
    (hn : ws.length + (T + (2 * P + 12)) * sl ≤ 100000000) (c0 : (16 + P) * (l.length + 1) ≤ ws.count 0) :
    ∃ s s', s.g = parkOf first most P l (ws ++ whos (sl : Int) (rndL sl T)) ∧ s'.g = parkOf first most P l (ws ++ whos (sl : Int) (rndL sl (T + (2 * P + 12)))) ∧ DrE l first most P s ∧ DrE l first most P s' ∧ s'.g.taken = s.g.taken ∧ SLc s' = (sl : Int) ∧ ∀ i : Nat, 1 ≤ i → i < P → s'.sm i = .park ∧ FLc s' (i : Int) = 1 := by
  have p1 : 1 ≤ P := by omega
  have z : ∀ y, 0 ≤ y → y < 2 + (P : Int) → gt (pk0 first most P l).g.m.cs y = 0 := fun y a b => layP_lot hc P a b
  have D0 : DS most (cellsOf first most) 0 (alone0 first most) [] := DS.start hc _ rfl rfl
  obtain ⟨s, e, I, F, Lo, M, C, V, O, D⟩ := park_run (fun vs s => FlagI P s ∧ LostI P s ∧ MovI l P vs s ∧ CntI l most P s ∧ ValI l most s ∧ OnI P s ∧ DNc s = 0) ws [] (pk0_I hc p1 p8 l) ⟨pk0_flag hc p1 l, .inl D0.l, pk0_mov l, pk0_cnt hc p1 l, pk0_val hc l, fun i a b => (by show SM.idle ≠ .on; simp), z 1 (by decide) (by omega)⟩ (by omega) hw
    fun vs w s s' N hw I ⟨F, L, M, C, V, O, D⟩ I' R => ⟨F.pick I hw R, L.pick F I hw R, M.pick I hw R, C.pick I hw R, V.pick nb C I R, O.pick R, dn_pick D C nf I R⟩
  have idle : s.g.todos = [] ∧ s.wm = .idle := by
    rcases M.w0 with q | ⟨_, q⟩
    · exfalso
      obtain ⟨nP, nQ, nF, nW, T, L, C⟩ := C
      have := (C.through I).2 nf
      rw [q] at this
      have c0 : ((16 + (P : Int)) * ((l.length : Int) + 1)) ≤ (((([] : List Nat) ++ ws).count 0 : Nat) : Int) := by
        rw [List.nil_append]
        exact_mod_cast c0
      omega
    · exact q
  have cal : Cal l most P s := ⟨idle.2, idle.1, D, F, V, C, fun i a b => ⟨fun q => by have := M.bt i a b (.inl q); omega, fun q => by have := M.bt i a b (.inr q); omega, fun q => by have := (M.hlt i a b q).2; omega, O i a b⟩⟩
  have few : (ctn s.A.cs).length ≤ puL l := by
    obtain ⟨c, pv, V⟩ := V
    have a := V.pe.length_eq
    rw [List.length_append] at a
    have b := V.lq
    have d : 0 ≤ s.wm.pushN := by rw [idle.2]; exact Int.le_refl _
    omega
  obtain ⟨K, hK⟩ : ∃ K : Int, K = 2 * (P : Int) + 14 + (puL l : Int) * (2 * (P : Int) + 12) := ⟨_, rfl⟩
  have fewK : ((ctn s.A.cs).length : Int) * (2 * (P : Int) + 12) ≤ (puL l : Int) * (2 * (P : Int) + 12) := Int.mul_le_mul_of_nonneg_right (by omega) (by omega)
  have hTK : K + 1 ≤ (T : Int) := by
    have hT : ((puL l : Int) + 2) * (2 * (P : Int) + 12) ≤ (T : Int) := by exact_mod_cast hT
    rw [Int.add_mul] at hT
    omega
  have sb : DrB l most P 0 K s := by
    refine ⟨cal, ?_, fun i a b => .inr ?_⟩
    · rcases Lo with q | q | q | ⟨i, a, b, q⟩ | q | q | q
      · exact .inl q
      · omega
      · omega
      · refine .inr ⟨i, a, b, q, ?_⟩
        have := (dm_start I a b).1
        omega
      · rw [idle.2] at q; cases q
      · rw [idle.2] at q; cases q
      · rw [idle.2] at q; cases q
    · have := (dm_start I a b).2.2.1
      omega
  have hn2 : (T + (2 * P + 12)) * sl = T * sl + (2 * P + 12) * sl := Nat.add_mul ..
  obtain ⟨s2, e2, I2, b2⟩ := roundsB nb hP T I sb (by omega)
  have em2 : ctn s2.A.cs = [] := by
    rcases b2.wi with q | ⟨i, a, b, _, q⟩
    · exact q
    · exfalso
      have d0 := (dm_start I2 a b).2.1
      have : 0 ≤ ((ctn s2.A.cs).length : Int) * (2 * (P : Int) + 12) := Int.mul_nonneg (by omega) (by omega)
      omega
  have sc : DrC l most P 0 s2.g.taken s2 := by
    refine ⟨b2.cal, em2, rfl, fun i a b => ?_, fun i a b => .inr ?_⟩
    · rcases b2.qs i a b with q | q
      · exact q
      · exfalso
        have d0 := (dm_start I2 a b).2.2.2.1
        have : 0 ≤ (puL l : Int) * (2 * (P : Int) + 12) := Int.mul_nonneg (by omega) (by omega)
        omega
    · have := (dm_start I2 a b).2.2.2.2.1
      omega
  obtain ⟨s3, e3, I3, b3⟩ := roundsC nb hP (2 * P + 12) I2 sc (by omega)
  have pk3 : ∀ i : Nat, 1 ≤ i → i < P → s3.sm i = .park ∧ FLc s3 (i : Int) = 1 := fun i a b => by
    obtain ⟨_, _, _, _, _, d0, dz⟩ := dm_start I3 a b
    have p0 : pmS P s3 i = 0 := by
      rcases b3.ps i a b with q | q
      · exact q
      · omega
    have sp : s3.sm i = .park := (dz p0).elim id fun q => absurd q (b3.cal.nt i a b).2.2.1
    have q0 := b3.qs i a b
    unfold qS at q0
    rw [sp] at q0
    have q0 : (if FLc s3 (i : Int) = 1 then (0 : Int) else 1) = 0 := q0
    refine ⟨sp, ?_⟩
    by_cases f : FLc s3 (i : Int) = 1
    · exact f
    · rw [if_neg f] at q0; omega
  have run1 : s2.g = parkOf first most P l (ws ++ whos (sl : Int) (rndL sl T)) := by
    rw [e2, e]
    unfold parkOf
    rw [PG.run_app]; rfl
  refine ⟨s2, s3, run1, ?_, ⟨⟨_, I2, by omega⟩, b2.cal, em2⟩, ⟨⟨_, I3, by omega⟩, b3.cal, b3.em⟩, b3.tk, ?_, pk3⟩
  · rw [e3, run1, rndL_add sl T, whos_app, ← List.append_assoc]
    unfold parkOf
    rw [PG.run_app, PG.run_app, PG.run_app]
  · rw [b3.cal.fl.sl, b3.cal.wm]
    have : sumN (fun i => wS (s3.sm i) (FLc s3 (i : Int))) (P - 1) = ((P - 1 : Nat) : Int) * 1 := sumN_const fun j a b => by
      obtain ⟨x, y⟩ := pk3 j a (by omega)
      show wS (s3.sm j) (FLc s3 (j : Int)) = 1
      rw [x]; exact y
    rw [this, Int.mul_one]
    show ((P - 1 : Nat) : Int) + 0 = _
    omega
end Go.Mx
