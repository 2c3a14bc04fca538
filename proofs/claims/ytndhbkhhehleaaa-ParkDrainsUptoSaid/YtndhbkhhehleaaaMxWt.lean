/-
  A park play: how many accesses worker 0 makes in all.
-/
import Derived.Test.YtndhbkhhehleaaaMxWq
import Derived.Test.YtndhbkhhehleaaaMxQs
set_option linter.unusedVariables false
set_option linter.unusedSimpArgs false
set_option linter.unusedSectionVars false
namespace Go.Mx

structure AmO (most : Int) (cs : List Int) (own : DOp) (nP nQ T : Int) : Prop where
  xi : XI most own
  a1 : Bl cs own ≤ nP
  n0 : 0 ≤ nP ∧ 0 ≤ nQ
  am : ∃ S : Int, 0 ≤ S ∧ S ≤ 2 * nP ∧ T ≤ 9 * nP + 8 * nQ + 2 * S ∧ (if grown own then S ≤ own.b - own.t ∧ (cC cs < most → cC cs = 2 * (own.b - own.t)) else cC cs < most → S ≤ cC cs)
theorem AmO.thief {most : Int} {cs cs' : List Int} {own : DOp} {nP nQ T : Int} (h : AmO most cs own nP nQ T) (hb : Bl cs' own = Bl cs own) (hc : cC cs' = cC cs) : AmO most cs' own nP nQ T :=
  ⟨h.xi, by rw [hb]; exact h.a1, h.n0, by rw [hc]; exact h.am⟩
theorem AmO.begin {most : Int} {cs : List Int} {own : DOp} {nP nQ T : Int} (h : AmO most cs own nP nQ T) (p : own.pc = 0) (m1 : 1 ≤ most) (m2 : most ≤ 4096) {k v : Int} (hk : k = 1 ∨ k = 2) : AmO most cs (DOp.begin k 1 0 most v) nP nQ T ∧ stepsOf (DOp.begin k 1 0 most v) = 0 := by
  rw [begin_eq m1 m2]
  have g0 : ¬ grown own := fun q => by obtain ⟨_, q, _⟩ := q; omega
  have g1 : ¬ grown (⟨k, 1, 0, most, v, 0, 0, 0, 0, 0, 0, 0, 0, false, 0, 0⟩ : DOp) := fun q => by
    obtain ⟨_, q, _⟩ := q
    have q : (1 : Int) = 10 ∨ (1 : Int) = 11 := q
    omega
  obtain ⟨S, s1, s2, s3, s4⟩ := h.am
  rw [if_neg g0] at s4
  refine ⟨⟨fun _ => ⟨fun _ => rfl, fun q => ?_⟩, ?_, h.n0, S, s1, s2, s3, by rw [if_neg g1]; exact s4⟩, ?_⟩
  · have q : (1 : Int) = 10 ∨ (1 : Int) = 11 := q
    omega
  · rw [Bl_up (lowp (.inr (.inl rfl)))]
    have := h.a1
    rw [Bl_up (lowp (.inl p))] at this
    exact this
  · rcases hk with rfl | rfl <;> rfl
theorem own_kinds {most : Int} {cs : List Int} {o : DOp} (h : OwnS most cs o) (p : o.pc ≠ 0) : o.kind = 1 ∨ o.kind = 2 := by
  cases h with
  | idle p' => exact absurd p' p
  | pu1 k' | pu2 k' | pu3 k' | pu4 k' | pu5 k' | pu6 k' | pu7 k' | pu8 k' | pu9 k' | pu10 k' | pu11 k' => exact .inl k'
  | po1 k' | po3 k' | po11 k' | po2 k' | po4 k' | po12 k' | po13 k' | pe k' | pf k' => exact .inr k'
theorem pu9_of {most : Int} {cs : List Int} {o : DOp} (h : OwnS most cs o) (k1 : o.kind = 1) (p9 : o.pc = 9) (c1 : 1 ≤ cC cs) (v : Int) : cC cs < most ∧ 1 ≤ o.c2 ∧ o.after v = { o with a := o.a2, c := o.c2, pc := 10 } := by
  cases h with
  | pu9 _ p b t0 t f a c lt c2 => exact ⟨lt, by rw [c2]; split <;> omega, by simp [DOp.after, DOp.pushed, k1, p]⟩
  | idle p => omega
  | pu1 _ p | pu2 _ p | pu3 _ p | pu4 _ p | pu5 _ p | pu6 _ p | pu7 _ p | pu8 _ p | pu10 _ p | pu11 _ p => omega
  | po1 k' | po3 k' | po11 k' | po2 k' | po4 k' | po12 k' | po13 k' | pe k' | pf k' => omega
theorem AmO.step {most sz N : Int} {s s' : AS} {own : DOp} {nP nQ T : Int} (h : AmO most s.cs own nP nQ T) (g : DG most sz N s.cs own) (os : OwnS most s.cs own) (pc : own.pc ≠ 0) {v : Int} (r : OwnR most sz N s own s' (own.after v)) :
    ((own.after v).pc ≠ 0 → AmO most s'.cs (own.after v) nP nQ T ∧ stepsOf (own.after v) = stepsOf own + 1) ∧
    ((own.after v).pc = 0 → own.kind = 1 → AmO most s'.cs (own.after v) (nP + 1) nQ (T + stepsOf own + 1)) ∧
    ((own.after v).pc = 0 → own.kind = 2 → AmO most s'.cs (own.after v) nP (nQ + 1) (T + stepsOf own + 1)) ∧ 0 ≤ stepsOf own ∧ (own.kind = 1 → stepsOf own ≤ 9 + 2 * nP) ∧ (own.kind = 2 → stepsOf own ≤ 7) := by
  obtain ⟨xi, a1, n0, S, m1, m2, m3, m4⟩ := h
  have hcc := r.cc
  have hk' : (own.after v).kind = own.kind := (own.after_same v).1
  have tb := g.tb
  have t0 := g.t0
  rcases own_kinds os pc with k1 | k2
  · have hb : 0 ≤ gt s.cs 1 ∧ gt s.cs 1 ≤ 1000000000 := by
      have h1 := g.bn
      have h4 := g.nn
      rw [Bl_up (low1 k1)] at h1 tb
      omega
    have a1' := a1
    rw [Bl_up (low1 k1)] at a1'
    obtain ⟨t1, t2, t3, t4, t5, t6, t7⟩ := push_steps os xi k1 pc hb.1 hb.2 g.c1 v
    refine ⟨fun xp => ?_, fun xp _ => ?_, fun _ q => by omega, t4, fun _ => by omega, fun q => by omega⟩
    · obtain ⟨t21, t22, t23⟩ := t2 xp
      refine ⟨⟨t1, ?_, n0, S, m1, m2, m3, ?_⟩, t21⟩
      · rcases r.bl with b | ⟨b1, b2, b3⟩
        · omega
        · exfalso
          cases os with
          | pu11 _ p =>
            have : own.after v = own.over 2 0 := by simp [DOp.after, DOp.pushed, b1, p]
            rw [this] at xp
            exact xp rfl
          | idle p => omega
          | pu1 _ p | pu2 _ p | pu3 _ p | pu4 _ p | pu5 _ p | pu6 _ p | pu7 _ p | pu8 _ p | pu9 _ p | pu10 _ p => omega
          | po1 k' | po3 k' | po11 k' | po2 k' | po4 k' | po12 k' | po13 k' | pe k' | pf k' => omega
      · by_cases gx : grown (own.after v)
        · rw [if_pos gx]
          rcases t22 gx with g0 | ⟨p9, g1, g2⟩
          · rw [if_pos g0] at m4
            obtain ⟨_, t24⟩ := t23 g0
            have : ¬ (own.kind = 1 ∧ own.pc = 9) := fun y => t6 y.2 g0
            rw [if_neg this] at hcc
            rw [hcc, t24]; exact m4
          · rw [if_neg (t6 p9)] at m4
            rw [if_pos ⟨k1, p9⟩] at hcc
            have lt := (pu9_of os k1 p9 g.c1 v).1
            have := m4 lt
            rw [hcc, g1, g2]
            refine ⟨this, fun lt2 => ?_⟩
            by_cases y : most < 2 * cC s.cs
            · rw [if_pos y] at lt2; omega
            · rw [if_neg y]
        · rw [if_neg gx]
          have g0 : ¬ grown own := fun y => gx (t23 y).1
          rw [if_neg g0] at m4
          have : ¬ (own.kind = 1 ∧ own.pc = 9) := fun y => by
            apply gx
            obtain ⟨_, hc2, e⟩ := pu9_of os k1 y.2 g.c1 v
            rw [e]
            exact ⟨k1, .inl rfl, by show own.c2 ≠ 0; omega⟩
          rw [if_neg this] at hcc
          rw [hcc]; exact m4
    · have gx : ¬ grown (own.after v) := fun y => by obtain ⟨_, y, _⟩ := y; omega
      have t3 := t3 xp
      refine ⟨t1, ?_, by omega, ?_⟩
      · rcases r.bl with b | ⟨b1, b2, b3⟩ <;> omega
      · simp only [if_neg gx]
        by_cases g0 : grown own
        · rw [if_pos g0] at m4 t3
          have n9 : ¬ (own.kind = 1 ∧ own.pc = 9) := fun y => t6 y.2 g0
          rw [if_neg n9] at hcc
          obtain ⟨t71, t72⟩ := t7 g0
          refine ⟨S + (own.b - own.t), by omega, by omega, by omega, fun lt => ?_⟩
          rw [hcc] at lt ⊢
          have := m4.2 lt
          omega
        · rw [if_neg g0] at m4 t3
          have n9 : ¬ (own.kind = 1 ∧ own.pc = 9) := fun y => by
            have := (pu9_of os k1 y.2 g.c1 v).2.2
            rw [this] at xp
            exact absurd (show (10 : Int) = 0 from xp) (by decide)
          rw [if_neg n9] at hcc
          exact ⟨S, m1, by omega, by omega, fun lt => by rw [hcc] at lt ⊢; exact m4 lt⟩
  · obtain ⟨t1, t2, t3, t4⟩ := pop_steps os k2 pc v
    rw [if_neg (fun y => by omega)] at hcc
    have ng : ¬ grown own := fun y => by have := y.1; omega
    have ng' : ¬ grown (own.after v) := fun y => by have := y.1; omega
    rw [if_neg ng] at m4
    have a1'' : Bl s'.cs (own.after v) ≤ nP := by rcases r.bl with b | ⟨b1, _⟩ <;> omega
    refine ⟨fun xp => ⟨⟨fun y => by omega, a1'', n0, S, m1, m2, m3, by rw [if_neg ng', hcc]; exact m4⟩, t1 xp⟩, fun _ q => by omega, fun xp _ => ⟨fun y => by omega, a1'', by omega, S, m1, by omega, by have := t2 xp; omega, by rw [if_neg ng', hcc]; exact m4⟩, t3, fun q => by omega, fun _ => t4⟩
def WM.cur (m : WM) (own : DOp) : Int := match m with
  | .push => stepsOf own
  | .pop => stepsOf own
  | .wc k => k
  | .wu k => k + 1
  | .fc k => 2 * k - 1
  | .fu k => 2 * k
  | _ => 0
def WM.busy : WM → Int
  | .push => 1
  | .pop => 1
  | .fs => 1
  | .fc _ => 1
  | .fu _ => 1
  | _ => 0
def WM.wakes : WM → Int
  | .pend => 1
  | .wk => 1
  | .wc _ => 1
  | .wu _ => 1
  | _ => 0
def WM.pushN : WM → Int
  | .push => 1
  | _ => 0
structure CntM (td0 : List DTd) (most : Int) (P : Nat) (s : PkS) (nP nQ nF nW T L : Int) : Prop where
  am : AmO most s.A.cs s.own nP nQ T
  st : (stpL s.g.m.lg 0 : Int) ≤ T + L + s.wm.cur s.own
  lo : L ≤ (P : Int) * nW + nW + 2 * ((P : Int) * nF)
  nw : 0 ≤ nW ∧ nW + s.wm.wakes ≤ nP
  nf : 0 ≤ nF
  sub : ∀ t ∈ s.g.todos, t ∈ td0
  nz : (∀ t ∈ td0, t.1 = 0 ∨ t.1 = 1) → nF = 0 ∧ ¬ finM s.wm
  al : nP + nQ + nF + s.wm.busy + (s.g.todos.length : Int) = (td0.length : Int)
  pu : nP + s.wm.pushN + (puL s.g.todos : Int) = (puL td0 : Int)
def CntI (td0 : List DTd) (most : Int) (P : Nat) (s : PkS) : Prop := ∃ nP nQ nF nW T L, CntM td0 most P s nP nQ nF nW T L
section
variable {td0 : List DTd} {most : Int} {P : Nat} {s s' : PkS} {nP nQ nF nW T L : Int} (h : CntM td0 most P s nP nQ nF nW T L)
include h
theorem CntM.pre {who : Nat} (m1 : 1 ≤ most) (m2 : most ≤ 4096) (k : KeepM s s') (p : PrkR most s who s') : CntM td0 most P s' nP nQ nF nW T L := by
  have hst := h.st
  have hal := h.al
  have hpu := h.pu
  have hnw := h.nw
  cases p with
  | on o t w sm td => exact ⟨by rw [k.A, o]; exact h.am, by rw [k.lg, w, o]; exact hst, h.lo, by rw [w]; exact hnw, h.nf, by rw [td]; exact h.sub, by rw [w]; exact h.nz, by rw [w, td]; exact hal, by rw [w, td]; exact hpu⟩
  | push w0 m t ts td td' k2 w o op th sm =>
    obtain ⟨a, b⟩ := h.am.begin op m1 m2 (k := 1) (v := t.2.1) (.inl rfl)
    rw [m] at hst hnw
    rw [m, td, List.length_cons] at hal
    rw [m, td, puL_cons, if_pos k2] at hpu
    have hal : nP + nQ + nF + 0 + ((ts.length + 1 : Nat) : Int) = (td0.length : Int) := hal
    have hpu : nP + 0 + ((puL ts : Int) + 1) = (puL td0 : Int) := hpu
    refine ⟨by rw [k.A, o]; exact a, ?_, h.lo, by rw [w]; exact hnw, h.nf, fun x hx => h.sub x (by rw [td]; rw [td'] at hx; exact List.mem_cons_of_mem _ hx), fun q => ⟨(h.nz q).1, by rw [w]; exact id⟩, ?_, ?_⟩
    · rw [k.lg, w, o]
      show _ ≤ T + L + stepsOf (DOp.begin 1 1 0 most t.2.1)
      rw [b]; exact hst
    · rw [w, td']; show nP + nQ + nF + 1 + _ = _; omega
    · rw [w, td']; show nP + 1 + _ = _; omega
  | pop w0 m t ts td td' k2 k1 w o op th sm =>
    obtain ⟨a, b⟩ := h.am.begin op m1 m2 (k := 2) (v := 0) (.inr rfl)
    rw [m] at hst hnw
    rw [m, td, List.length_cons] at hal
    rw [m, td, puL_cons, if_neg k2] at hpu
    have hal : nP + nQ + nF + 0 + ((ts.length + 1 : Nat) : Int) = (td0.length : Int) := hal
    have hpu : nP + 0 + ((puL ts : Int) + 0) = (puL td0 : Int) := hpu
    refine ⟨by rw [k.A, o]; exact a, ?_, h.lo, by rw [w]; exact hnw, h.nf, fun x hx => h.sub x (by rw [td]; rw [td'] at hx; exact List.mem_cons_of_mem _ hx), fun q => ⟨(h.nz q).1, by rw [w]; exact id⟩, ?_, ?_⟩
    · rw [k.lg, w, o]
      show _ ≤ T + L + stepsOf (DOp.begin 2 1 0 most 0)
      rw [b]; exact hst
    · rw [w, td']; show nP + nQ + nF + 1 + _ = _; omega
    · rw [w, td']; show nP + 0 + _ = _; omega
  | fin w0 m t ts td td' k2 k1 w o th sm =>
    rw [m] at hst hnw
    rw [m, td, List.length_cons] at hal
    rw [m, td, puL_cons, if_neg k2] at hpu
    have hal : nP + nQ + nF + 0 + ((ts.length + 1 : Nat) : Int) = (td0.length : Int) := hal
    have hpu : nP + 0 + ((puL ts : Int) + 0) = (puL td0 : Int) := hpu
    refine ⟨by rw [k.A, o]; exact h.am, by rw [k.lg, w]; exact hst, h.lo, by rw [w]; exact hnw, h.nf, fun x hx => h.sub x (by rw [td]; rw [td'] at hx; exact List.mem_cons_of_mem _ hx), fun q => ?_, ?_, ?_⟩
    · rcases q t (h.sub t (by rw [td]; exact List.mem_cons_self ..)) with z | z
      · exact absurd z k2
      · exact absurd z k1
    · rw [w, td']; show nP + nQ + nF + 1 + _ = _; omega
    · rw [w, td']; show nP + 0 + _ = _; omega
  | wake w0 m w o th sm td =>
    rw [m] at hst hnw hal hpu
    exact ⟨by rw [k.A, o]; exact h.am, by rw [k.lg, w]; exact hst, h.lo, by rw [w]; exact hnw, h.nf, by rw [td]; exact h.sub, fun q => ⟨(h.nz q).1, by rw [w]; exact id⟩, by rw [w, td]; exact hal, by rw [w, td]; exact hpu⟩
  | rest w0 m sm th o w td => exact ⟨by rw [k.A, o]; exact h.am, by rw [k.lg, w, o]; exact hst, h.lo, by rw [w]; exact hnw, h.nf, by rw [td]; exact h.sub, by rw [w]; exact h.nz, by rw [w, td]; exact hal, by rw [w, td]; exact hpu⟩
  | steal w0 m sm th o w td => exact ⟨by rw [k.A, o]; exact h.am, by rw [k.lg, w, o]; exact hst, h.lo, by rw [w]; exact hnw, h.nf, by rw [td]; exact h.sub, by rw [w]; exact h.nz, by rw [w, td]; exact hal, by rw [w, td]; exact hpu⟩
theorem CntM.go {first N : Int} {who : Nat} (I : PkI first most P s N) (hw : who < P) (r : PgoR first most P N s who s') : CntI td0 most P s' := by
  obtain ⟨e, le, ew⟩ := r.entry
  have hst := h.st
  have hal := h.al
  have hpu := h.pu
  have hnw := h.nw
  have hlo := h.lo
  have hnf := h.nf
  have hsub := h.sub
  have hnz := h.nz
  have st : (stpL s'.g.m.lg 0 : Int) = (stpL s.g.m.lg 0 : Int) + if who = 0 then 1 else 0 := by
    rw [le, stp_snoc, ew]
    by_cases z : who = 0
    · rw [if_pos z, if_pos (show (who : Int) = ((0 : Nat) : Int) by omega)]; rfl
    · rw [if_neg z, if_neg (show ¬ (who : Int) = ((0 : Nat) : Int) by omega)]; rfl
  have eW : (P : Int) * (nW + 1) = (P : Int) * nW + P := by rw [Int.mul_add, Int.mul_one]
  have eF : (P : Int) * (nF + 1) = (P : Int) * nF + P := by rw [Int.mul_add, Int.mul_one]
  have slp : who ≠ 0 → AmO most s'.A.cs s'.own nP nQ T → s'.own = s.own → s'.wm = s.wm → s'.g.todos = s.g.todos → CntI td0 most P s' := fun w am eo ew et => by
    rw [if_neg w] at st
    exact ⟨nP, nQ, nF, nW, T, L, am, by rw [st, ew, eo]; omega, hlo, by rw [ew]; exact hnw, hnf, by rw [et]; exact hsub, by rw [ew]; exact hnz, by rw [ew, et]; exact hal, by rw [ew, et]; exact hpu⟩
  have keepS : who ≠ 0 → KeepS s s' → CntI td0 most P s' := fun w k => slp w (by rw [k.A, k.own]; exact h.am) k.own k.wm k.todos
  have wrk : who = 0 → Keep0 s s' → ∀ {dW dF : Int} {L' : Int}, (dW = 0 ∨ dW = 1) → (dF = 0 ∨ dF = 1) → (stpL s.g.m.lg 0 : Int) + 1 ≤ T + L' + s'.wm.cur s'.own → L' ≤ (P : Int) * (nW + dW) + (nW + dW) + 2 * ((P : Int) * (nF + dF)) → nW + dW + s'.wm.wakes ≤ nP → (¬ finM s.wm → dF = 0 ∧ ¬ finM s'.wm) → dF + s'.wm.busy = s.wm.busy → s'.wm.pushN = s.wm.pushN → CntI td0 most P s' := fun w k {dW dF L'} d1 d2 a b c d e f => by
    rw [if_pos w] at st
    refine ⟨nP, nQ, nF + dF, nW + dW, T, L', by rw [k.A, k.own]; exact h.am, by rw [st]; exact a, b, ⟨by omega, c⟩, by omega, by rw [k.todos]; exact hsub, fun q => ?_, by rw [k.todos]; omega, by rw [k.todos, f]; exact hpu⟩
    obtain ⟨x, y⟩ := hnz q
    obtain ⟨z1, z2⟩ := d y
    exact ⟨by omega, z2⟩
  cases r with
  | on w m m' k c l => exact keepS w k
  | cnt w m m' k c l => exact keepS w k
  | ask w m m' k c l => exact keepS w k
  | look1 w j t j1 j2 m m' k c l => exact keepS w k
  | look2 w j t j1 j2 m tt m' k c l => exact keepS w k
  | park w m m' k c l => exact keepS w k
  | back w q m f m' k c l => exact keepS w k
  | fail w q m f m' k c l => exact keepS w k
  | less w q m m' k c l => exact keepS w k
  | steal w m x r k3 o th td wm wk run off c l => exact slp w (by rw [o]; exact h.am.thief r.bl r.cc) o wm td
  | own w m pc r sa th td sm wk run off c l =>
    obtain ⟨v, hv⟩ := sa
    rw [hv] at r
    obtain ⟨a1, a2, a3, a4, a5, a6⟩ := h.am.step I.mem.dv.dg I.mem.dv.os pc r
    rw [← hv] at a1 a2 a3
    rw [if_pos w] at st
    have cur : s.wm.cur s.own = stepsOf s.own := by rcases m with ⟨m, _⟩ | ⟨m, _⟩ <;> rw [m] <;> rfl
    rw [cur] at hst
    have mm : s.wm.wakes = 0 ∧ s.wm.busy = 1 ∧ ¬ finM s.wm := by rcases m with ⟨m, _⟩ | ⟨m, _⟩ <;> rw [m] <;> exact ⟨rfl, rfl, id⟩
    by_cases z : s'.own.pc = 0
    · obtain ⟨e1, _⟩ := off z
      have nfin : ¬ finM s'.wm := by rw [e1]; split <;> exact id
      have b0 : s'.wm.busy = 0 ∧ s'.wm.cur s'.own = 0 ∧ s'.wm.pushN = 0 := by rw [e1]; split <;> exact ⟨rfl, rfl, rfl⟩
      rcases m with ⟨m, k1⟩ | ⟨m, k2⟩
      · have p1 : s.wm.pushN = 1 := by rw [m]; rfl
        have wk1 : s'.wm.wakes ≤ 1 ∧ 0 ≤ s'.wm.wakes := by rw [e1]; split <;> decide
        refine ⟨nP + 1, nQ, nF, nW, T + stepsOf s.own + 1, L, a2 z k1, ?_, hlo, ⟨hnw.1, by omega⟩, hnf, by rw [td]; exact hsub, fun q => ⟨(hnz q).1, nfin⟩, by rw [td]; omega, by rw [td]; omega⟩
        rw [st, b0.2.1]; omega
      · have p1 : s.wm.pushN = 0 := by rw [m]; rfl
        have nc : s'.own.code ≠ 2 := by
          rw [hv]
          rw [hv] at z
          cases r.eff with
          | same p => exact absurd z p
          | push k' => omega
          | full k' p co => omega
          | low k' p => exact absurd z p
          | got k' p co => omega
          | empty k' p co => omega
          | won k' p => exact absurd z p
        rw [if_neg nc] at e1
        have w0 : s'.wm.wakes = 0 := by rw [e1]; rfl
        refine ⟨nP, nQ + 1, nF, nW, T + stepsOf s.own + 1, L, a3 z k2, ?_, hlo, ⟨hnw.1, by omega⟩, hnf, by rw [td]; exact hsub, fun q => ⟨(hnz q).1, nfin⟩, by rw [td]; omega, by rw [td]; omega⟩
        rw [st, b0.2.1]; omega
    · obtain ⟨e1, _⟩ := run z
      obtain ⟨b1, b2⟩ := a1 z
      have cur' : s'.wm.cur s'.own = stepsOf s'.own := by rw [e1]; rcases m with ⟨m, _⟩ | ⟨m, _⟩ <;> rw [m] <;> rfl
      refine ⟨nP, nQ, nF, nW, T, L, b1, ?_, hlo, by rw [e1]; exact hnw, hnf, by rw [td]; exact hsub, by rw [e1]; exact hnz, by rw [e1, td]; exact hal, by rw [e1, td]; exact hpu⟩
      rw [st, cur', b2]; omega
  | wk w m m' k wo c l =>
    rw [m] at hst hnw
    have hst : (stpL s.g.m.lg 0 : Int) ≤ T + L + 0 := hst
    have hnw2 : nW + 1 ≤ nP := hnw.2
    by_cases d : SLc s ≤ 0 ∨ P = 1
    · rw [if_pos d] at m'
      exact wrk w k (dW := 1) (dF := 0) (L' := L + 1) (.inr rfl) (.inl rfl) (by rw [m']; show _ ≤ T + (L + 1) + 0; omega) (by rw [eW, Int.add_zero]; omega) (by rw [m']; show nW + 1 + 0 ≤ nP; omega) (fun _ => ⟨rfl, by rw [m']; exact id⟩) (by rw [m', m]; rfl) (by rw [m', m]; rfl)
    · rw [if_neg d] at m'
      exact wrk w k (dW := 0) (dF := 0) (L' := L) (.inl rfl) (.inl rfl) (by rw [m']; show _ ≤ T + L + 1; omega) (by rw [Int.add_zero, Int.add_zero]; exact hlo) (by rw [m']; show nW + 0 + 1 ≤ nP; omega) (fun _ => ⟨rfl, by rw [m']; exact id⟩) (by rw [m', m]; rfl) (by rw [m', m]; rfl)
  | wc w j j1 j2 m f m' k wo c l =>
    rw [m] at hst hnw
    have hst : (stpL s.g.m.lg 0 : Int) ≤ T + L + j := hst
    have hnw2 : nW + 1 ≤ nP := hnw.2
    exact wrk w k (dW := 0) (dF := 0) (L' := L) (.inl rfl) (.inl rfl) (by rw [m']; show _ ≤ T + L + (j + 1); omega) (by rw [Int.add_zero, Int.add_zero]; exact hlo) (by rw [m']; show nW + 0 + 1 ≤ nP; omega) (fun _ => ⟨rfl, by rw [m']; exact id⟩) (by rw [m', m]; rfl) (by rw [m', m]; rfl)
  | wn w j j1 j2 m f m' k wo c l =>
    rw [m] at hst hnw
    have hst : (stpL s.g.m.lg 0 : Int) ≤ T + L + j := hst
    have hnw2 : nW + 1 ≤ nP := hnw.2
    by_cases d : (P : Int) ≤ j + 1
    · rw [if_pos d] at m'
      exact wrk w k (dW := 1) (dF := 0) (L' := L + j + 1) (.inr rfl) (.inl rfl) (by rw [m']; show _ ≤ T + (L + j + 1) + 0; omega) (by rw [eW, Int.add_zero]; omega) (by rw [m']; show nW + 1 + 0 ≤ nP; omega) (fun _ => ⟨rfl, by rw [m']; exact id⟩) (by rw [m', m]; rfl) (by rw [m', m]; rfl)
    · rw [if_neg d] at m'
      exact wrk w k (dW := 0) (dF := 0) (L' := L) (.inl rfl) (.inl rfl) (by rw [m']; show _ ≤ T + L + (j + 1); omega) (by rw [Int.add_zero, Int.add_zero]; exact hlo) (by rw [m']; show nW + 0 + 1 ≤ nP; omega) (fun _ => ⟨rfl, by rw [m']; exact id⟩) (by rw [m', m]; rfl) (by rw [m', m]; rfl)
  | wu w j m m' k wo c l =>
    have w0 := I.w0
    rw [m] at w0
    obtain ⟨_, _, _, _, r, _, _, _, _, _, _, _, k1⟩ := w0
    rw [m] at hst hnw
    have hst : (stpL s.g.m.lg 0 : Int) ≤ T + L + (j + 1) := hst
    have hnw2 : nW + 1 ≤ nP := hnw.2
    exact wrk w k (dW := 1) (dF := 0) (L' := L + j + 2) (.inr rfl) (.inl rfl) (by rw [m']; show _ ≤ T + (L + j + 2) + 0; omega) (by rw [eW, Int.add_zero]; omega) (by rw [m']; show nW + 1 + 0 ≤ nP; omega) (fun _ => ⟨rfl, by rw [m']; exact id⟩) (by rw [m', m]; rfl) (by rw [m', m]; rfl)
  | fs w m m' k wo c l =>
    have p1 := I.mem.p1
    rw [m] at hst hnw
    have hst : (stpL s.g.m.lg 0 : Int) ≤ T + L + 0 := hst
    have hnw2 : nW + 0 ≤ nP := hnw.2
    by_cases d : P = 1
    · rw [if_pos d] at m'
      exact wrk w k (dW := 0) (dF := 1) (L' := L + 1) (.inl rfl) (.inr rfl) (by rw [m']; show _ ≤ T + (L + 1) + 0; omega) (by rw [eF, Int.add_zero]; omega) (by rw [m']; show nW + 0 + 0 ≤ nP; omega) (fun q => absurd (by rw [m]; trivial) q) (by rw [m', m]; rfl) (by rw [m', m]; rfl)
    · rw [if_neg d] at m'
      exact wrk w k (dW := 0) (dF := 0) (L' := L) (.inl rfl) (.inl rfl) (by rw [m']; show _ ≤ T + L + (2 * 1 - 1); omega) (by rw [Int.add_zero, Int.add_zero]; exact hlo) (by rw [m']; show nW + 0 + 0 ≤ nP; omega) (fun q => absurd (by rw [m]; trivial) q) (by rw [m', m]; rfl) (by rw [m', m]; rfl)
  | fc w j j1 j2 m f m' k wo c l =>
    rw [m] at hst hnw
    have hst : (stpL s.g.m.lg 0 : Int) ≤ T + L + (2 * j - 1) := hst
    have hnw2 : nW + 0 ≤ nP := hnw.2
    exact wrk w k (dW := 0) (dF := 0) (L' := L) (.inl rfl) (.inl rfl) (by rw [m']; show _ ≤ T + L + 2 * j; omega) (by rw [Int.add_zero, Int.add_zero]; exact hlo) (by rw [m']; show nW + 0 + 0 ≤ nP; omega) (fun q => absurd (by rw [m]; trivial) q) (by rw [m', m]; rfl) (by rw [m', m]; rfl)
  | fn w j j1 j2 m f m' k wo c l =>
    rw [m] at hst hnw
    have hst : (stpL s.g.m.lg 0 : Int) ≤ T + L + (2 * j - 1) := hst
    have hnw2 : nW + 0 ≤ nP := hnw.2
    by_cases d : (P : Int) ≤ j + 1
    · rw [if_pos d] at m'
      exact wrk w k (dW := 0) (dF := 1) (L' := L + 2 * j) (.inl rfl) (.inr rfl) (by rw [m']; show _ ≤ T + (L + 2 * j) + 0; omega) (by rw [eF, Int.add_zero]; omega) (by rw [m']; show nW + 0 + 0 ≤ nP; omega) (fun q => absurd (by rw [m]; trivial) q) (by rw [m', m]; rfl) (by rw [m', m]; rfl)
    · rw [if_neg d] at m'
      exact wrk w k (dW := 0) (dF := 0) (L' := L) (.inl rfl) (.inl rfl) (by rw [m']; show _ ≤ T + L + (2 * (j + 1) - 1); omega) (by rw [Int.add_zero, Int.add_zero]; exact hlo) (by rw [m']; show nW + 0 + 0 ≤ nP; omega) (fun q => absurd (by rw [m]; trivial) q) (by rw [m', m]; rfl) (by rw [m', m]; rfl)
  | fu w j j1 j2 m m' k wo c l =>
    rw [m] at hst hnw
    have hst : (stpL s.g.m.lg 0 : Int) ≤ T + L + 2 * j := hst
    have hnw2 : nW + 0 ≤ nP := hnw.2
    by_cases d : (P : Int) ≤ j + 1
    · rw [if_pos d] at m'
      exact wrk w k (dW := 0) (dF := 1) (L' := L + 2 * j + 1) (.inl rfl) (.inr rfl) (by rw [m']; show _ ≤ T + (L + 2 * j + 1) + 0; omega) (by rw [eF, Int.add_zero]; omega) (by rw [m']; show nW + 0 + 0 ≤ nP; omega) (fun q => absurd (by rw [m]; trivial) q) (by rw [m', m]; rfl) (by rw [m', m]; rfl)
    · rw [if_neg d] at m'
      exact wrk w k (dW := 0) (dF := 0) (L' := L) (.inl rfl) (.inl rfl) (by rw [m']; show _ ≤ T + L + (2 * (j + 1) - 1); omega) (by rw [Int.add_zero, Int.add_zero]; exact hlo) (by rw [m']; show nW + 0 + 0 ≤ nP; omega) (fun q => absurd (by rw [m]; trivial) q) (by rw [m', m]; rfl) (by rw [m', m]; rfl)
theorem CntM.through {first N : Int} (I : PkI first most P s N) : (stpL s.g.m.lg 0 : Int) < (16 + 2 * (P : Int)) * ((td0.length : Int) + 1) ∧ ((∀ t ∈ td0, t.1 = 0 ∨ t.1 = 1) → (stpL s.g.m.lg 0 : Int) < (16 + (P : Int)) * ((td0.length : Int) + 1)) := by
  obtain ⟨S, m1, m2, m3, m4⟩ := h.am.am
  obtain ⟨n1, n2⟩ := h.am.n0
  have hst := h.st
  have hal := h.al
  have hnw := h.nw
  have hlo := h.lo
  have hnf := h.nf
  have p1 := I.mem.p1
  have a1 := h.am.a1
  have cur : s.wm.cur s.own ≤ 9 + 2 * nP ∧ True ∨ s.wm.cur s.own ≤ P + 1 ∨ finM s.wm ∧ s.wm.cur s.own ≤ 2 * (P : Int) := by
    have w0 := I.w0
    cases e : s.wm with
    | idle => exact .inr (.inl (by show (0 : Int) ≤ _; omega))
    | pend => exact .inr (.inl (by show (0 : Int) ≤ _; omega))
    | wk => exact .inr (.inl (by show (0 : Int) ≤ _; omega))
    | fs => exact .inr (.inl (by show (0 : Int) ≤ _; omega))
    | wc k => rw [e] at w0; obtain ⟨_, _, _, _, r, _, _, _, _, _, _, _, k1⟩ := w0; exact .inr (.inl (by show k ≤ _; omega))
    | wu k => rw [e] at w0; obtain ⟨_, _, _, _, r, _, _, _, _, _, _, _, k1⟩ := w0; exact .inr (.inl (by show k + 1 ≤ _; omega))
    | fc k => rw [e] at w0; obtain ⟨_, _, _, _, r, _, _, _, _, _, _, _, k1⟩ := w0; exact .inr (.inr ⟨trivial, by show 2 * k - 1 ≤ _; omega⟩)
    | fu k => rw [e] at w0; obtain ⟨_, _, _, _, r, _, _, _, _, _, _, _, k1⟩ := w0; exact .inr (.inr ⟨trivial, by show 2 * k ≤ _; omega⟩)
    | push =>
      rw [e] at w0
      obtain ⟨_, _, pc, k1, _⟩ := w0
      refine .inl ⟨?_, trivial⟩
      have g := I.mem.dv.dg
      have b1 := g.bn
      have b2 := g.tb
      have b3 := g.t0
      have b4 := g.nn
      rw [Bl_up (low1 k1)] at b1 b2 a1
      have := (push_steps I.mem.dv.os h.am.xi k1 pc (by omega) (by omega) g.c1 0).2.2.2.2.1
      show stepsOf s.own ≤ _; omega
    | pop =>
      rw [e] at w0
      obtain ⟨_, _, pc, k2, _⟩ := w0
      refine .inl ⟨?_, trivial⟩
      have := (pop_steps I.mem.dv.os k2 pc 0).2.2.2
      show stepsOf s.own ≤ _; omega
  have z0 : (0 : Int) ≤ 0 := by decide
  have z1 : (0 : Int) ≤ 1 := by decide
  have bz : 0 ≤ s.wm.busy := by cases s.wm <;> first | exact z0 | exact z1
  have wz : 0 ≤ s.wm.wakes := by cases s.wm <;> first | exact z0 | exact z1
  have x1 : (P : Int) * nW ≤ (P : Int) * nP := Int.mul_le_mul_of_nonneg_left (by omega) (by omega)
  have x2 : 0 ≤ (P : Int) * nQ := Int.mul_nonneg (by omega) n2
  have x3 : 0 ≤ (P : Int) * nF := Int.mul_nonneg (by omega) hnf
  have x4 : 0 ≤ (P : Int) * (s.wm.busy + (s.g.todos.length : Int)) := Int.mul_nonneg (by omega) (by omega)
  have x5 : 0 ≤ (P : Int) * nP := Int.mul_nonneg (by omega) n1
  have e0 : (P : Int) * (td0.length : Int) = (P : Int) * nP + (P : Int) * nQ + (P : Int) * nF + (P : Int) * (s.wm.busy + (s.g.todos.length : Int)) := by
    rw [← hal, ← Int.mul_add, ← Int.mul_add, ← Int.mul_add, Int.add_assoc (nP + nQ + nF)]
  have e1 : (16 + 2 * (P : Int)) * ((td0.length : Int) + 1) = 16 * (td0.length : Int) + 2 * ((P : Int) * (td0.length : Int)) + 16 + 2 * P := by
    rw [Int.mul_add, Int.mul_one, Int.add_mul, Int.mul_assoc]; omega
  have e2 : (16 + (P : Int)) * ((td0.length : Int) + 1) = 16 * (td0.length : Int) + (P : Int) * (td0.length : Int) + 16 + P := by
    rw [Int.mul_add, Int.mul_one, Int.add_mul]; omega
  refine ⟨?_, fun q => ?_⟩
  · rw [e1, e0]
    rcases cur with ⟨c, _⟩ | c | ⟨_, c⟩ <;> omega
  · obtain ⟨z1, z2⟩ := h.nz q
    rw [e2, e0]
    subst z1
    rw [Int.mul_zero] at *
    rcases cur with ⟨c, _⟩ | c | ⟨c, _⟩
    · omega
    · omega
    · exact absurd c z2
end
theorem CntI.pick {td0 : List DTd} {most : Int} {P : Nat} {s s' : PkS} (h : CntI td0 most P s) {first N : Int} {who : Nat} (I : PkI first most P s N) (hw : who < P) (r : PickR first most P N s who s') : CntI td0 most P s' := by
  obtain ⟨nP, nQ, nF, nW, T, L, h⟩ := h
  have m1 : 1 ≤ most := by have := I.mem.cap; unfold CapE at this; omega
  cases r with
  | none q e => subst e; exact ⟨nP, nQ, nF, nW, T, L, h.am, h.st, h.lo, h.nw, h.nf, h.sub, h.nz, h.al, h.pu⟩
  | go s1 I1 k p a r => exact (h.pre m1 I.mem.cap.2.2 k p).go I1 hw r
theorem pk0_cnt {first most : Int} (hc : CapE first most) {P : Nat} (p1 : 1 ≤ P) (todos : List DTd) : CntI todos most P (pk0 first most P todos) := by
  have g : gt (alone0 first most).cs 1 = 0 := by rw [alone0_gt hc (by decide)]; rfl
  have g2 : gt (alone0 first most).cs 2 = 3 := by rw [alone0_gt hc (by decide)]; rfl
  have g3 : gt (alone0 first most).cs 3 = first := by rw [alone0_gt hc (by decide)]; rfl
  have c1 := hc.1
  refine ⟨0, 0, 0, 0, 0, 0, ⟨fun q => absurd (show (0 : Int) = 1 from q) (by decide), ?_, by omega, 0, by omega, by omega, by omega, ?_⟩, Int.le_refl _, by simp, ⟨by omega, Int.le_refl _⟩, by omega, fun t ht => ht, fun _ => ⟨rfl, id⟩, ?_, ?_⟩
  · show Bl (alone0 first most).cs DOp.zero ≤ 0
    rw [Bl_up (lowp (.inl rfl)), g]; exact Int.le_refl _
  · have ng : ¬ grown DOp.zero := fun q => absurd q.1 (by decide)
    show if grown DOp.zero then _ else _
    rw [if_neg ng]
    intro _
    show 0 ≤ gt (alone0 first most).cs (gt (alone0 first most).cs 2)
    rw [g2, g3]; omega
  · show (0 : Int) + 0 + 0 + 0 + (todos.length : Int) = _; omega
  · show (0 : Int) + 0 + (puL todos : Int) = _; omega
end Go.Mx
