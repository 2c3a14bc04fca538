/-
  A park play: which values are taken.
-/
import Derived.Test.YtndhbkhhehleaaaMxWt
set_option linter.unusedVariables false
set_option linter.unusedSimpArgs false
set_option linter.unusedSectionVars false
namespace Go.Mx

def vals (l : List (Den KP2)) : List Int := l.map fun t => t.2.1
theorem vals_snoc (l : List (Den KP2)) (w v : Int) : vals (l ++ [(w, (v, ()))]) = vals l ++ [v] := List.map_append ..
def Numbd (l : List DTd) : Prop := ∀ (i : Nat) t, l[i]? = some t → (t.2.1 : Int) = (i : Int)
structure ValM (td0 : List DTd) (most : Int) (s : PkS) (c : Nat) (pv : List Int) : Prop where
  td : s.g.todos = td0.drop c
  le : c ≤ td0.length
  pe : (vals s.g.taken ++ hand s.A.cs s.own ++ ctn s.A.cs).Perm pv
  inc : pv.Pairwise (· < ·)
  lt : ∀ v ∈ pv, 0 ≤ v ∧ v < (c : Int) - s.wm.pushN
  kd : ∀ v ∈ pv, ∃ t : DTd, td0[v.toNat]? = some t ∧ t.1 = 0
  ow : s.wm = .push → s.own.v = (c : Int) - 1 ∧ 1 ≤ c ∧ ∃ t : DTd, td0[c - 1]? = some t ∧ t.1 = 0
  ln : (puL td0 : Int) ≤ most → (pv.length : Int) + s.wm.pushN + (puL s.g.todos : Int) = (puL td0 : Int)
  lq : (pv.length : Int) + s.wm.pushN + (puL s.g.todos : Int) ≤ (puL td0 : Int)
def ValI (td0 : List DTd) (most : Int) (s : PkS) : Prop := ∃ c pv, ValM td0 most s c pv
theorem drop_cons {td0 : List DTd} {c : Nat} {t : DTd} {ts : List DTd} (h : td0.drop c = t :: ts) : td0[c]? = some t ∧ ts = td0.drop (c + 1) ∧ c < td0.length := by
  have h1 : (td0.drop c)[0]? = some t := by rw [h]; rfl
  rw [List.getElem?_drop, Nat.add_zero] at h1
  refine ⟨h1, ?_, (List.getElem?_eq_some_iff.1 h1).1⟩
  have : td0.drop (c + 1) = (td0.drop c).drop 1 := by rw [List.drop_drop]
  rw [this, h]; rfl
section
variable {td0 : List DTd} {most : Int} {s s' : PkS} {c : Nat} {pv : List Int} (h : ValM td0 most s c pv)
include h
theorem ValM.pre (nb : Numbd td0) {who : Nat} (m1 : 1 ≤ most) (m2 : most ≤ 4096) (k : KeepM s s') (p : PrkR most s who s') : ValI td0 most s' := by
  obtain ⟨td, le, pe, inc, lt, kd, ow, ln, lq⟩ := h
  have same : s'.own = s.own → s'.wm.pushN = s.wm.pushN → s'.g.todos = s.g.todos → (s'.wm = .push → s.wm = .push) → ValI td0 most s' := fun eo ew et ep =>
    ⟨c, pv, by rw [et]; exact td, le, by rw [k.taken, k.A, eo]; exact pe, inc, by rw [ew]; exact lt, kd, fun q => by rw [eo]; exact ow (ep q), by rw [ew, et]; exact ln, by rw [ew, et]; exact lq⟩
  cases p with
  | on o t w sm td' => exact same o (by rw [w]) td' (fun q => by rw [← w]; exact q)
  | push w0 m t ts e e' k2 w o op th sm h1 h2 =>
    rw [td] at e
    obtain ⟨d1, d2, d3⟩ := drop_cons e
    rw [m] at lt
    refine ⟨c + 1, pv, by rw [e']; exact d2, d3, by rw [k.taken, k.A, h2, ← h1]; exact pe, inc, fun v hv => ?_, kd, fun _ => ⟨?_, by omega, t, by rw [Nat.add_sub_cancel]; exact d1, k2⟩, fun q => ?_, ?_⟩
    · obtain ⟨x, y⟩ := lt v hv
      have y : v < (c : Int) - 0 := y
      rw [w]
      exact ⟨x, by show v < ((c + 1 : Nat) : Int) - 1; omega⟩
    · rw [o, show DOp.push 0 most t.2.1 = DOp.begin 1 1 0 most t.2.1 from rfl, begin_eq m1 m2]
      show (t.2.1 : Int) = ((c + 1 : Nat) : Int) - 1
      have q : ((c : Nat) : Int) = ((c + 1 : Nat) : Int) - 1 := by omega
      exact (nb c t d1).trans q
    · have := ln q
      rw [m, td, e, puL_cons, if_pos k2] at this
      have this : (pv.length : Int) + 0 + ((puL ts : Int) + 1) = (puL td0 : Int) := this
      rw [w, e']
      show (pv.length : Int) + 1 + (puL ts : Int) = _; omega
    · rw [m, td, e, puL_cons, if_pos k2] at lq
      have lq : (pv.length : Int) + 0 + ((puL ts : Int) + 1) ≤ (puL td0 : Int) := lq
      rw [w, e']
      show (pv.length : Int) + 1 + (puL ts : Int) ≤ _; omega
  | pop w0 m t ts e e' k2 k1 w o op th sm h1 h2 =>
    rw [td] at e
    obtain ⟨d1, d2, d3⟩ := drop_cons e
    rw [m] at lt
    refine ⟨c + 1, pv, by rw [e']; exact d2, d3, by rw [k.taken, k.A, h2, ← h1]; exact pe, inc, fun v hv => ?_, kd, fun q => (by rw [w] at q; cases q), fun q => ?_, ?_⟩
    · obtain ⟨x, y⟩ := lt v hv
      have y : v < (c : Int) - 0 := y
      rw [w]
      exact ⟨x, by show v < ((c + 1 : Nat) : Int) - 0; omega⟩
    · have := ln q
      rw [m, td, e, puL_cons, if_neg k2] at this
      have this : (pv.length : Int) + 0 + ((puL ts : Int) + 0) = (puL td0 : Int) := this
      rw [w, e']
      show (pv.length : Int) + 0 + (puL ts : Int) = _; omega
    · rw [m, td, e, puL_cons, if_neg k2] at lq
      have lq : (pv.length : Int) + 0 + ((puL ts : Int) + 0) ≤ (puL td0 : Int) := lq
      rw [w, e']
      show (pv.length : Int) + 0 + (puL ts : Int) ≤ _; omega
  | fin w0 m t ts e e' k2 k1 w o th sm =>
    rw [td] at e
    obtain ⟨d1, d2, d3⟩ := drop_cons e
    rw [m] at lt
    refine ⟨c + 1, pv, by rw [e']; exact d2, d3, by rw [k.taken, k.A, o]; exact pe, inc, fun v hv => ?_, kd, fun q => (by rw [w] at q; cases q), fun q => ?_, ?_⟩
    · obtain ⟨x, y⟩ := lt v hv
      have y : v < (c : Int) - 0 := y
      rw [w]
      exact ⟨x, by show v < ((c + 1 : Nat) : Int) - 0; omega⟩
    · have := ln q
      rw [m, td, e, puL_cons, if_neg k2] at this
      have this : (pv.length : Int) + 0 + ((puL ts : Int) + 0) = (puL td0 : Int) := this
      rw [w, e']
      show (pv.length : Int) + 0 + (puL ts : Int) = _; omega
    · rw [m, td, e, puL_cons, if_neg k2] at lq
      have lq : (pv.length : Int) + 0 + ((puL ts : Int) + 0) ≤ (puL td0 : Int) := lq
      rw [w, e']
      show (pv.length : Int) + 0 + (puL ts : Int) ≤ _; omega
  | wake w0 m w o th sm td' => exact same o (by rw [w, m]; rfl) td' (fun q => by rw [w] at q; cases q)
  | rest w0 m sm th o w td' => exact same o (by rw [w]) td' (fun q => by rw [← w]; exact q)
  | steal w0 m sm th o w td' => exact same o (by rw [w]) td' (fun q => by rw [← w]; exact q)
theorem ValM.go {first N : Int} {P : Nat} {who : Nat} {nP nQ nF nW T L : Int} (C : CntM td0 most P s nP nQ nF nW T L) (I : PkI first most P s N) (r : PgoR first most P N s who s') : ValI td0 most s' := by
  obtain ⟨td, le, pe, inc, lt, kd, ow, ln, lq⟩ := h
  have same : KeepD s s' → s'.wm.pushN = s.wm.pushN → (s'.wm = .push → s.wm = .push) → ValI td0 most s' := fun k ew ep =>
    ⟨c, pv, by rw [k.todos]; exact td, le, by rw [k.taken, k.A, k.own]; exact pe, inc, by rw [ew]; exact lt, kd, fun q => by rw [k.own]; exact ow (ep q), by rw [ew, k.todos]; exact ln, by rw [ew, k.todos]; exact lq⟩
  have slp : KeepS s s' → ValI td0 most s' := fun k => same k.toKeepD (by rw [k.wm]) (fun q => by rw [← k.wm]; exact q)
  cases r with
  | on w m m' k => exact slp k
  | cnt w m m' k => exact slp k
  | ask w m m' k => exact slp k
  | look1 w j t j1 j2 m m' k => exact slp k
  | look2 w j t j1 j2 m tt m' k => exact slp k
  | park w m m' k => exact slp k
  | back w q m f m' k => exact slp k
  | fail w q m f m' k => exact slp k
  | less w q m m' k => exact slp k
  | wk w m m' k => exact same k.toKeepD (by rw [m', m]; split <;> rfl) (fun q => by rw [m'] at q; split at q <;> cases q)
  | wc w j j1 j2 m f m' k => exact same k.toKeepD (by rw [m', m]; rfl) (fun q => by rw [m'] at q; cases q)
  | wn w j j1 j2 m f m' k => exact same k.toKeepD (by rw [m', m]; split <;> rfl) (fun q => by rw [m'] at q; split at q <;> cases q)
  | wu w j m m' k => exact same k.toKeepD (by rw [m', m]; rfl) (fun q => by rw [m'] at q; cases q)
  | fs w m m' k => exact same k.toKeepD (by rw [m', m]; split <;> rfl) (fun q => by rw [m'] at q; split at q <;> cases q)
  | fc w j j1 j2 m f m' k => exact same k.toKeepD (by rw [m', m]; rfl) (fun q => by rw [m'] at q; cases q)
  | fn w j j1 j2 m f m' k => exact same k.toKeepD (by rw [m', m]; split <;> rfl) (fun q => by rw [m'] at q; split at q <;> cases q)
  | fu w j j1 j2 m m' k => exact same k.toKeepD (by rw [m', m]; split <;> rfl) (fun q => by rw [m'] at q; split at q <;> cases q)
  | steal w m x r k3 o th td' wm wk run off =>
    have mk : (vals s'.g.taken ++ hand s'.A.cs s.own ++ ctn s'.A.cs).Perm pv → ValI td0 most s' := fun pe' =>
      ⟨c, pv, by rw [td']; exact td, le, by rw [o]; exact pe', inc, by rw [wm]; exact lt, kd, fun q => by rw [o]; rw [wm] at q; exact ow q, by rw [wm, td']; exact ln, by rw [wm, td']; exact lq⟩
    have nt : x.pc = 0 → x.code ≠ 4 → s'.g.taken = s.g.taken := fun a b => by rw [(off a).2]; exact if_neg b
    cases r.eff with
    | same p cs => exact mk (by rw [(run p).2, cs]; exact pe)
    | empty k p co va cs => exact mk (by rw [nt p (by omega), cs]; exact pe)
    | lost k p co va cs => exact mk (by rw [nt p (by omega), cs]; exact pe)
    | look k => have := k3.1; omega
    | got k p co va t t' b' cc =>
      have tk : s'.g.taken = s.g.taken ++ [((who : Int), (x.value, ()))] := by rw [(off p).2]; exact if_pos co
      refine mk ?_
      rw [tk, vals_snoc]
      rcases cc with ⟨c1, c2⟩ | ⟨c1, c2, c3, c4⟩
      · rw [c2]
        rw [c1] at pe
        refine List.Perm.trans ?_ pe
        rw [List.append_assoc, List.append_assoc, List.append_assoc]
        refine List.Perm.append_left _ ?_
        show (x.value :: (hand s.A.cs s.own ++ ctn s'.A.cs)).Perm _
        exact List.perm_middle.symm
      · rw [c2, c4, List.append_nil, List.append_nil]
        rw [c1, c3, List.append_nil] at pe
        exact pe
  | own w m pc r af th td' sm wk run off =>
    obtain ⟨v, hv⟩ := af
    have vv : s'.own.v = s.own.v := by rw [hv]; exact (s.own.after_same v).2.2.2
    have nt : s'.own.pc = 0 → s'.own.code ≠ 4 → s'.g.taken = s.g.taken := fun a b => by rw [(off a).2]; exact if_neg b
    have mk : (vals s'.g.taken ++ hand s'.A.cs s'.own ++ ctn s'.A.cs).Perm pv → (s'.own.pc = 0 → s.own.kind = 2) → ValI td0 most s' := fun pe' hk => by
      by_cases z : s'.own.pc = 0
      · have k2 := hk z
        have m2 : s.wm = .pop := m.elim (fun q => by omega) (fun q => q.1)
        have e1 : s'.wm.pushN = 0 ∧ s'.wm ≠ .push := by rw [(off z).1]; split <;> exact ⟨rfl, by simp⟩
        rw [m2] at lt ln lq
        exact ⟨c, pv, by rw [td']; exact td, le, pe', inc, by rw [e1.1]; exact lt, kd, fun q => absurd q e1.2, by rw [e1.1, td']; exact ln, by rw [e1.1, td']; exact lq⟩
      · have e1 := (run z).1
        exact ⟨c, pv, by rw [td']; exact td, le, pe', inc, by rw [e1]; exact lt, kd, fun q => by rw [vv]; rw [e1] at q; exact ow q, by rw [e1, td']; exact ln, by rw [e1, td']; exact lq⟩
    cases r.eff with
    | same p c1 h1 => exact mk (by rw [(run p).2, h1, c1]; exact pe) (fun q => absurd q p)
    | push k p co va c1 h1 h2 t fb =>
      have mp : s.wm = .push := m.elim (fun q => q.1) (fun q => by omega)
      obtain ⟨o1, o2, o3⟩ := ow mp
      have e1 : s'.wm = .pend := by rw [(off p).1, if_pos co]
      rw [h1, List.append_nil] at pe
      rw [mp] at lt ln lq
      refine ⟨c, pv ++ [s.own.v], by rw [td']; exact td, le, ?_, ?_, fun x hx => ?_, fun x hx => ?_, fun q => (by rw [e1] at q; cases q), fun q => ?_, ?_⟩
      · rw [nt p (by omega), h2, List.append_nil, c1, ← List.append_assoc]
        exact List.Perm.append_right _ pe
      · rw [List.pairwise_append]
        refine ⟨inc, List.pairwise_singleton _ _, fun a ha b hb => ?_⟩
        rw [List.mem_singleton] at hb
        subst hb
        have := (lt a ha).2
        have this : a < (c : Int) - 1 := this
        omega
      · rw [e1]
        rcases List.mem_append.1 hx with q | q
        · obtain ⟨y1, y2⟩ := lt x q
          have y2 : x < (c : Int) - 1 := y2
          exact ⟨y1, by show x < (c : Int) - 0; omega⟩
        · rw [List.mem_singleton] at q
          subst q
          exact ⟨by omega, by show s.own.v < (c : Int) - 0; omega⟩
      · rcases List.mem_append.1 hx with q | q
        · exact kd x q
        · rw [List.mem_singleton] at q
          subst q
          rw [o1, show ((c : Int) - 1).toNat = c - 1 by omega]
          exact o3
      · have := ln q
        have this : (pv.length : Int) + 1 + (puL s.g.todos : Int) = (puL td0 : Int) := this
        rw [e1, td', List.length_append]
        show ((pv.length + 1 : Nat) : Int) + 0 + _ = _; omega
      · have lq : (pv.length : Int) + 1 + (puL s.g.todos : Int) ≤ (puL td0 : Int) := lq
        rw [e1, td', List.length_append]
        show ((pv.length + 1 : Nat) : Int) + 0 + _ ≤ _; omega
    | full k p co va c1 h1 h2 t fb fc bb t0 =>
      have mp : s.wm = .push := m.elim (fun q => q.1) (fun q => by omega)
      have e1 : s'.wm = .idle := by rw [(off p).1, if_neg (by omega)]
      rw [mp] at lt lq
      refine ⟨c, pv, by rw [td']; exact td, le, by rw [nt p (by omega), h2, c1, ← h1]; exact pe, inc, fun x hx => ?_, kd, fun q => (by rw [e1] at q; cases q), fun q => ?_, ?_⟩
      · obtain ⟨y1, y2⟩ := lt x hx
        have y2 : x < (c : Int) - 1 := y2
        rw [e1]
        exact ⟨y1, by show x < (c : Int) - 0; omega⟩
      · exfalso
        have a1 := C.am.a1
        have pu := C.pu
        rw [mp] at pu
        have pu : nP + 1 + (puL s.g.todos : Int) = (puL td0 : Int) := pu
        rw [Bl_up (low1 k)] at a1
        have mo := (I.mem.dv.mo pc).2
        omega
      · have lq : (pv.length : Int) + 1 + (puL s.g.todos : Int) ≤ (puL td0 : Int) := lq
        rw [e1, td']
        show (pv.length : Int) + 0 + _ ≤ _; omega
    | low k p h1 c1 =>
      refine mk ?_ (fun q => absurd q p)
      rw [(run p).2]
      rw [h1, List.append_nil, c1] at pe
      refine List.Perm.trans ?_ pe
      rw [List.append_assoc]
      exact List.Perm.append_left _ List.perm_append_comm
    | got k p co c1 h1 h2 =>
      have tk : s'.g.taken = s.g.taken ++ [(0, (s'.own.value, ()))] := by rw [(off p).2]; exact if_pos co
      refine mk ?_ (fun _ => k)
      rw [tk, vals_snoc, h2, c1, List.append_nil]
      rw [h1] at pe
      exact pe
    | empty k p co va c1 h1 h2 => exact mk (by rw [nt p (by omega), h2, c1, ← h1]; exact pe) (fun _ => k)
    | won k p c1 h1 => exact mk (by rw [(run p).2, h1, c1]; exact pe) (fun q => absurd q p)
end
theorem ValI.pick {td0 : List DTd} (nb : Numbd td0) {most : Int} {P : Nat} {s s' : PkS} (h : ValI td0 most s) (C : CntI td0 most P s) {first N : Int} {who : Nat} (I : PkI first most P s N) (r : PickR first most P N s who s') : ValI td0 most s' := by
  obtain ⟨c, pv, h⟩ := h
  obtain ⟨nP, nQ, nF, nW, T, L, C⟩ := C
  have m1 : 1 ≤ most := by have := I.mem.cap; unfold CapE at this; omega
  cases r with
  | none q e => subst e; exact ⟨c, pv, h.td, h.le, h.pe, h.inc, h.lt, h.kd, h.ow, h.ln, h.lq⟩
  | go s1 I1 k p a r =>
    obtain ⟨c', pv', h'⟩ := h.pre nb m1 I.mem.cap.2.2 k p
    exact h'.go (C.pre m1 I.mem.cap.2.2 k p) I1 r
theorem pk0_val {first most : Int} (hc : CapE first most) {P : Nat} (todos : List DTd) : ValI todos most (pk0 first most P todos) := by
  have D0 : DS most (cellsOf first most) 0 (alone0 first most) [] := DS.start hc _ rfl rfl
  refine ⟨0, [], rfl, Nat.zero_le _, ?_, List.Pairwise.nil, fun v hv => (by cases hv), fun v hv => (by cases hv), fun q => (by cases q), fun _ => ?_, ?_⟩
  · show ([] ++ hand (alone0 first most).cs DOp.zero ++ ctn (alone0 first most).cs).Perm []
    rw [handp (.inl rfl), D0.l]; exact List.Perm.refl _
  · show (0 : Int) + 0 + (puL todos : Int) = _; omega
  · show (0 : Int) + 0 + (puL todos : Int) ≤ _; omega
end Go.Mx
