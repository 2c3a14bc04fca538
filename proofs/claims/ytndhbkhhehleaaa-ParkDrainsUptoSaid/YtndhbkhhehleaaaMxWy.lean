/-
  A park play: what the sleepers do once worker 0 rests.
-/
import Derived.Test.YtndhbkhhehleaaaMxWx
import Derived.Test.YtndhbkhhehleaaaMxWu
set_option linter.unusedVariables false
set_option linter.unusedSimpArgs false
set_option linter.unusedSectionVars false
namespace Go.Mx

theorem ctn_len0 (cs : List Int) : (ctn cs).length = (gt cs 1 - gt cs 0).toNat := by unfold ctn; simp
theorem ctn_empty {cs : List Int} : ctn cs = [] ↔ gt cs 1 ≤ gt cs 0 := by
  refine ⟨fun h => ?_, ctn_nil⟩
  have := ctn_len0 cs
  rw [h] at this
  have : 0 = (gt cs 1 - gt cs 0).toNat := this
  omega
theorem stolen_t (o : DOp) (g : Int) (k : o.kind = 3) : (o.after g).t = if o.pc = 2 then g else o.t := by
  have e : o.after g = o.stolen g := by unfold DOp.after; rw [if_neg (by omega), if_neg (by omega), if_pos k]
  rw [e]
  unfold DOp.stolen
  by_cases p2 : o.pc = 2
  · rw [if_pos p2, if_pos p2]
  rw [if_neg p2, if_neg p2]
  exact pif (P := fun x : DOp => x.t = o.t) (fun _ => pif (P := fun x : DOp => x.t = o.t) (fun _ => rfl) fun _ => rfl) fun _ => pif (P := fun x : DOp => x.t = o.t) (fun _ => rfl) fun _ => pif (P := fun x : DOp => x.t = o.t) (fun _ => pif (P := fun x : DOp => x.t = o.t) (fun _ => rfl) fun _ => rfl) fun _ =>
    pif (P := fun x : DOp => x.t = o.t) (fun _ => rfl) fun _ => pif (P := fun x : DOp => x.t = o.t) (fun _ => pif (P := fun x : DOp => x.t = o.t) (fun _ => rfl) fun _ => rfl) fun _ => rfl
theorem th_next {cs : List Int} {own o : DOp} (h : ThS cs own o) (k : o.kind = 3) (v : Int) (p : (o.after v).pc ≠ 0) : (o.after v).pc ≠ 2 ∧ ((o.after v).pc = 1 → o.pc = 2) ∧ (o.pc = 2 → (o.after v).pc = 1) ∧ (o.pc = 1 → ¬ v ≤ o.t) := by
  cases h with
  | idle p' =>
    have e : o.after v = o := by simp [DOp.after, DOp.stolen, k, p']
    rw [e] at p; exact absurd p' p
  | st2 _ p' =>
    have e : o.after v = { o with t := v, pc := 1 } := by simp [DOp.after, DOp.stolen, k, p']
    rw [e]; simp [p']
  | st1 _ p' =>
    by_cases q : v ≤ o.t
    · have e : o.after v = DOp.over { o with b := v, pc := 3 } 5 0 := by simp [DOp.after, DOp.stolen, k, p', q]
      rw [e] at p; exact absurd rfl p
    · have e : o.after v = { o with b := v, pc := 3 } := by simp [DOp.after, DOp.stolen, k, p', q]
      rw [e]; simp [p', q]
  | st3 _ p' =>
    have e : o.after v = { o with a := v, pc := 4 } := by simp [DOp.after, DOp.stolen, k, p']
    rw [e]; simp [p']
  | st4 _ p' =>
    by_cases q : v < 1
    · have e : o.after v = DOp.over { o with c := v, pc := 12 } 1 0 := by simp [DOp.after, DOp.stolen, k, p', q]
      rw [e] at p; exact absurd rfl p
    · have e : o.after v = { o with c := v, pc := 12 } := by simp [DOp.after, DOp.stolen, k, p', q]
      rw [e]; simp [p']
  | st12 _ p' =>
    have e : o.after v = { o with x := v, pc := 13 } := by simp [DOp.after, DOp.stolen, k, p']
    rw [e]; simp [p']
  | st13 _ p' =>
    by_cases q : v = 1
    · have e : o.after v = o.over 4 o.x := by simp [DOp.after, DOp.stolen, k, p', q]
      rw [e] at p; exact absurd rfl p
    · have e : o.after v = o.over 6 0 := by simp [DOp.after, DOp.stolen, k, p', q]
      rw [e] at p; exact absurd rfl p
  | lk2 k' => omega
  | lk1 k' => omega
theorem SM.ended_on (b : Bool) : SM.ended b ≠ .on := by cases b <;> simp [SM.ended]
theorem PgoR.noon {first most : Int} {P : Nat} {N : Int} {s s' : PkS} {who : Nat} (r : PgoR first most P N s who s') (w : who ≠ 0) : s'.sm who ≠ .on := by
  cases r with
  | on _ m m2 => rw [m2, updN_at]; simp
  | cnt _ m m2 => rw [m2, updN_at]; simp
  | ask _ m m2 => rw [m2, updN_at]; split <;> simp
  | look1 _ j t j1 j2 m m2 => rw [m2, updN_at]; simp
  | look2 _ j t j1 j2 m tt m2 =>
    rw [m2, updN_at]
    split
    · simp
    · split <;> simp
  | park _ m m2 => rw [m2, updN_at]; split <;> simp
  | back _ q m f m2 => rw [m2, updN_at]; simp
  | fail _ q m f m2 => rw [m2, updN_at]; exact SM.ended_on q
  | less _ q m m2 => rw [m2, updN_at]; exact SM.ended_on q
  | steal _ m x rr k3 o th td wm wk run off =>
    by_cases e : x.pc = 0
    · rw [(off e).1, updN_at]; simp
    · rw [(run e).1, m]; simp
  | own x => exact absurd x w
  | wk x => exact absurd x w
  | wc x => exact absurd x w
  | wn x => exact absurd x w
  | wu x => exact absurd x w
  | fs x => exact absurd x w
  | fc x => exact absurd x w
  | fn x => exact absurd x w
  | fu x => exact absurd x w
def OnI (P : Nat) (s : PkS) : Prop := ∀ i, 1 ≤ i → i < P → s.sm i ≠ .on
theorem OnI.pick {P : Nat} {s s' : PkS} (h : OnI P s) {first most N : Int} {who : Nat} (r : PickR first most P N s who s') : OnI P s' := fun i a b => by
  cases r with
  | none q e => subst e; exact h i a b
  | go s1 I1 k p ac r =>
    by_cases w : who = 0
    · rw [r.modes.1 w]
      cases p with
      | on o t w' sm => rw [sm]; exact h i a b
      | push w0 m t ts td td' k2 w o op th sm => rw [sm]; exact h i a b
      | pop w0 m t ts td td' k2 k1 w o op th sm => rw [sm]; exact h i a b
      | fin w0 m t ts td td' k2 k1 w o th sm => rw [sm]; exact h i a b
      | wake w0 m w o th sm => rw [sm]; exact h i a b
      | rest w0 => exact absurd w w0
      | steal w0 => exact absurd w w0
    · by_cases z : i = who
      · subst z; exact r.noon w
      · obtain ⟨⟨m', em, _⟩, _⟩ := r.modes.2.1 w
        rw [em, updN_ne z]
        cases p with
        | on o t w' sm => rw [sm]; exact h i a b
        | push w0 => exact absurd w0 w
        | pop w0 => exact absurd w0 w
        | fin w0 => exact absurd w0 w
        | wake w0 => exact absurd w0 w
        | rest w0 m sm => rw [sm, updN_ne z]; exact h i a b
        | steal w0 m sm => rw [sm, updN_ne z]; exact h i a b
structure Cal (td0 : List DTd) (most : Int) (P : Nat) (s : PkS) : Prop where
  wm : s.wm = .idle
  td : s.g.todos = []
  dn : DNc s = 0
  fl : FlagI P s
  va : ValI td0 most s
  cn : CntI td0 most P s
  nt : ∀ i, 1 ≤ i → i < P → s.sm i ≠ .back true ∧ s.sm i ≠ .less true ∧ s.sm i ≠ .halt ∧ s.sm i ≠ .on
inductive SlR (P : Nat) (s : PkS) (w : Nat) (s' : PkS) : Prop
  | idle (m : s.sm w = .idle) (m' : s'.sm w = .cnt) (f : FLc s' (w : Int) = 1) (k : s'.A = s.A) (t : s'.g.taken = s.g.taken)
  | cnt (m : s.sm w = .cnt) (m' : s'.sm w = .ask) (f : FLc s' (w : Int) = FLc s (w : Int)) (k : s'.A = s.A) (t : s'.g.taken = s.g.taken)
  | ask (m : s.sm w = .ask) (m' : s'.sm w = .look 1 false 0) (f : FLc s' (w : Int) = FLc s (w : Int)) (k : s'.A = s.A) (t : s'.g.taken = s.g.taken)
  | look1 (j u : Int) (j1 : 1 ≤ j) (j2 : j < P) (m : s.sm w = .look j false u) (m' : s'.sm w = .look j true (topA s.A.cs (((w : Int) + j) % (P : Int)))) (f : FLc s' (w : Int) = FLc s (w : Int)) (k : s'.A = s.A) (t : s'.g.taken = s.g.taken)
  | look2 (j u : Int) (j1 : 1 ≤ j) (j2 : j < P) (m : s.sm w = .look j true u) (tt : u ≤ topA s.A.cs (((w : Int) + j) % (P : Int))) (m' : s'.sm w = if u < botA s.A.cs (((w : Int) + j) % (P : Int)) then .back false else if (P : Int) ≤ j + 1 then .park else .look (j + 1) false 0) (f : FLc s' (w : Int) = FLc s (w : Int)) (k : s'.A = s.A) (t : s'.g.taken = s.g.taken)
  | park (m : s.sm w = .park) (m' : s'.sm w = if FLc s (w : Int) = 1 then .park else .pend) (f : FLc s' (w : Int) = FLc s (w : Int)) (k : s'.A = s.A) (t : s'.g.taken = s.g.taken)
  | back (m : s.sm w = .back false) (m' : s'.sm w = if FLc s (w : Int) = 1 then .less false else .pend) (k : s'.A = s.A) (t : s'.g.taken = s.g.taken)
  | less (m : s.sm w = .less false) (m' : s'.sm w = .pend) (k : s'.A = s.A) (t : s'.g.taken = s.g.taken)
  | steal (o : DOp) (m : s.sm w = .steal ∧ o = s.th w ∨ s.sm w = .pend ∧ o.pc = 2) (k3 : o.kind = 3) (pc : o.pc ≠ 0) (v : Int) (h : ThS s.A.cs s.own o) (v2 : o.pc = 2 → v = gt s.A.cs 0) (v1 : o.pc = 1 → v = gt s.A.cs 1) (e : TEff s.A.cs s.own o s'.A.cs (o.after v)) (th : s'.th w = o.after v)
      (run : (o.after v).pc ≠ 0 → s'.sm w = .steal ∧ s'.g.taken = s.g.taken) (off : (o.after v).pc = 0 → s'.sm w = .idle ∧ s'.g.taken = took (w : Int) ((o.after v).code, (o.after v).value) s.g.taken) (f : FLc s' (w : Int) = FLc s (w : Int))
structure SlC (P : Nat) (s : PkS) (w : Nat) (s' : PkS) : Prop where
  sm : ∀ i, i ≠ w → s'.sm i = s.sm i
  th : ∀ i, i ≠ w → s'.th i = s.th i
  fl : ∀ i, i < P → i ≠ w → FLc s' (i : Int) = FLc s (i : Int)
  own : s'.own = s.own
section
variable {td0 : List DTd} {most : Int} {P : Nat} {s s' : PkS}
theorem Cal.own0 (C : Cal td0 most P s) {first N : Int} (I : PkI first most P s N) : s.own.pc = 0 := by
  have w0 := I.w0
  rw [C.wm] at w0
  exact w0.2.2
theorem Cal.pick (nb : Numbd td0) (C : Cal td0 most P s) {first N : Int} (I : PkI first most P s N) {w : Nat} (hw : w < P) (w0 : w ≠ 0) (r : PickR first most P N s w s') : Cal td0 most P s' ∧ SlC P s w s' ∧ SlR P s w s' := by
  have p1 := I.mem.p1
  have m1 : 1 ≤ most := by have := I.mem.cap; unfold CapE at this; omega
  have F' := C.fl.pick I hw r
  have V' := C.va.pick nb C.cn I r
  have N' := C.cn.pick I hw r
  obtain ⟨nt1, nt2, nt3, nt4⟩ := C.nt w (by omega) hw
  cases r with
  | none q e =>
    rcases q with ⟨q, _⟩ | ⟨_, q⟩
    · exact absurd q w0
    · exact absurd q nt3
  | go s1 I1 k p a r =>
    have dn1 : DNc s1 = 0 := by show gt _ _ = 0; rw [k.cs]; exact C.dn
    have fl1 : ∀ i, FLc s1 i = FLc s i := fun i => by show gt _ _ = _; rw [k.cs]
    obtain ⟨wm1, td1, oth, own1, thw⟩ : s1.wm = .idle ∧ s1.g.todos = [] ∧ (∀ i, i ≠ w → s1.sm i = s.sm i ∧ s1.th i = s.th i) ∧ s1.own = s.own ∧ ((s1.sm w = s.sm w ∧ s1.th w = s.th w) ∨ (s.sm w = .idle ∧ s1.sm w = .on) ∨ (s.sm w = .pend ∧ s1.sm w = .steal ∧ (s1.th w).pc = 2)) := by
      cases p with
      | on o t w' sm td' => exact ⟨w'.trans C.wm, td'.trans C.td, fun i _ => ⟨by rw [sm], by rw [t]⟩, o, .inl ⟨by rw [sm], by rw [t]⟩⟩
      | push x => exact absurd x w0
      | pop x => exact absurd x w0
      | fin x => exact absurd x w0
      | wake x => exact absurd x w0
      | rest x m sm th o w' td' => exact ⟨w'.trans C.wm, td'.trans C.td, fun i n => ⟨by rw [sm, updN_ne n], by rw [th]⟩, o, .inr (.inl ⟨m, by rw [sm, updN_at]⟩)⟩
      | steal x m sm th o w' td' => exact ⟨w'.trans C.wm, td'.trans C.td, fun i n => ⟨by rw [sm, updN_ne n], by rw [th, updN_ne n]⟩, o, .inr (.inr ⟨m, by rw [sm, updN_at], by rw [th, updN_at, show DOp.steal 0 most = DOp.begin 3 2 0 most 0 from rfl, begin_eq m1 I.mem.cap.2.2]⟩)⟩
    obtain ⟨_, mm2, mm3⟩ := r.modes
    obtain ⟨⟨m', em, _, eb, _⟩, ewm, _⟩ := mm2 w0
    have oth2 : ∀ i, i ≠ w → s'.sm i = s.sm i := fun i n => by rw [em, updN_ne n]; exact (oth i n).1
    have nb1 : s1.sm w ≠ .back true ∧ s1.sm w ≠ .less true := by
      rcases thw with ⟨x, _⟩ | ⟨_, x⟩ | ⟨_, x, _⟩
      · rw [x]; exact ⟨nt1, nt2⟩
      · rw [x]; simp
      · rw [x]; simp
    have nt' : ∀ i, 1 ≤ i → i < P → s'.sm i ≠ .back true ∧ s'.sm i ≠ .less true ∧ s'.sm i ≠ .halt ∧ s'.sm i ≠ .on := fun i a b => by
      by_cases z : i = w
      · subst z
        rw [em, updN_at]
        have : ∀ q : m' = .back true ∨ m' = .less true ∨ m' = .halt, False := fun q => by
          rcases eb q with y | y | y
          · omega
          · exact nb1.1 y
          · exact nb1.2 y
        exact ⟨fun q => this (.inl q), fun q => this (.inr (.inl q)), fun q => this (.inr (.inr q)), by have := r.noon w0; rw [em, updN_at] at this; exact this⟩
      · rw [oth2 i z]; exact C.nt i a b
    have pre : ∀ {m : SM}, s1.sm w = m → m ≠ .on → m ≠ .steal → s.sm w = m := fun {m} e n1 n2 => by
      rcases thw with ⟨x, _⟩ | ⟨_, x⟩ | ⟨_, x, _⟩
      · exact x.symm.trans e
      · exact absurd (e.symm.trans x) n1
      · exact absurd (e.symm.trans x) n2
    have lc : ∀ {c v : Int}, LotC P s1 s' c v → (∀ i : Nat, i < P → FLc s' (i : Int) = if 2 + (i : Int) = c then v else FLc s (i : Int)) ∧ (c ≠ 1 → DNc s' = 0) := fun {c v} q => ⟨fun i b => by
        have := q (2 + (i : Int)) (by omega) (by omega)
        rw [← fl1]; exact this, fun n => by
        have := q 1 (by omega) (by omega)
        rw [if_neg (by omega)] at this; exact this.trans dn1⟩
    have ls : LotS P s1 s' → (∀ i : Nat, i < P → FLc s' (i : Int) = FLc s (i : Int)) ∧ DNc s' = 0 := fun q => ⟨fun i b => by rw [← fl1]; exact q _ (by omega) (by omega), (q 1 (by omega) (by omega)).trans dn1⟩
    have cal : DNc s' = 0 → Cal td0 most P s' := fun d => ⟨ewm.trans wm1, mm3.trans td1, d, F', V', N', nt'⟩
    have kA : ∀ {x : PkS}, KeepS s1 x → x.A = s.A ∧ x.own = s.own ∧ x.g.taken = s.g.taken ∧ (∀ i, i ≠ w → x.th i = s.th i) := fun {x} q => ⟨q.A.trans k.A, q.own.trans own1, q.taken.trans k.taken, fun i n => by rw [q.th]; exact (oth i n).2⟩
    have at' : s'.sm w = m' := by rw [em, updN_at]
    cases r with
    | on _ m m2 k' c l =>
      obtain ⟨c1, c2⟩ := lc c
      obtain ⟨k1, k2, k3, k4⟩ := kA k'
      have ms : s.sm w = .idle := by
        rcases thw with ⟨x, _⟩ | ⟨x, _⟩ | ⟨_, x, _⟩
        · exact absurd (x.symm.trans m) nt4
        · exact x
        · rw [m] at x; cases x
      exact ⟨cal (c2 (by omega)), ⟨oth2, k4, fun i b n => by rw [c1 i b, if_neg (by omega)], k2⟩, .idle ms (by rw [m2, updN_at]) (by rw [c1 w hw, if_pos rfl]) k1 k3⟩
    | cnt _ m m2 k' c l =>
      obtain ⟨c1, c2⟩ := lc c
      obtain ⟨k1, k2, k3, k4⟩ := kA k'
      exact ⟨cal (c2 (by omega)), ⟨oth2, k4, fun i b n => by rw [c1 i b, if_neg (by omega)], k2⟩, .cnt (pre m (by simp) (by simp)) (by rw [m2, updN_at]) (by rw [c1 w hw, if_neg (by omega)]) k1 k3⟩
    | ask _ m m2 k' c l =>
      obtain ⟨c1, c2⟩ := ls c
      obtain ⟨k1, k2, k3, k4⟩ := kA k'
      rw [if_neg (by omega)] at m2
      exact ⟨cal c2, ⟨oth2, k4, fun i b n => c1 i b, k2⟩, .ask (pre m (by simp) (by simp)) (by rw [m2, updN_at]) (c1 w hw) k1 k3⟩
    | look1 _ j u j1 j2 m m2 k' c l =>
      obtain ⟨c1, c2⟩ := ls c
      obtain ⟨k1, k2, k3, k4⟩ := kA k'
      rw [k.A] at m2
      exact ⟨cal c2, ⟨oth2, k4, fun i b n => c1 i b, k2⟩, .look1 j u j1 j2 (pre m (by simp) (by simp)) (by rw [m2, updN_at]) (c1 w hw) k1 k3⟩
    | look2 _ j u j1 j2 m tt m2 k' c l =>
      obtain ⟨c1, c2⟩ := ls c
      obtain ⟨k1, k2, k3, k4⟩ := kA k'
      rw [k.A] at m2 tt
      exact ⟨cal c2, ⟨oth2, k4, fun i b n => c1 i b, k2⟩, .look2 j u j1 j2 (pre m (by simp) (by simp)) tt (by rw [m2, updN_at]) (c1 w hw) k1 k3⟩
    | park _ m m2 k' c l =>
      obtain ⟨c1, c2⟩ := ls c
      obtain ⟨k1, k2, k3, k4⟩ := kA k'
      rw [fl1] at m2
      exact ⟨cal c2, ⟨oth2, k4, fun i b n => c1 i b, k2⟩, .park (pre m (by simp) (by simp)) (by rw [m2, updN_at]) (c1 w hw) k1 k3⟩
    | back _ q m f m2 k' c l =>
      obtain ⟨c1, c2⟩ := lc c
      obtain ⟨k1, k2, k3, k4⟩ := kA k'
      rw [fl1] at f
      have q0 : q = false := Bool.eq_false_iff.2 fun z => (by subst z; exact absurd m nb1.1)
      subst q0
      exact ⟨cal (c2 (by omega)), ⟨oth2, k4, fun i b n => by rw [c1 i b, if_neg (by omega)], k2⟩, .back (pre m (by simp) (by simp)) (by rw [m2, updN_at, if_pos f]) k1 k3⟩
    | fail _ q m f m2 k' c l =>
      obtain ⟨c1, c2⟩ := ls c
      obtain ⟨k1, k2, k3, k4⟩ := kA k'
      rw [fl1] at f
      have q0 : q = false := Bool.eq_false_iff.2 fun z => (by subst z; exact absurd m nb1.1)
      subst q0
      exact ⟨cal c2, ⟨oth2, k4, fun i b n => c1 i b, k2⟩, .back (pre m (by simp) (by simp)) (by rw [m2, updN_at, if_neg f]; rfl) k1 k3⟩
    | less _ q m m2 k' c l =>
      obtain ⟨c1, c2⟩ := lc c
      obtain ⟨k1, k2, k3, k4⟩ := kA k'
      have q0 : q = false := Bool.eq_false_iff.2 fun z => (by subst z; exact absurd m nb1.2)
      subst q0
      exact ⟨cal (c2 (by omega)), ⟨oth2, k4, fun i b n => by rw [c1 i b, if_neg (by omega)], k2⟩, .less (pre m (by simp) (by simp)) (by rw [m2, updN_at]; rfl) k1 k3⟩
    | steal _ m x rr k3 o th td wm wk run off c l =>
      obtain ⟨c1, c2⟩ := ls c
      obtain ⟨k31, v, hv, v2, v1⟩ := k3
      subst hv
      have T := (I1.th w (by omega) hw).ths
      have pc1 : (s1.th w).pc ≠ 0 := by
        have := I1.sl w (by omega) hw
        rw [m] at this
        exact this.2.2.2.1
      rw [k.A] at v2 v1 T
      rw [own1] at T
      have eff := rr.eff
      rw [k.A, own1] at eff
      refine ⟨cal c2, ⟨oth2, fun i n => by rw [th, updN_ne n]; exact (oth i n).2, fun i b n => c1 i b, o.trans own1⟩, .steal (s1.th w) ?_ k31 pc1 v T v2 v1 eff (by rw [th, updN_at]) (fun q => ⟨?_, (run q).2.trans k.taken⟩) (fun q => ⟨by rw [(off q).1, updN_at], by rw [(off q).2, k.taken]⟩) (c1 w hw)⟩
      · rcases thw with ⟨y, z⟩ | ⟨_, y⟩ | ⟨y, _, z⟩
        · exact .inl ⟨y.symm.trans m, z⟩
        · rw [m] at y; cases y
        · exact .inr ⟨y, z⟩
      · rw [(run q).1]; exact m
    | own x => exact absurd x w0
    | wk x => exact absurd x w0
    | wc x => exact absurd x w0
    | wn x => exact absurd x w0
    | wu x => exact absurd x w0
    | fs x => exact absurd x w0
    | fc x => exact absurd x w0
    | fn x => exact absurd x w0
    | fu x => exact absurd x w0
end
end Go.Mx
