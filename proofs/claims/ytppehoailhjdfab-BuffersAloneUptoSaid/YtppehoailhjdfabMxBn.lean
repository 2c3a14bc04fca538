/-
  The law BuffersAlone.
-/
import Derived.Test.YtppehoailhjdfabMxBm
set_option linter.unusedVariables false
set_option linter.unusedSimpArgs false
set_option linter.unusedSectionVars false
namespace Go.Mx

def altE (sz : Int) : List Int → List AMv → List Eff
  | _, [] => []
  | cs, t :: ts => if t.2.1 = 5 then ef 0 0 :: altE sz cs ts else (cact sz cs t).2 :: altE sz (cact sz cs t).1 ts
def esC (sz : Int) : List Int → List AMv → List Eff
  | _, [] => []
  | cs, t :: ts => (cact sz cs t).2 :: esC sz (cact sz cs t).1 ts
theorem alt_E (sz : Int) : ∀ (ts : List AMv) (cs : List Int) (es : List Eff), (ts.foldl (altS sz) (cs, es)).2 = es ++ altE sz cs ts
  | [], cs, es => by simp [altE]
  | t :: ts, cs, es => by
    rw [List.foldl_cons, altE]
    unfold altS
    by_cases q : t.2.1 = 5
    · rw [if_pos q, if_pos q]
      have := alt_E sz ts cs (es ++ [ef 0 0])
      unfold altS at this
      rw [this, List.append_assoc]; rfl
    · rw [if_neg q, if_neg q]
      have := alt_E sz ts (cact sz cs t).1 (es ++ [(cact sz cs t).2])
      unfold altS at this
      rw [this, List.append_assoc]; rfl
theorem crun_E (sz : Int) : ∀ (ts : List AMv) (s : CA), (CA.run sz s ts).es = s.es ++ esC sz s.cs ts
  | [], s => by simp [esC, CA.run]
  | t :: ts, s => by
    have := crun_E sz ts (CA.step sz s t)
    show (CA.run sz (CA.step sz s t) ts).es = _
    rw [this, esC]
    unfold CA.step
    rw [List.append_assoc]; rfl
def opn (n : Int) (ts : List AMv) : List AMv := (if 0 < n then [(0, (4, (0, (n, (0, ())))))] else []) ++ ts
def UnfC (c : Sl → Heap → (Sl → Heap → Prop) → Prop) : Prop := ∀ {s : Sl} {h : Heap} {ts : List AMv} {Q : Sl → Heap → Prop}, Arr h KMv s ts → ts.length ≤ 1000000 → (∀ t h', New h h' KMv t (unf ts) → Q t h') → c s h Q
def OpnC (c : Int → Sl → Heap → (Sl → Heap → Prop) → Prop) : Prop := ∀ {n : Int} {s : Sl} {h : Heap} {ts : List AMv} {Q : Sl → Heap → Prop}, Arr h KMv s ts → ts.length ≤ 1000000 → (∀ t h', New h h' KMv t (opn n ts) → Q t h') → c n s h Q
theorem unf_spec : UnfC law21_unfenced.M := by
  intro s h ts Q ha hn hQ
  have hl := ha.1
  refine Loop.up ts.length (fun s => s.2.1) (fun i s g => New h g KMv s.1 (unf (ts.take i))) rfl (New.nil h KMv) ?_
  rintro i ⟨m, i', u⟩ g go hi hc n hgo
  dsimp only at hc n; subst hc
  have nl := n.len
  have ul : (unf (ts.take i)).length ≤ ts.length := Nat.le_trans (List.length_filter_le ..) (List.length_take_le' ..)
  have next : w64 ((i : Int) + 1) = ((i + 1 : Nat) : Int) := by rw [w64_of] <;> omega
  refine ⟨fun e => ?_, fun e => ?_⟩
  · have e : (i : Int) < (s.len : Int) := of_decide_eq_true e
    have hlt : i < ts.length := by omega
    have hb : 0 ≤ (i : Int) ∧ (i : Int) < (s.len : Int) := ⟨by omega, e⟩
    have hx : ts[i]? = some ts[i] := by simp [hlt]
    have sn : unf (ts.take (i + 1)) = unf (ts.take i) ++ (if ts[i].2.1 ≠ 5 then [ts[i]] else []) := by
      unfold unf
      rw [take_succ' ts hlt, List.filter_append, List.filter_cons, List.filter_nil]
      congr 1
      by_cases q : ts[i].2.1 = 5
      · simp [q]
      · simp [q]
    generalize ts[i] = x at hx sn
    obtain ⟨a, an, ac⟩ := s
    cases a with
    | none => obtain ⟨a, e⟩ := ha.addr (by dsimp only at e ⊢; omega); cases e
    | some a =>
    obtain ⟨x1, x2, x3⟩ := x
    refine ⟨hb, (ha.le n.le).ldPart (i := i) (kp := ki) (y := x2) rfl hx ⟨[_], _, rfl, rfl⟩ rfl ⟨fun d => ?_, fun d => ?_⟩⟩
    · have d : x2 ≠ 5 := of_decide_eq_true d
      refine ⟨hb, (ha.le n.le).ldAt (i := i) rfl hx rfl ?_⟩
      refine n.app3 rfl rfl (by omega) fun t h2 n2 x2' b2 => hgo hlt _ _ next ?_
      rw [sn, if_pos d]; exact n2
    · have d : ¬ x2 ≠ 5 := of_decide_eq_false d
      refine hgo hlt _ _ next ?_
      rw [sn, if_neg d, List.append_nil]; exact n
  · have e : ¬ (i : Int) < (s.len : Int) := of_decide_eq_false e
    rw [List.take_of_length_le (by omega)] at n
    exact hQ _ _ n
theorem opn_spec : OpnC law21_opened.M := by
  intro n s h ts Q ha hn hQ
  have hl := ha.1
  have main : ∀ {pre : List AMv} {m : Sl} {g0 : Heap}, New h g0 KMv m pre → pre.length ≤ 1 → opn n ts = pre ++ ts → law21_opened.j2 s Q (m, ()) g0 := by
    intro pre m g0 n0 hp ho
    refine Loop.up ts.length (fun s => s.2.1) (fun i s g => New h g KMv s.1 (pre ++ ts.take i)) rfl (by rw [List.take_zero, List.append_nil]; exact n0) ?_
    rintro i ⟨m, i', u⟩ g go hi hc n hgo
    dsimp only at hc n; subst hc
    have nl := n.len
    rw [List.length_append] at nl
    have tl := List.length_take_le i ts
    have next : w64 ((i : Int) + 1) = ((i + 1 : Nat) : Int) := by rw [w64_of] <;> omega
    refine ⟨fun e => ?_, fun e => ?_⟩
    · have e : (i : Int) < (s.len : Int) := of_decide_eq_true e
      have hlt : i < ts.length := by omega
      have hb : 0 ≤ (i : Int) ∧ (i : Int) < (s.len : Int) := ⟨by omega, e⟩
      refine ⟨hb, (ha.le n.le).at (i := (i : Int)) (by omega) e rfl fun x hx => ?_⟩
      rw [Int.toNat_natCast] at hx
      obtain rfl : ts[i] = x := by simpa [hlt] using hx
      refine n.app3 rfl rfl (by omega) fun t h2 n2 x2' b2 => hgo hlt _ _ next ?_
      rw [take_succ' ts hlt, ← List.append_assoc]; exact n2
    · have e : ¬ (i : Int) < (s.len : Int) := of_decide_eq_false e
      rw [List.take_of_length_le (by omega), ← ho] at n
      exact hQ _ _ n
  refine ⟨fun e => ?_, fun e => ?_⟩
  · have e : 0 < n := of_decide_eq_true e
    refine (New.nil h KMv).app3 (x := ((0, (4, (0, (n, (0, ()))))) : AMv)) rfl rfl (by show (0 + 1) * 40 ≤ _; omega) fun t h2 n2 x2 b2 => main n2 (Nat.le_refl _) (by unfold opn; rw [if_pos e]; rfl)
  · have e : ¬ 0 < n := of_decide_eq_false e
    exact main (New.nil h KMv) (Nat.zero_le _) (by unfold opn; rw [if_neg e])
theorem altE_len (sz : Int) : ∀ (ts : List AMv) (cs : List Int), (altE sz cs ts).length = ts.length
  | [], _ => rfl
  | t :: ts, cs => by
    rw [altE]
    split <;> rw [List.length_cons, altE_len sz ts, List.length_cons]
theorem esC_len (sz : Int) : ∀ (ts : List AMv) (cs : List Int), (esC sz cs ts).length = ts.length
  | [], _ => rfl
  | t :: ts, cs => by rw [esC, List.length_cons, esC_len sz ts, List.length_cons]
theorem unf_len (ts : List AMv) : (unf ts).length ≤ ts.length := List.length_filter_le ..
theorem opn_es {sz u : Int} (h0 : 0 ≤ u) (h1 : u ≤ sz) (ts : List AMv) : (CA.run sz ⟨[], [], []⟩ (opn u ts)).es = (if 0 < u then [ef 0 0] else []) ++ esC sz (List.replicate u.toNat 0) ts := by
  rw [crun_E]
  unfold opn
  by_cases q : 0 < u
  · rw [if_pos q, if_pos q]
    show [] ++ esC sz [] ((0, (4, (0, (u, (0, ()))))) :: ts) = _
    rw [esC]
    have : cact sz [] (0, (4, (0, (u, (0, ()))))) = (List.replicate u.toNat 0, ef 0 0) := by
      unfold cact
      dsimp only
      rw [if_neg (by decide), if_neg (by decide), if_neg (by decide), if_neg (by decide), if_pos rfl, if_neg (show ¬ u < 1 by omega), if_neg (show ¬ sz - ((([] : List Int).length : Nat) : Int) < u by rw [List.length_nil]; omega)]
      rfl
    rw [this]; rfl
  · rw [if_neg q, if_neg q]
    obtain rfl : u = 0 := by omega
    rfl


section
variable {cb : Int → Int → Int → Heap → ((Int × Wait) → Heap → Prop) → Prop} {cp : Int → Int → Int → Sl → Sl → Heap → ((Den KRun × (Int × Unit)) → Heap → Prop) → Prop} {cm : Int → Int → Heap → (Int → Heap → Prop) → Prop} {cu : Sl → Heap → (Sl → Heap → Prop) → Prop} {co : Int → Sl → Heap → (Sl → Heap → Prop) → Prop} {cc : Int → Sl → Heap → ((Den KCr × (Int × Unit)) → Heap → Prop) → Prop}
  (iM : ModC cm) (iU : UnfC cu) (iO : OpnC co) (iC : CPlayC cc)
include iU iO iC
theorem alone_end {hR : Heap} {X : List AMv} {F : List Eff} {sl esl : Sl} {size u w3 : Int} {r : Den KRun} {e : Int} {els : List Sl} {n : Nat} (hX : Arr hR KMv sl X) (hX4 : X.length ≤ 1000) (he : Arr hR .sl r.1 els) (he0 : els[0]? = some esl) (hF : Arr hR KEf esl F) (hn : F.length = n) (hnX : n ≤ X.length) (hu : 0 ≤ u) (hus : u ≤ size) (hsz : size ≤ 1048576)
    (hFE : F = altE size (List.replicate u.toNat 0) (X.take n)) {u1 u2 : Unit} {Q : Bool → Heap → Prop} (hQ : ∀ h', Go.Mx.le hR h' → Q true h') : law21_BuffersAlone.j5 cu co cc Q (size, (u, (w3, u1))) (sl, u2) (r, (e, ())) ((n : Int), ()) hR := by
  have hxl := hX.1
  have hxc := hX.2.1
  have hel := he.1
  have h0l := (List.getElem?_eq_some_iff.1 he0).1
  have hfl := hF.1
  have hb0 : 0 ≤ (0 : Int) ∧ (0 : Int) < (r.1.len : Int) := ⟨Int.le_refl _, by omega⟩
  have hbn : 0 ≤ (n : Int) ∧ (n : Int) ≤ (sl.cap : Int) := ⟨by omega, by omega⟩
  have pre : ∀ {g : Heap}, Go.Mx.le hR g → Arr g KMv (sl.cut 0 n 5) (X.take n) := fun l => (hX.le l).pre (by omega)
  refine ⟨hb0, he.at (i := 0) (by omega) hb0.2 rfl fun a ha => ?_⟩
  have ha : els[0]? = some a := ha
  rw [he0] at ha; cases ha
  refine ⟨fun d => absurd (of_decide_eq_true d) (by dsimp only; omega), fun _ => ⟨hbn, iU (pre (.refl _)) (by rw [List.length_take]; omega) fun t h1 n1 => ?_⟩⟩
  have ul := unf_len (X.take n)
  rw [List.length_take] at ul
  refine iO n1.arr (by omega) fun t2 h2 n2 => ?_
  have n2 : New h1 h2 KMv t2 (opn u (unf (X.take n))) := n2
  have ol : (opn u (unf (X.take n))).length ≤ 1001 := by
    unfold opn
    rw [List.length_append]
    split <;> simp <;> omega
  refine iC n2.arr (by omega) hsz (by omega) fun rc h3 a1 _ _ => ⟨fun d => (by cases d), fun _ => ?_⟩
  have a1 : New h2 h3 KEf rc.1 (CA.run size ⟨[], [], []⟩ (opn u (unf (X.take n)))).es := a1
  have ces := opn_es hu hus (unf (X.take n))
  have e1 := a1.len
  have e2 := n2.len
  have e3 := n1.len
  have clen : (CA.run size ⟨[], [], []⟩ (opn u (unf (X.take n)))).es.length = (opn u (unf (X.take n))).length := by
    rw [crun_E, List.length_append, esC_len]; simp
  have l3 : Go.Mx.le hR h3 := (n1.le.trans n2.le).trans a1.le
  refine ⟨fun d => absurd (of_decide_eq_true d) (by dsimp only; omega), fun _ => ⟨hbn, iU (pre l3) (by rw [List.length_take]; omega) fun t4 h4 n4 => ?_⟩⟩
  have e4 := n4.len
  have olen : (opn u (unf (X.take n))).length = (if 0 < u then 1 else 0) + (unf (X.take n)).length := by
    unfold opn
    rw [List.length_append]
    split <;> rfl
  have hst : w64 ((t2.len : Int) - (t4.len : Int)) = (((if 0 < u then 1 else 0 : Nat)) : Int) := by
    rw [← e2, ← e4, olen, w64_of] <;> omega
  show Loop _ (w64 ((t2.len : Int) - (t4.len : Int)), 0, ()) h4
  rw [hst]
  rw [ces] at a1 clen e1
  have l4 := l3.trans n4.le
  obtain ⟨⟨ra, rn, rcp⟩, rest⟩ := r
  dsimp only at he hel hb0
  refine Loop.up n (fun s => s.2.1) (fun i s g => g = h4 ∧ ∃ at' : Nat, s.1 = (at' : Int) ∧ ∃ cs, F.drop i = altE size cs ((X.take n).drop i) ∧ ((if 0 < u then [ef 0 0] else []) ++ esC size (List.replicate u.toNat 0) (unf (X.take n))).drop at' = esC size cs (unf ((X.take n).drop i))) rfl ⟨rfl, _, rfl, _, hFE, ?_⟩ ?_
  · split <;> rfl
  rintro i ⟨at', i', u3⟩ g go hi hc ⟨rfl, k, hk, cs, hf, hp⟩ hgo
  dsimp only at hc hk; subst hc; subst hk
  refine ⟨fun d => ?_, fun _ => hQ g l4⟩
  have d : (i : Int) < (n : Int) := of_decide_eq_true d
  have hin : i < n := by omega
  have next : w64 ((i : Int) + 1) = ((i + 1 : Nat) : Int) := by rw [w64_of] <;> omega
  have hFi : F[i]? = some (F[i]'(by omega)) := by simp
  have hXi : X[i]? = some (X[i]'(by omega)) := by simp
  have hFd : F.drop i = F[i]'(by omega) :: F.drop (i + 1) := List.drop_eq_getElem_cons (by omega)
  have hXd : (X.take n).drop i = X[i]'(by omega) :: (X.take n).drop (i + 1) := by
    rw [List.drop_eq_getElem_cons (by rw [List.length_take]; omega), List.getElem_take]
  rw [hFd, hXd, altE] at hf
  rw [hXd] at hp
  generalize F[i]'(by omega) = f at hFi hf
  generalize X[i]'(by omega) = x at hXi hf hp
  have hbf : 0 ≤ (i : Int) ∧ (i : Int) < (esl.len : Int) := ⟨by omega, by omega⟩
  have hbx : 0 ≤ (i : Int) ∧ (i : Int) < (sl.len : Int) := ⟨by omega, by omega⟩
  cases ra with
  | none => obtain ⟨a, e⟩ := he.addr (by dsimp only; omega); cases e
  | some ra =>
  obtain ⟨ea, en, ec⟩ := esl
  cases ea with
  | none => obtain ⟨a, e⟩ := hF.addr (by dsimp only at hbf ⊢; omega); cases e
  | some ea =>
  obtain ⟨sa, sn, sc⟩ := sl
  cases sa with
  | none => obtain ⟨a, e⟩ := hX.addr (by dsimp only at hbx ⊢; omega); cases e
  | some sa =>
  obtain ⟨x1, x2, x3⟩ := x
  refine ⟨hb0, (he.le l4).ldAt (i := 0) rfl he0 rfl ⟨hbf, (hF.le l4).ldAt (i := i) rfl hFi rfl ⟨hbx, (hX.le l4).ldPart (i := i) (kp := ki) (y := x2) rfl hXi ⟨[_], _, rfl, rfl⟩ rfl ⟨fun z => ?_, fun z => ?_⟩⟩⟩⟩
  · have z : x2 = 5 := of_decide_eq_true z
    rw [if_pos z] at hf
    obtain ⟨rfl, hf2⟩ := List.cons.inj hf
    refine ⟨fun y => ?_, fun _ => hgo hin _ _ next ⟨rfl, k, rfl, cs, hf2, ?_⟩⟩
    · have : eqK kapiEffect (ef 0 0) (0, (true, (0, ()))) = true := eqK_refl KEf (ef 0 0) rfl
      have y : (!(eqK kapiEffect (ef 0 0) (0, (true, (0, ()))))) = true := y
      rw [this] at y; cases y
    · rw [hp]
      unfold unf
      rw [List.filter_cons, if_neg (by simp [z])]
  · have z : ¬ x2 = 5 := of_decide_eq_false z
    rw [if_neg z] at hf
    obtain ⟨hf1, hf2⟩ := List.cons.inj hf
    have hu1 : unf ((x1, x2, x3) :: (X.take n).drop (i + 1)) = (x1, x2, x3) :: unf ((X.take n).drop (i + 1)) := by
      unfold unf
      rw [List.filter_cons, if_pos (by simp [z])]
    rw [hu1, esC] at hp
    have hk : k < ((if 0 < u then [ef 0 0] else []) ++ esC size (List.replicate u.toNat 0) (unf (X.take n))).length := by
      refine Nat.lt_of_not_le fun q => ?_
      rw [List.drop_of_length_le q] at hp
      cases hp
    rw [List.drop_eq_getElem_cons hk] at hp
    obtain ⟨hp1, hp2⟩ := List.cons.inj hp
    have hbp : 0 ≤ (k : Int) ∧ (k : Int) < (rc.1.len : Int) := ⟨by omega, by omega⟩
    refine ⟨hbp, (a1.arr.le n4.le).at (i := (k : Int)) (by omega) hbp.2 rfl fun y hy => ?_⟩
    rw [Int.toNat_natCast] at hy
    have hy : _ = y := (List.getElem?_eq_some_iff.1 hy).2
    rw [hp1] at hy
    refine ⟨fun c => ?_, fun _ => hgo hin _ _ next ⟨rfl, k + 1, by show w64 ((k : Int) + 1) = _; rw [w64_of] <;> omega, _, hf2, hp2⟩⟩
    have : eqK kapiEffect f y = true := by rw [hf1, hy]; exact eqK_refl KEf _ rfl
    have c : (!(eqK kapiEffect f y)) = true := c
    rw [this] at c; cases c
end

theorem run_mono {ls : List (List AMv)} (k : Nat) : ∀ (ps : List Int) {s : PB} {L : Nat}, s.Ok ls L → (s.e.getD k []).length ≤ ((PB.run ls s ps).e.getD k []).length
  | [], _, _, _ => Nat.le_refl _
  | x :: ps, s, L, ok => by
    refine Nat.le_trans ?_ (run_mono k ps (ok.step x))
    rw [step_len ok rfl k]
    split <;> omega
theorem alone_spec {cb cp cm cu co cc} (iB : BoundC cb) (iP : PlayC cp) (iM : ModC cm) (iU : UnfC cu) (iO : OpnC co) (iC : CPlayC cc) {size used room : Int} {list picks : Sl} {h : Heap} {X0 : List AMv} {ps : List Int} (hl : Arr h KMv list X0) (hp : Arr h ki picks ps) {Q : Bool → Heap → Prop} (hQ : ∀ h', Go.Mx.le h h' → Q true h') :
    law21_BuffersAlone.M cb cp cm cu co cc size used room list picks h Q := by
  refine iB ?_
  have main : ∀ sl X pk qs, Arr h KMv sl X → X.length ≤ 1000 → Arr h ki pk qs → qs.length ≤ 1048576 → law21_BuffersAlone.j12 cp cm cu co cc Q (used % 17 + size % 9, (used % 17, (1 + room % 64, ()))) (sl, ()) (pk, ()) h := by
    intro sl X pk qs hX hX4 hq hqn
    refine New.lit (k := .sl) fun p h1 n1 => ?_
    have h2a : Arr2 h1 KMv ⟨some p, 1, 1⟩ [X] := ⟨[sl], n1.arr, rfl, fun i s xs e1 e2 => by
      have e1 := List.mem_of_getElem? e1
      have e2 := List.mem_of_getElem? e2
      obtain rfl : s = sl := by simpa using e1
      obtain rfl : xs = X := by simpa using e2
      exact hX.le n1.le⟩
    have hj : judgedP (used % 17 + size % 9) (used % 17) (1 + room % 64) [X] qs.length = 0 := by
      unfold judgedP
      rw [if_neg (by omega), if_neg (by rw [List.length_singleton]; omega), if_neg (by omega), if_neg]
      intro q
      obtain ⟨l, h1, h2⟩ := List.any_eq_true.1 q
      obtain rfl : l = X := by simpa using h1
      have h2 : 4096 < l.length := of_decide_eq_true h2
      omega
    refine iP h2a (hq.le n1.le) (fun q => absurd hj q) fun _ r h2 els wls R => ⟨fun q => (by cases q), fun _ => ?_⟩
    obtain ⟨s0, hs0⟩ : ∃ s0, s0 = PB.start 1 (1 + room % 64).toNat (used % 17 + size % 9) (used % 17).toNat := ⟨_, rfl⟩
    have R : RunR h1 h2 r 1 (PB.run [X] s0 qs) els wls (PB.done [X] (PB.run [X] s0 qs) 1) := by rw [hs0]; exact R
    have ok0 : s0.Ok [X] 0 := by rw [hs0]; exact PB.start_ok (ls := [X]) (n := 1) (rm := (1 + room % 64).toNat) (u := (used % 17).toNat) (sz := used % 17 + size % 9) rfl (by decide) (by omega) (by omega) (by omega) (by omega)
    have okE := ok0.run qs
    have alo : AloI (List.replicate (used % 17).toNat 0) X s0 := by
      unfold AloI
      rw [hs0]
      rfl
    have aloE := alo.run qs ok0
    have e1 := R.e.out.len
    have e2 := R.e.len
    have hel := okE.el
    rw [List.length_singleton] at hel
    have hsz : (PB.run [X] s0 qs).m.sz = used % 17 + size % 9 := by
      have : ∀ (ps : List Int) (s : PB), (PB.run [X] s ps).m.sz = s.m.sz := by
        intro ps
        induction ps with
        | nil => intro s; rfl
        | cons x ps ih =>
          intro s
          refine (ih (PB.step [X] s x)).trans ?_
          unfold PB.step
          dsimp only
          split
          · exact (BM.flush_same _ _).2.2.1
          · split
            · exact (BM.act_n _ _ _).2.2.1
            · rfl
      rw [this, hs0]; rfl
    show law21_BuffersAlone.j11 cm cu co cc Q _ (sl, ()) (pk, ()) (r, (0, ())) (decide ((r.1.len : Int) ≠ 1), ()) h2
    rw [decide_eq_false (show ¬ ((r.1.len : Int) ≠ 1) by omega)]
    refine ⟨fun e => (by cases e), fun _ => ?_⟩
    have l02 := n1.le.trans R.e.le
    have hxl := hX.1
    have hql := hq.1
    have er := okE.er 0
    have er : ((PB.run [X] s0 qs).e.getD 0 []).length ≤ X.length := er
    have fin : ∀ n : Nat, n = ((PB.run [X] s0 qs).e.getD 0 []).length → law21_BuffersAlone.j5 cu co cc Q (used % 17 + size % 9, (used % 17, (1 + room % 64, ()))) (sl, ()) (r, (0, ())) ((n : Int), ()) h2 := by
      intro n hn
      have hsi : (PB.run [X] s0 qs).e[0]? = some ((PB.run [X] s0 qs).e.getD 0 []) := by
        rw [List.getD_eq_getElem?_getD]
        cases q : (PB.run [X] s0 qs).e[0]? with
        | none => exact absurd (List.getElem?_eq_none_iff.1 q) (by omega)
        | some x => rfl
      have hei : els[0]? = some (els[0]'(by omega)) := by simp
      have hF := (R.e.row 0 _ _ hei hsi).arr
      unfold AloI at aloE
      rw [hsz] at aloE
      refine alone_end iU iO iC (hX.le l02) hX4 R.e.out.arr hei hF hn.symm (by omega) (by omega) (by omega) (by omega) ?_ fun h' l' => hQ h' (l02.trans l')
      have := congrArg Prod.snd aloE
      dsimp only at this
      rw [hn]
      refine this.trans ?_
      unfold alt
      rw [alt_E]; rfl
    refine Loop.up qs.length (fun s => s.2.1) (fun i s g => g = h2 ∧ s.1 = (((PB.run [X] s0 (qs.take i)).e.getD 0 []).length : Int)) rfl ⟨rfl, by show (0 : Int) = (((s0.e.getD 0 []).length : Nat) : Int); rw [hs0]; rfl⟩ ?_
    rintro i ⟨n, i', u⟩ g go hi hc ⟨rfl, hn⟩ hgo
    dsimp only at hc hn; subst hc; subst hn
    have oki := ok0.run (qs.take i)
    have eri := oki.er 0
    have eri : ((PB.run [X] s0 (qs.take i)).e.getD 0 []).length ≤ X.length := eri
    refine ⟨fun e => ?_, fun e => ⟨fun e => (by cases e), fun _ => fin _ ?_⟩⟩
    · have e : (i : Int) < (pk.len : Int) := of_decide_eq_true e
      have hiq : i < qs.length := by omega
      show law21_BuffersAlone.j8 cm cu co cc Q _ (sl, ()) (pk, ()) (r, (0, ())) go ((((PB.run [X] s0 (qs.take i)).e.getD 0 []).length : Int), ((i : Int), u)) (decide ((((PB.run [X] s0 (qs.take i)).e.getD 0 []).length : Int) < (sl.len : Int)), ()) g
      have hb : 0 ≤ (i : Int) ∧ (i : Int) < (pk.len : Int) := ⟨by omega, e⟩
      by_cases q : (((PB.run [X] s0 (qs.take i)).e.getD 0 []).length : Int) < (sl.len : Int)
      · rw [decide_eq_true q]
        refine ⟨fun _ => ⟨hb, (hq.le l02).at (i := (i : Int)) (by omega) e rfl fun x hx => ?_⟩, fun e => (by cases e)⟩
        rw [Int.toNat_natCast] at hx
        obtain rfl : qs[i] = x := by simpa [hiq] using hx
        refine iM (by decide) (by decide) ?_
        have hrun := run_succ (s := s0) (ls := [X]) hiq
        have hr := mod_rangeB (x := qs[i]) (n := 2) (by decide)
        obtain ⟨k, hk⟩ := Int.eq_ofNat_of_zero_le hr.1
        have hkt : (qs[i] % (2 * (([X] : List (List AMv)).length : Int))).toNat = k := by
          show (qs[i] % 2).toNat = k
          rw [hk]; rfl
        have sl' := step_len oki hkt 0
        rw [← hrun] at sl'
        have next : w64 ((i : Int) + 1) = ((i + 1 : Nat) : Int) := by rw [w64_of] <;> omega
        rw [hk]
        refine ⟨fun z => ?_, fun z => ?_⟩
        · have z : (k : Int) = 0 := of_decide_eq_true z
          obtain rfl : k = 0 := by omega
          refine hgo hiq _ _ next ⟨rfl, ?_⟩
          rw [sl', if_pos ⟨rfl, Nat.zero_lt_one, by show _ < X.length; omega⟩]
          show w64 ((((PB.run [X] s0 (qs.take i)).e.getD 0 []).length : Int) + 1) = _
          rw [w64_of] <;> omega
        · have z : ¬ (k : Int) = 0 := of_decide_eq_false z
          refine hgo hiq _ _ next ⟨rfl, ?_⟩
          rw [sl', if_neg (fun p => z (by have := p.1; omega))]
      · rw [decide_eq_false q]
        refine ⟨fun e => (by cases e), fun _ => fin _ ?_⟩
        have hm := run_mono 0 (qs.drop i) oki
        have : PB.run [X] (PB.run [X] s0 (qs.take i)) (qs.drop i) = PB.run [X] s0 qs := by
          unfold PB.run
          rw [← List.foldl_append, List.take_append_drop]
        rw [this] at hm
        omega
    · have e : ¬ (i : Int) < (pk.len : Int) := of_decide_eq_false e
      rw [List.take_of_length_le (by omega)]
  have pick : ∀ sl X, Arr h KMv sl X → X.length ≤ 1000 → law21_BuffersAlone.j13 cp cm cu co cc picks Q (used % 17 + size % 9, (used % 17, (1 + room % 64, ()))) (sl, ()) h := by
    intro sl X hX hX4
    have hpl := hp.1
    have hpc := hp.2.1
    refine ⟨fun e => ?_, fun e => ?_⟩
    · have e : (1048576 : Int) < (picks.len : Int) := of_decide_eq_true e
      exact ⟨⟨by omega, by omega⟩, main _ _ _ _ hX hX4 (hp.pre (by show 1048576 ≤ picks.len; omega)) (List.length_take_le ..)⟩
    · have e : ¬ (1048576 : Int) < (picks.len : Int) := of_decide_eq_false e
      exact main _ _ _ _ hX hX4 hp (by omega)
  have hll := hl.1
  have hlc := hl.2.1
  refine ⟨fun e => ?_, fun e => ?_⟩
  · have e : (1000 : Int) < (list.len : Int) := of_decide_eq_true e
    exact ⟨⟨by omega, by omega⟩, pick _ _ (hl.pre (by show 1000 ≤ list.len; omega)) (List.length_take_le ..)⟩
  · have e : ¬ (1000 : Int) < (list.len : Int) := of_decide_eq_false e
    exact pick _ _ hl (by omega)

end Go.Mx
