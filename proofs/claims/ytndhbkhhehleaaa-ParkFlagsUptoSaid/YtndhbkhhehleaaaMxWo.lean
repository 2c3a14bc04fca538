/-
  The laws of a park play: what they have in common.
  The laws ParkLost and ParkCount.
-/
import Derived.Test.YtndhbkhhehleaaaMxWf
import Derived.Test.YtndhbkhhehleaaaMxPv
set_option linter.unusedVariables false
set_option linter.unusedSimpArgs false
set_option linter.unusedSectionVars false
namespace Go.Mx

theorem agetN {n : Nat} {a : Fin n → Int} {i j : Nat} {v : Int} (hj : j < n) : aget (n := n) (a := ki) (aset (n := n) (a := ki) a i v) j = if j = i then v else aget (n := n) (a := ki) a j := by
  unfold aget aset
  rw [dif_pos hj, dif_pos hj]
  try rfl
theorem judgeP_ok {first most sl : Int} {todos : List DTd} {picks : List Int} : judgeP first most sl todos picks = 0 ↔ todos.length ≤ 4096 ∧ picks.length ≤ 1048576 ∧ CapE first most ∧ 0 ≤ sl ∧ sl ≤ 7 ∧ todos.all kindOk = true := by
  unfold judgeP
  by_cases e1 : 4096 < todos.length ∨ 1048576 < picks.length
  · rw [if_pos e1]; constructor
    · intro q; cases q
    · rintro ⟨a, b, _⟩; omega
  rw [if_neg e1]
  by_cases e2 : ¬ CapE first most
  · rw [if_pos e2]; constructor
    · intro q; cases q
    · rintro ⟨_, _, c, _⟩; exact absurd c e2
  rw [if_neg e2]
  by_cases e3 : sl < 0 ∨ 7 < sl
  · rw [if_pos e3]; constructor
    · intro q; cases q
    · rintro ⟨_, _, _, d, e, _⟩; omega
  rw [if_neg e3]
  by_cases e4 : todos.all kindOk = true
  · rw [if_pos e4]; exact ⟨fun _ => ⟨by omega, by omega, Classical.not_not.1 e2, by omega, by omega, e4⟩, fun _ => rfl⟩
  · rw [if_neg e4]; constructor
    · intro q; cases q
    · rintro ⟨_, _, _, _, _, f⟩; exact absurd f e4
/-- All that is known at the end of a play. -/
structure EndP (first most : Int) (P : Nat) (todos : List DTd) (ws : List Nat) (s : PkS) : Prop where
  g : s.g = parkOf first most P todos ws
  pk : PkI first most P s (ws.length : Int)
  fl : FlagI P s
  lost : LostI P s
  mov : MovI todos P ws s
theorem park_end {first most : Int} {P : Nat} {todos : List DTd} {ws : List Nat} (hc : CapE first most) (p1 : 1 ≤ P) (p8 : P ≤ 8) (hn : ws.length ≤ 100000000) (hw : ∀ w ∈ ws, w < P) : ∃ s, EndP first most P todos ws s := by
  obtain ⟨s, e, I, F, L, M⟩ := park_run (fun vs s => FlagI P s ∧ LostI P s ∧ MovI todos P vs s) ws [] (pk0_I hc p1 p8 todos) ⟨pk0_flag hc p1 todos, .inl (by
    have D0 : DS most (cellsOf first most) 0 (alone0 first most) [] := DS.start hc _ rfl rfl
    exact D0.l), pk0_mov todos⟩ (by omega) hw fun vs w s s' N hw I ⟨F, L, M⟩ I' R => ⟨F.pick I hw R, L.pick F I hw R, M.pick I hw R⟩
  rw [Int.zero_add] at I
  exact ⟨s, e, I, F, L, M⟩
theorem whos_lt {sl : Int} {picks : List Int} (s0 : 0 ≤ sl) {P : Nat} (hP : 1 + sl = (P : Int)) : ∀ w ∈ whos sl picks, w < P := fun w hw => by
  obtain ⟨x, _, rfl⟩ := List.mem_map.1 hw
  have m0 := Int.emod_nonneg x (show 1 + sl ≠ 0 by omega)
  have m1 := Int.emod_lt_of_pos x (show 0 < 1 + sl by omega)
  omega
theorem whos_len (sl : Int) (picks : List Int) : (whos sl picks).length = picks.length := List.length_map ..
/-- What park.Play comes to where its arguments are right. -/
def PlayK (c : Int → Int → Int → Sl → Sl → Heap → ((Den KRun × (Int × Unit)) → Heap → Prop) → Prop) : Prop := ∀ {first most sl : Int} {td pk : Sl} {h : Heap} {todos : List DTd} {picks : List Int} {Q : (Den KRun × (Int × Unit)) → Heap → Prop}, Arr h KTd td todos → Arr h ki pk picks → judgeP first most sl todos picks = 0 →
  (∀ r h' s (P : Nat), 1 + sl = (P : Int) → EndP first most P todos (whos sl picks) s → RunIs h h' (2 + (P : Int)) s.g r → Q (r, (0, ())) h') → c first most sl td pk h Q
theorem playK_of {c} (i : ∀ {first most sl : Int} {td pk : Sl} {h : Heap} {todos : List DTd} {picks : List Int} {Q : (Den KRun × (Int × Unit)) → Heap → Prop}, Arr h KTd td todos → Arr h ki pk picks →
    (judgeP first most sl todos picks = 0 → ToldOk (parkOf first most (1 + sl).toNat todos (whos sl picks)).m.cs (1 + sl + 2) (1 + sl)) → (judgeP first most sl todos picks ≠ 0 → Q (runZ, (judgeP first most sl todos picks, ())) h) →
    (judgeP first most sl todos picks = 0 → ∀ r h', RunIs h h' (1 + sl + 2) (parkOf first most (1 + sl).toNat todos (whos sl picks)) r → Q (r, (0, ())) h') → c first most sl td pk h Q) : PlayK c := by
  intro first most sl td pk h todos picks Q ht hp hj hQ
  obtain ⟨t1, t2, hc, s0, s7, ka⟩ := judgeP_ok.1 hj
  obtain ⟨P, hP⟩ : ∃ P : Nat, 1 + sl = (P : Int) := ⟨(1 + sl).toNat, by omega⟩
  have eP : (1 + sl).toNat = P := by omega
  obtain ⟨s, E⟩ := park_end (todos := todos) (P := P) hc (by omega) (by omega) (by rw [whos_len sl picks]; omega) (whos_lt (picks := picks) s0 hP)
  refine i ht hp (fun _ => ?_) (fun q => absurd hj q) fun _ r h' R => hQ r h' s P hP E ?_
  · rw [eP, ← E.g, show 1 + sl + 2 = 2 + (P : Int) by omega, hP]
    exact E.pk.told (by rw [whos_len]; omega)
  · rw [eP, ← E.g, show 1 + sl + 2 = 2 + (P : Int) by omega] at R
    exact R
theorem mod9_spec {x n : Int} (h0 : 0 < n) (h1 : n ≤ 1000000000) {h : Heap} {Q : Int → Heap → Prop} (hQ : Q (x % n) h) : law9_mod.M x n h Q := by
  refine ⟨by omega, ?_⟩
  have e := Int.tmod_eq_emod (a := x) (b := n)
  have m0 := Int.emod_nonneg x (show n ≠ 0 by omega)
  have m1 := Int.emod_lt_of_pos x h0
  have ab : ((n.natAbs : Nat) : Int) = n := by omega
  refine dcase (fun d => ?_) (fun d => ?_)
  · have d : Int.tmod x n < 0 := d
    show Q (w64 (Int.tmod x n + n)) h
    by_cases c : 0 ≤ x ∨ n ∣ x
    · rw [if_pos c] at e; omega
    · rw [if_neg c] at e
      rw [show Int.tmod x n + n = x % n by omega, w64_of (by omega) (by omega)]
      exact hQ
  · have d : ¬ Int.tmod x n < 0 := d
    show Q (Int.tmod x n) h
    by_cases c : 0 ≤ x ∨ n ∣ x
    · rw [if_pos c] at e
      rw [show Int.tmod x n = x % n by omega]
      exact hQ
    · rw [if_neg c] at e; omega
theorem fair9_spec {first most sl : Int} {td pk : Sl} {h : Heap} {todos : List DTd} {picks : List Int} (ht : Arr h KTd td todos) (hp : Arr h ki pk picks) {Q : Bool → Heap → Prop} (hT : judgeP first most sl todos picks = 0 → Q true h) (hF : Q false h) : law9_fair.M first most sl td pk h Q := by
  have tl := ht.1
  have pl := hp.1
  have bad : law9_fair.j5 td Q (true, ()) h := ⟨fun _ => hF, fun e => (by cases e)⟩
  refine dcase (fun _ => bad) (fun f1 => dcase (fun _ => bad) (fun f2 => dcase (fun _ => bad) (fun f3 => dcase (fun _ => bad) (fun f4 => dcase (fun _ => bad) (fun f5 => dcase (fun _ => bad) (fun f6 => ?_))))))
  have f1 : ¬ first < 1 := f1
  have f2 : ¬ most < first := f2
  have f3 : ¬ (4096 : Int) < most := f3
  have f4 : ¬ sl < 0 := f4
  have f5 : ¬ (7 : Int) < sl := f5
  have f6 : ¬ (4096 : Int) < (td.len : Int) := f6
  by_cases f7 : (1048576 : Int) < (pk.len : Int)
  · rw [decide_eq_true f7]; exact bad
  rw [decide_eq_false f7]
  refine ⟨fun q => (by cases q), fun _ => ?_⟩
  refine Loop.up todos.length (fun s => s.1) (fun i s g => g = h ∧ ∀ (j : Nat) t, j < i → todos[j]? = some t → kindOk t = true) rfl ⟨rfl, fun j t q => absurd q (Nat.not_lt_zero j)⟩ ?_
  rintro i ⟨i', u⟩ g go hi hcn ⟨rfl, H⟩ hgo
  dsimp only at hcn; subst hcn
  refine dcase (fun d => ?_) (fun d => ?_)
  · have d : (i : Int) < (td.len : Int) := d
    have hil : i < todos.length := by omega
    obtain ⟨a, ha⟩ := ht.addr (by omega)
    obtain ⟨t, hx⟩ : ∃ t, todos[i]? = some t := ⟨_, List.getElem?_eq_getElem hil⟩
    refine ⟨⟨by omega, d⟩, ?_⟩
    rw [ha]
    show ld ki g ((a.add (((i : Nat) : Int).toNat * 2)).add 0) _
    rw [Int.toNat_natCast]
    refine ht.ldPart (kp := ki) (y := (t.1 : Int)) ha hx ⟨[], _, rfl, rfl⟩ rfl ?_
    have nx : kindOk t = true → law9_fair.j1 go ((i : Int), u) () g := fun k => hgo hil _ _ (by show w64 ((i : Int) + 1) = _; rw [w64_of] <;> omega) ⟨rfl, fun j t' q q' => by
      rcases Nat.lt_or_eq_of_le (Nat.lt_succ_iff.1 q) with z | z
      · exact H j t' z q'
      · subst z; rw [hx] at q'; cases q'; exact k⟩
    refine dcase (fun k0 => dcase (fun k1 => ?_) (fun k1 => ?_)) (fun k0 => ?_)
    · by_cases k3 : (t.1 : Int) ≠ 3
      · show law9_fair.j2 Q go ((i : Int), u) (decide ((t.1 : Int) ≠ 3), ()) g
        rw [decide_eq_true k3]
        exact ⟨fun _ => hF, fun q => (by cases q)⟩
      · show law9_fair.j2 Q go ((i : Int), u) (decide ((t.1 : Int) ≠ 3), ()) g
        rw [decide_eq_false k3]
        refine ⟨fun q => (by cases q), fun _ => nx ?_⟩
        unfold kindOk
        rw [decide_eq_true (Decidable.not_not.1 k3)]; simp
    · refine ⟨fun q => (by cases q), fun _ => nx ?_⟩
      have k1 : (t.1 : Int) = 1 := Decidable.not_not.1 k1
      unfold kindOk
      rw [decide_eq_true k1]; simp
    · refine ⟨fun q => (by cases q), fun _ => nx ?_⟩
      have k0 : (t.1 : Int) = 0 := Decidable.not_not.1 k0
      unfold kindOk
      rw [decide_eq_true k0]; rfl
  · have d : ¬ (i : Int) < (td.len : Int) := d
    refine hT (judgeP_ok.2 ⟨by omega, by omega, ⟨by omega, by omega, by omega⟩, by omega, by omega, ?_⟩)
    rw [List.all_eq_true]
    intro t ht'
    obtain ⟨j, hj⟩ := List.getElem?_of_mem ht'
    exact H j t (by have := (List.getElem?_eq_some_iff.1 hj).1; omega) hj
section
variable {first most : Int} {P : Nat} {todos : List DTd} {ws : List Nat} {s : PkS} (E : EndP first most P todos ws s)
include E
theorem EndP.states : (statesOf (s.g.acts.drop 1)).length = P - 1 ∧ ∀ i, 1 ≤ i → i < P → (statesOf (s.g.acts.drop 1))[i - 1]? = some (s.g.act i).state := by
  unfold statesOf
  refine ⟨by rw [List.length_map, List.length_drop, E.pk.len], fun i a b => ?_⟩
  rw [List.getElem?_map, List.getElem?_drop, show 1 + (i - 1) = i by omega, gact_get (by rw [E.pk.len]; exact b)]; rfl
theorem EndP.halts {i : Nat} (a : 1 ≤ i) (b : i < P) : (s.g.act i).state = 3 ↔ s.sm i = .halt := by
  rw [E.pk.state a b]
  cases s.sm i <;> simp
end
theorem stpL_take {lg : List Acc} {i : Nat} {e : Acc} (h : lg[i]? = some e) (w : Nat) : stpL (lg.take (i + 1)) w = stpL (lg.take i) w + if (e.1 : Int) = (w : Int) then 1 else 0 := by
  have : lg.take (i + 1) = lg.take i ++ [e] := by rw [List.take_add_one, h]; rfl
  rw [this, stp_snoc]
theorem cnt_take {ws : List Nat} {i x : Nat} (h : ws[i]? = some x) (w : Nat) : (ws.take (i + 1)).count w = (ws.take i).count w + if x = w then 1 else 0 := by
  have : ws.take (i + 1) = ws.take i ++ [x] := by rw [List.take_add_one, h]; rfl
  rw [this, cnt_snoc]
theorem moved_spec {c} (iM : ∀ {x n : Int} {h : Heap} {Q : Int → Heap → Prop}, 0 < n → n ≤ 1000000000 → Q (x % n) h → c x n h Q) {first most sl : Int} {P : Nat} {todos : List DTd} {picks : List Int} {s : PkS} (E : EndP first most P todos (whos sl picks) s) (hP : 1 + sl = (P : Int)) (hn : picks.length ≤ 1048576) (tn : todos.length ≤ 4096)
    {h0 h : Heap} {r : Den KRun} (R : RunIs h0 h (2 + (P : Int)) s.g r) {td pk : Sl} (ht : Arr h0 KTd td todos) (hp : Arr h0 ki pk picks) {Q : Bool → Heap → Prop} (hQ : Q true h) : law9_moved.M c r sl td pk h Q := by
  obtain ⟨tkS, lfS, stS, flS, sl', dn', wk', bt', lgS, u⟩ := r
  have p1 := E.pk.mem.p1
  have p8 := E.pk.mem.p8
  have Rst : New h0 h ki stS (statesOf (s.g.acts.drop 1)) := R.st
  have Rfl : New h0 h ki flS (flagsOf s.g.m.cs s.g.acts.length) := R.fl
  have Rlg : New h0 h KAcc lgS s.g.m.lg := R.lg
  have Rdn : dn' = DNc s := R.dn
  have hp' := hp.le R.tk.le
  have sL := E.states
  have fL := (E.pk.flag 0).1
  have stl : (stS.len : Int) = sl := by have := Rst.len; have := sL.1; omega
  have fll : (flS.len : Int) = 1 + sl := by have := Rfl.len; rw [E.pk.len] at this; omega
  have lgl := Rlg.len
  have lgn : s.g.m.lg.length ≤ 1048576 := by have := E.mov.lgl; rw [whos_len] at this; omega
  have tl := ht.1
  have pl := hp.1
  have hw : w64 (1 + sl) = 1 + sl := by rw [w64_of] <;> omega
  refine dcase (fun q => absurd stl q) (fun _ => ?_)
  show law9_moved.j12 c _ sl td pk Q (decide ((flS.len : Int) ≠ w64 (1 + sl)), ()) h
  rw [hw, decide_eq_false (fun q => q fll)]
  refine ⟨fun q => (by cases q), fun _ => ?_⟩
  -- the log
  refine Loop.up s.g.m.lg.length (fun s => s.1) (fun i x k => k = h ∧ ∀ v : Nat, v < 8 → aget (n := 8) (a := ki) x.2.1.1 v = (stpL (s.g.m.lg.take i) v : Int)) rfl ⟨rfl, fun v hv => ?_⟩ ?_
  · show aget (n := 8) (a := ki) (fun _ => (0 : Int)) v = _
    unfold aget; rw [dif_pos hv]; rfl
  rintro i ⟨i', ⟨st8, u1⟩, u2⟩ k go hi hcn ⟨rfl, H⟩ hgo
  dsimp only at hcn H; subst hcn
  refine dcase (fun d => ?_) (fun d => ?_)
  · have d : (i : Int) < (lgS.len : Int) := d
    have hil : i < s.g.m.lg.length := by omega
    obtain ⟨e, he⟩ : ∃ e, s.g.m.lg[i]? = some e := ⟨_, List.getElem?_eq_getElem hil⟩
    obtain ⟨a, ha⟩ := Rlg.own.addr (by omega)
    obtain ⟨w0, w1⟩ := E.mov.who e (List.mem_of_getElem? he)
    obtain ⟨w, hwe⟩ : ∃ w : Nat, (e.1 : Int) = (w : Int) := ⟨(e.1 : Int).toNat, (Int.toNat_of_nonneg w0).symm⟩
    have wP : (w : Int) < (P : Int) := by rw [← hwe]; exact w1
    refine ⟨⟨by omega, d⟩, ?_⟩
    show deref lgS.a _
    rw [ha]
    show ld ki k ((a.add (((i : Nat) : Int).toNat * 6)).add 0) _
    rw [Int.toNat_natCast]
    refine Rlg.arr.ldPart (kp := ki) (y := (e.1 : Int)) ha he ⟨[], _, rfl, rfl⟩ rfl ?_
    rw [hwe]
    refine dcase (fun q => ?_) (fun _ => ?_)
    · have q : (w : Int) < 0 := q
      omega
    rw [decide_eq_false (show ¬ sl < (w : Int) by omega)]
    refine ⟨fun q => (by cases q), fun _ => ⟨⟨by omega, by omega⟩, ⟨by omega, by omega⟩, ?_⟩⟩
    refine hgo hil _ _ (by show w64 ((i : Int) + 1) = _; rw [w64_of] <;> omega) ⟨rfl, fun v hv => ?_⟩
    show aget (n := 8) (a := ki) (aset (n := 8) (a := ki) st8 ((w : Int)).toNat (w64 (aget (n := 8) (a := ki) st8 ((w : Int)).toNat + 1))) v = _
    rw [Int.toNat_natCast, agetN hv, stpL_take he, H w (by omega), hwe]
    have sb : stpL (s.g.m.lg.take i) w ≤ i := by
      unfold stpL
      refine Nat.le_trans List.countP_le_length ?_
      rw [List.length_take]; exact Nat.min_le_left _ _
    by_cases z : v = w
    · subst z
      rw [if_pos rfl, if_pos rfl, w64_of (by omega) (by omega)]; exact (Int.natCast_add _ 1).symm
    · rw [if_neg z, if_neg (show ¬ (w : Int) = (v : Int) by omega), H v hv]; rfl
  have d : ¬ (i : Int) < (lgS.len : Int) := d
  have ei : i = s.g.m.lg.length := by omega
  rw [ei, List.take_length] at H
  clear hgo go d
  -- the picks
  have wl := whos_len sl picks
  refine Loop.up picks.length (fun s => s.1) (fun i x g => g = k ∧ ∀ v : Nat, v < 8 → aget (n := 8) (a := ki) x.2.1.1 v = (((whos sl picks).take i).count v : Int)) rfl ⟨rfl, fun v hv => ?_⟩ ?_
  · show aget (n := 8) (a := ki) (fun _ => (0 : Int)) v = _
    unfold aget; rw [dif_pos hv]; rfl
  rintro j ⟨j', ⟨pk8, u3⟩, u4⟩ g go hj hcn ⟨rfl, G⟩ hgo
  dsimp only at hcn G; subst hcn
  refine dcase (fun d => ?_) (fun d => ?_)
  · have d : (j : Int) < (pk.len : Int) := d
    have hjl : j < picks.length := by omega
    refine ⟨⟨by omega, d⟩, hp'.at (i := (j : Int)) (by omega) d rfl fun x hx => ?_⟩
    rw [Int.toNat_natCast] at hx
    show c x (w64 (1 + sl)) g _
    rw [hw]
    refine iM (by omega) (by omega) ?_
    have m0 := Int.emod_nonneg x (show 1 + sl ≠ 0 by omega)
    have m1 := Int.emod_lt_of_pos x (show 0 < 1 + sl by omega)
    obtain ⟨w, hwx⟩ : ∃ w : Nat, x % (1 + sl) = (w : Int) := ⟨(x % (1 + sl)).toNat, (Int.toNat_of_nonneg m0).symm⟩
    have hwi : (whos sl picks)[j]? = some w := by
      unfold whos
      rw [List.getElem?_map, hx]
      show some (x % (1 + sl)).toNat = _
      rw [hwx, Int.toNat_natCast]
    rw [hwx] at m1 ⊢
    refine ⟨⟨by omega, by omega⟩, ⟨by omega, by omega⟩, hgo hjl _ _ (by show w64 ((j : Int) + 1) = _; rw [w64_of] <;> omega) ⟨rfl, fun v hv => ?_⟩⟩
    show aget (n := 8) (a := ki) (aset (n := 8) (a := ki) pk8 ((w : Int)).toNat (w64 (aget (n := 8) (a := ki) pk8 ((w : Int)).toNat + 1))) v = _
    rw [Int.toNat_natCast, agetN hv, cnt_take hwi, G w (by omega)]
    have sb : ((whos sl picks).take j).count w ≤ j := by
      refine Nat.le_trans List.count_le_length ?_
      rw [List.length_take]; exact Nat.min_le_left _ _
    by_cases z : v = w
    · subst z
      rw [if_pos rfl, if_pos rfl, w64_of (by omega) (by omega)]; exact (Int.natCast_add _ 1).symm
    · rw [if_neg z, if_neg (fun q => z q.symm), G v hv]; rfl
  have d : ¬ (j : Int) < (pk.len : Int) := d
  have ej : j = (whos sl picks).length := by omega
  rw [ej, List.take_length] at G
  clear hgo go d
  -- the sleepers
  have cle : ∀ v, (whos sl picks).count v ≤ 1048576 := fun v => Nat.le_trans List.count_le_length (by omega)
  refine Loop.up sl.toNat (fun s => s.1 - 1) (fun i x h => h = g) rfl rfl ?_
  rintro m ⟨m', u5⟩ h2 go hm hcn rfl hgo
  dsimp only at hcn
  obtain rfl : m' = (m : Int) + 1 := by omega
  refine dcase (fun d => ?_) (fun d => ?_)
  · have d : (m : Int) + 1 ≤ sl := d
    have mP : m + 1 < P := by omega
    have e1 : w64 ((m : Int) + 1 - 1) = (m : Int) := by rw [w64_of] <;> omega
    obtain ⟨a, ha⟩ := Rst.own.addr (by omega)
    have hst := sL.2 (m + 1) (by omega) mP
    rw [Nat.add_sub_cancel] at hst
    have eA : (((m : Int) + 1)).toNat = m + 1 := by omega
    have H1 := H (m + 1) (by omega)
    have G1 := G (m + 1) (by omega)
    have nx : law9_moved.j5 Q go ((m : Int) + 1, u5) (false, ()) h2 := ⟨fun q => (by cases q), fun _ => hgo (by omega) _ _ (by show w64 ((m : Int) + 1 + 1) - 1 = _; rw [w64_of (by omega) (by omega)]; omega) rfl⟩
    show (0 ≤ w64 ((m : Int) + 1 - 1) ∧ w64 ((m : Int) + 1 - 1) < (stS.len : Int)) ∧ deref stS.a fun a31 => ld ki h2 (a31.add ((w64 ((m : Int) + 1 - 1)).toNat * 1)) _
    rw [e1, ha]
    refine ⟨⟨by omega, by omega⟩, ?_⟩
    show ld ki h2 (a.add (((m : Nat) : Int).toNat * 1)) _
    rw [Int.toNat_natCast]
    refine Rst.arr.ldAt ha hst rfl ⟨⟨by omega, by omega⟩, ⟨by omega, by omega⟩, ?_⟩
    dsimp only
    rw [eA, H1, G1]
    have hh := E.halts (i := m + 1) (by omega) mP
    by_cases hs : s.sm (m + 1) = .halt
    · obtain ⟨x1, x2⟩ := E.mov.hlt (m + 1) (by omega) mP hs
      have x3 := E.mov.dep (m + 1) (by omega) mP
      rw [hs] at x3
      have x3 : 4 ≤ stpL s.g.m.lg (m + 1) := x3
      have hst3 := hh.2 hs
      have fin : (decide ((s.g.act (m + 1)).state = 3) = true → (0 ≤ (m : Int) + 1 ∧ (m : Int) + 1 < 8) ∧ ((decide ((stpL s.g.m.lg (m + 1) : Int) < 4) = true → law9_moved.j5 Q go ((m : Int) + 1, u5) (true, ()) h2) ∧ (decide ((stpL s.g.m.lg (m + 1) : Int) < 4) = false → law9_moved.j5 Q go ((m : Int) + 1, u5) (decide (dn' ≠ 1), ()) h2))) ∧ (decide ((s.g.act (m + 1)).state = 3) = false → law9_moved.j5 Q go ((m : Int) + 1, u5) (false, ()) h2) := by
        refine ⟨fun _ => ⟨⟨by omega, by omega⟩, dcase (fun q => ?_) (fun _ => ?_)⟩, fun q => absurd hst3 (of_decide_eq_false q)⟩
        · have q : (stpL s.g.m.lg (m + 1) : Int) < 4 := q
          omega
        · rw [Rdn, decide_eq_false (fun q : DNc s ≠ 1 => q x2)]; exact nx
      refine dcase (fun q => ?_) (fun _ => ⟨⟨by omega, by omega⟩, ⟨by omega, by omega⟩, dcase (fun _ => ⟨fun q => ?_, fun _ => fin⟩) (fun _ => fin)⟩)
      · have q : ((whos sl picks).count (m + 1) : Int) < (stpL s.g.m.lg (m + 1) : Int) := q
        omega
      · rw [decide_eq_true hst3] at q; cases q
    · have x1 := E.mov.run (m + 1) (by omega) mP hs
      have ns : ¬ (s.g.act (m + 1)).state = 3 := fun q => hs (hh.1 q)
      rw [x1]
      refine dcase (fun q => absurd q (Int.lt_irrefl _)) (fun _ => ⟨⟨by omega, by omega⟩, ⟨by omega, by omega⟩, dcase (fun q => absurd q (Int.lt_irrefl _)) (fun _ => ⟨fun q => absurd (of_decide_eq_true q) ns, fun _ => nx⟩)⟩)
  · have d : ¬ (m : Int) + 1 ≤ sl := d
    have H0 := H 0 (by omega)
    have G0 := G 0 (by omega)
    have fin : law9_moved.j6 td Q (((i : Nat) : Int), (st8, u1), u2) (((j : Nat) : Int), (pk8, u3), u4) () h2 := by
      refine ⟨⟨by decide, by decide⟩, ⟨by decide, by decide⟩, ?_⟩
      have e0 : ((0 : Int)).toNat = 0 := rfl
      dsimp only
      rw [e0, H0, G0]
      have : (if (td.len : Int) < ((whos sl picks).count 0 : Int) then (td.len : Int) else ((whos sl picks).count 0 : Int)) ≤ (stpL s.g.m.lg 0 : Int) := by
        have t0 := E.mov.tds
        rcases E.mov.w0 with z | ⟨z1, z2, z3⟩
        · split <;> omega
        · rw [z2] at t0
          have t0 : todos.length ≤ 0 + stpL s.g.m.lg 0 := t0
          split <;> omega
      rw [decide_eq_true this]
      exact hQ
    refine ⟨⟨by decide, by decide⟩, ⟨by decide, by decide⟩, ?_⟩
    have e0 : ((0 : Int)).toNat = 0 := rfl
    dsimp only
    rw [e0, H0, G0]
    refine dcase (fun q => ?_) (fun _ => ⟨⟨by decide, by decide⟩, ⟨by decide, by decide⟩, dcase (fun q => ?_) (fun _ => ⟨fun q => (by cases q), fun _ => fin⟩)⟩)
    · have q : ((whos sl picks).count 0 : Int) < (stpL s.g.m.lg 0 : Int) := q
      rcases E.mov.w0 with z | ⟨z1, _⟩ <;> omega
    · have q : (stpL s.g.m.lg 0 : Int) < ((whos sl picks).count 0 : Int) := q
      have hb : bt' = true := by
        have e := R.bt
        have e : bt' = (decide ((s.g.act 0).busy = 0) && !(s.g.act 0).wakes) := e
        rw [e]
        refine E.pk.between.2 ?_
        rcases E.mov.w0 with z | ⟨z1, z2, z3⟩
        · omega
        · exact z3
      show law9_moved.j7 td Q _ _ (!bt', ()) h2
      rw [hb]
      exact ⟨fun q => (by cases q), fun _ => fin⟩
end Go.Mx

namespace Go.Mx

def FairC9 (c : Int → Int → Int → Sl → Sl → Heap → (Bool → Heap → Prop) → Prop) : Prop := ∀ {first most sl : Int} {td pk : Sl} {h : Heap} {todos : List DTd} {picks : List Int} {Q : Bool → Heap → Prop}, Arr h KTd td todos → Arr h ki pk picks → (judgeP first most sl todos picks = 0 → Q true h) → Q false h → c first most sl td pk h Q
def MovedC9 (c : Den KRun → Int → Sl → Sl → Heap → (Bool → Heap → Prop) → Prop) : Prop := ∀ {first most sl : Int} {P : Nat} {todos : List DTd} {picks : List Int} {s : PkS}, EndP first most P todos (whos sl picks) s → 1 + sl = (P : Int) → picks.length ≤ 1048576 → todos.length ≤ 4096 →
    ∀ {h0 h : Heap} {r : Den KRun}, RunIs h0 h (2 + (P : Int)) s.g r → ∀ {td pk : Sl}, Arr h0 KTd td todos → Arr h0 ki pk picks → ∀ {Q : Bool → Heap → Prop}, Q true h → c r sl td pk h Q
section
variable {first most : Int} {P : Nat} {todos : List DTd} {ws : List Nat} {s : PkS} (E : EndP first most P todos ws s)
include E
end
/-! ### the count -/
def sumL (fls : List Int) : Nat → Int
  | 0 => 0
  | n + 1 => sumL fls n + fls[n + 1]?.getD 0
section
variable {first most : Int} {P : Nat} {todos : List DTd} {ws : List Nat} {s : PkS} (E : EndP first most P todos ws s)
include E
theorem EndP.flat {i : Nat} (a : 1 ≤ i) (b : i < P) : (flagsOf s.g.m.cs P)[i]? = some (FLc s (i : Int)) ∧ (FLc s (i : Int) = 0 ∨ FLc s (i : Int) = 1) ∧ ((s.g.act i).state ≠ 0 → FLc s (i : Int) = 1 → (s.g.act i).state = 1) := by
  refine ⟨(E.pk.flag i).2 b, E.fl.f01 i a b, fun q f => ?_⟩
  have z := E.fl.fz i a b
  rw [E.pk.state a b] at q ⊢
  revert q z
  cases s.sm i <;> simp [SM.down, f]
theorem EndP.count (b : s.wm = .idle) (h : ∀ i, 1 ≤ i → i < P → (s.g.act i).state ≠ 0) : SLc s = sumL (flagsOf s.g.m.cs P) (P - 1) := by
  rw [E.fl.sl, b]
  show _ + 0 = _
  rw [Int.add_zero]
  have main : ∀ n, n ≤ P - 1 → sumN (fun i => wS (s.sm i) (FLc s (i : Int))) n = sumL (flagsOf s.g.m.cs P) n := fun n => by
    induction n with
    | zero => exact fun _ => rfl
    | succ n ih =>
      intro hn
      show sumN _ n + wS (s.sm (n + 1)) (FLc s ((n + 1 : Nat) : Int)) = sumL _ n + (flagsOf s.g.m.cs P)[n + 1]?.getD 0
      rw [ih (by omega), (E.flat (i := n + 1) (by omega) (by omega)).1]
      show _ = _ + FLc s ((n + 1 : Nat) : Int)
      have st := h (n + 1) (by omega) (by omega)
      have fz := E.fl.fz (n + 1) (by omega) (by omega)
      rw [E.pk.state (by omega) (by omega)] at st
      congr 1
      revert st fz
      cases s.sm (n + 1) <;> simp [SM.down, wS] <;> omega
  exact main (P - 1) (Nat.le_refl _)
end
end Go.Mx
