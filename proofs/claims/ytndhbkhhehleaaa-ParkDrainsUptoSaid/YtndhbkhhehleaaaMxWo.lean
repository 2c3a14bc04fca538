/-
  The laws of a park play: what they have in common.
  The laws ParkLost and ParkCount.
-/
import Derived.Test.YtndhbkhhehleaaaMxWf
import Derived.Test.YtndhbkhhehleaaaMxPv
set_option linter.unusedVariables false
set_option linter.unusedSimpArgs false
set_option linter.unusedSectionVars false
namespace Go.Mx

theorem judgeP_ok {first most sl : Int} {todos : List DTd} {picks : List Int} : judgeP first most sl todos picks = 0 ↔ todos.length ≤ 4096 ∧ picks.length ≤ 1048576 ∧ CapE first most ∧ 0 ≤ sl ∧ sl ≤ 7 ∧ todos.all kindOk = true := by
  unfold judgeP
  by_cases e1 : 4096 < todos.length ∨ 1048576 < picks.length
  · rw [if_pos e1]; constructor
    · intro q; cases q
    · rintro ⟨a, b, _⟩; omega
  rw [if_neg e1]
  by_cases e2 : ¬ CapE first most
  · rw [if_pos e2]; constructor
    · intro q; cases q
    · rintro ⟨_, _, c, _⟩; exact absurd c e2
  rw [if_neg e2]
  by_cases e3 : sl < 0 ∨ 7 < sl
  · rw [if_pos e3]; constructor
    · intro q; cases q
    · rintro ⟨_, _, _, d, e, _⟩; omega
  rw [if_neg e3]
  by_cases e4 : todos.all kindOk = true
  · rw [if_pos e4]; exact ⟨fun _ => ⟨by omega, by omega, Classical.not_not.1 e2, by omega, by omega, e4⟩, fun _ => rfl⟩
  · rw [if_neg e4]; constructor
    · intro q; cases q
    · rintro ⟨_, _, _, _, _, f⟩; exact absurd f e4
structure EndP (first most : Int) (P : Nat) (todos : List DTd) (ws : List Nat) (s : PkS) : Prop where
  g : s.g = parkOf first most P todos ws
  pk : PkI first most P s (ws.length : Int)
  fl : FlagI P s
  lost : LostI P s
  mov : MovI todos P ws s
theorem park_end {first most : Int} {P : Nat} {todos : List DTd} {ws : List Nat} (hc : CapE first most) (p1 : 1 ≤ P) (p8 : P ≤ 8) (hn : ws.length ≤ 100000000) (hw : ∀ w ∈ ws, w < P) : ∃ s, EndP first most P todos ws s := by
  obtain ⟨s, e, I, F, L, M⟩ := park_run (fun vs s => FlagI P s ∧ LostI P s ∧ MovI todos P vs s) ws [] (pk0_I hc p1 p8 todos) ⟨pk0_flag hc p1 todos, .inl (by
    have D0 : DS most (cellsOf first most) 0 (alone0 first most) [] := DS.start hc _ rfl rfl
    exact D0.l), pk0_mov todos⟩ (by omega) hw fun vs w s s' N hw I ⟨F, L, M⟩ I' R => ⟨F.pick I hw R, L.pick F I hw R, M.pick I hw R⟩
  rw [Int.zero_add] at I
  exact ⟨s, e, I, F, L, M⟩
theorem whos_lt {sl : Int} {picks : List Int} (s0 : 0 ≤ sl) {P : Nat} (hP : 1 + sl = (P : Int)) : ∀ w ∈ whos sl picks, w < P := fun w hw => by
  obtain ⟨x, _, rfl⟩ := List.mem_map.1 hw
  have m0 := Int.emod_nonneg x (show 1 + sl ≠ 0 by omega)
  have m1 := Int.emod_lt_of_pos x (show 0 < 1 + sl by omega)
  omega
theorem whos_len (sl : Int) (picks : List Int) : (whos sl picks).length = picks.length := List.length_map ..
def PlayK (c : Int → Int → Int → Sl → Sl → Heap → ((Den KRun × (Int × Unit)) → Heap → Prop) → Prop) : Prop := ∀ {first most sl : Int} {td pk : Sl} {h : Heap} {todos : List DTd} {picks : List Int} {Q : (Den KRun × (Int × Unit)) → Heap → Prop}, Arr h KTd td todos → Arr h ki pk picks → judgeP first most sl todos picks = 0 →
  (∀ r h' s (P : Nat), 1 + sl = (P : Int) → EndP first most P todos (whos sl picks) s → RunIs h h' (2 + (P : Int)) s.g r → Q (r, (0, ())) h') → c first most sl td pk h Q
theorem playK_of {c} (i : ∀ {first most sl : Int} {td pk : Sl} {h : Heap} {todos : List DTd} {picks : List Int} {Q : (Den KRun × (Int × Unit)) → Heap → Prop}, Arr h KTd td todos → Arr h ki pk picks →
    (judgeP first most sl todos picks = 0 → ToldOk (parkOf first most (1 + sl).toNat todos (whos sl picks)).m.cs (1 + sl + 2) (1 + sl)) → (judgeP first most sl todos picks ≠ 0 → Q (runZ, (judgeP first most sl todos picks, ())) h) →
    (judgeP first most sl todos picks = 0 → ∀ r h', RunIs h h' (1 + sl + 2) (parkOf first most (1 + sl).toNat todos (whos sl picks)) r → Q (r, (0, ())) h') → c first most sl td pk h Q) : PlayK c := by
  intro first most sl td pk h todos picks Q ht hp hj hQ
  obtain ⟨t1, t2, hc, s0, s7, ka⟩ := judgeP_ok.1 hj
  obtain ⟨P, hP⟩ : ∃ P : Nat, 1 + sl = (P : Int) := ⟨(1 + sl).toNat, by omega⟩
  have eP : (1 + sl).toNat = P := by omega
  obtain ⟨s, E⟩ := park_end (todos := todos) (P := P) hc (by omega) (by omega) (by rw [whos_len sl picks]; omega) (whos_lt (picks := picks) s0 hP)
  refine i ht hp (fun _ => ?_) (fun q => absurd hj q) fun _ r h' R => hQ r h' s P hP E ?_
  · rw [eP, ← E.g, show 1 + sl + 2 = 2 + (P : Int) by omega, hP]
    exact E.pk.told (by rw [whos_len]; omega)
  · rw [eP, ← E.g, show 1 + sl + 2 = 2 + (P : Int) by omega] at R
    exact R
theorem fair9_spec {first most sl : Int} {td pk : Sl} {h : Heap} {todos : List DTd} {picks : List Int} (ht : Arr h KTd td todos) (hp : Arr h ki pk picks) {Q : Bool → Heap → Prop} (hT : judgeP first most sl todos picks = 0 → Q true h) (hF : Q false h) : law9_fair.M first most sl td pk h Q := by
  have tl := ht.1
  have pl := hp.1
  have bad : law9_fair.j5 td Q (true, ()) h := ⟨fun _ => hF, fun e => (by cases e)⟩
  refine dcase (fun _ => bad) (fun f1 => dcase (fun _ => bad) (fun f2 => dcase (fun _ => bad) (fun f3 => dcase (fun _ => bad) (fun f4 => dcase (fun _ => bad) (fun f5 => dcase (fun _ => bad) (fun f6 => ?_))))))
  have f1 : ¬ first < 1 := f1
  have f2 : ¬ most < first := f2
  have f3 : ¬ (4096 : Int) < most := f3
  have f4 : ¬ sl < 0 := f4
  have f5 : ¬ (7 : Int) < sl := f5
  have f6 : ¬ (4096 : Int) < (td.len : Int) := f6
  by_cases f7 : (1048576 : Int) < (pk.len : Int)
  · rw [decide_eq_true f7]; exact bad
  rw [decide_eq_false f7]
  refine ⟨fun q => (by cases q), fun _ => ?_⟩
  refine Loop.up todos.length (fun s => s.1) (fun i s g => g = h ∧ ∀ (j : Nat) t, j < i → todos[j]? = some t → kindOk t = true) rfl ⟨rfl, fun j t q => absurd q (Nat.not_lt_zero j)⟩ ?_
  rintro i ⟨i', u⟩ g go hi hcn ⟨rfl, H⟩ hgo
  dsimp only at hcn; subst hcn
  refine dcase (fun d => ?_) (fun d => ?_)
  · have d : (i : Int) < (td.len : Int) := d
    have hil : i < todos.length := by omega
    obtain ⟨a, ha⟩ := ht.addr (by omega)
    obtain ⟨t, hx⟩ : ∃ t, todos[i]? = some t := ⟨_, List.getElem?_eq_getElem hil⟩
    refine ⟨⟨by omega, d⟩, ?_⟩
    rw [ha]
    show ld ki g ((a.add (((i : Nat) : Int).toNat * 2)).add 0) _
    rw [Int.toNat_natCast]
    refine ht.ldPart (kp := ki) (y := (t.1 : Int)) ha hx ⟨[], _, rfl, rfl⟩ rfl ?_
    have nx : kindOk t = true → law9_fair.j1 go ((i : Int), u) () g := fun k => hgo hil _ _ (by show w64 ((i : Int) + 1) = _; rw [w64_of] <;> omega) ⟨rfl, fun j t' q q' => by
      rcases Nat.lt_or_eq_of_le (Nat.lt_succ_iff.1 q) with z | z
      · exact H j t' z q'
      · subst z; rw [hx] at q'; cases q'; exact k⟩
    refine dcase (fun k0 => dcase (fun k1 => ?_) (fun k1 => ?_)) (fun k0 => ?_)
    · by_cases k3 : (t.1 : Int) ≠ 3
      · show law9_fair.j2 Q go ((i : Int), u) (decide ((t.1 : Int) ≠ 3), ()) g
        rw [decide_eq_true k3]
        exact ⟨fun _ => hF, fun q => (by cases q)⟩
      · show law9_fair.j2 Q go ((i : Int), u) (decide ((t.1 : Int) ≠ 3), ()) g
        rw [decide_eq_false k3]
        refine ⟨fun q => (by cases q), fun _ => nx ?_⟩
        unfold kindOk
        rw [decide_eq_true (Decidable.not_not.1 k3)]; simp
    · refine ⟨fun q => (by cases q), fun _ => nx ?_⟩
      have k1 : (t.1 : Int) = 1 := Decidable.not_not.1 k1
      unfold kindOk
      rw [decide_eq_true k1]; simp
    · refine ⟨fun q => (by cases q), fun _ => nx ?_⟩
      have k0 : (t.1 : Int) = 0 := Decidable.not_not.1 k0
      unfold kindOk
      rw [decide_eq_true k0]; rfl
  · have d : ¬ (i : Int) < (td.len : Int) := d
    refine hT (judgeP_ok.2 ⟨by omega, by omega, ⟨by omega, by omega, by omega⟩, by omega, by omega, ?_⟩)
    rw [List.all_eq_true]
    intro t ht'
    obtain ⟨j, hj⟩ := List.getElem?_of_mem ht'
    exact H j t (by have := (List.getElem?_eq_some_iff.1 hj).1; omega) hj
section
variable {first most : Int} {P : Nat} {todos : List DTd} {ws : List Nat} {s : PkS} (E : EndP first most P todos ws s)
include E
theorem EndP.halts {i : Nat} (a : 1 ≤ i) (b : i < P) : (s.g.act i).state = 3 ↔ s.sm i = .halt := by
  rw [E.pk.state a b]
  cases s.sm i <;> simp
end
end Go.Mx

namespace Go.Mx

def FairC9 (c : Int → Int → Int → Sl → Sl → Heap → (Bool → Heap → Prop) → Prop) : Prop := ∀ {first most sl : Int} {td pk : Sl} {h : Heap} {todos : List DTd} {picks : List Int} {Q : Bool → Heap → Prop}, Arr h KTd td todos → Arr h ki pk picks → (judgeP first most sl todos picks = 0 → Q true h) → Q false h → c first most sl td pk h Q
def awakeN (sts fls : List Int) : Nat → Int
  | 0 => 0
  | n + 1 => awakeN sts fls n + if sts[n]?.getD 0 = 1 ∧ fls[n + 1]?.getD 0 = 1 then 0 else 1
theorem awakeN_nn (sts fls : List Int) : ∀ n, 0 ≤ awakeN sts fls n ∧ awakeN sts fls n ≤ n
  | 0 => ⟨Int.le_refl _, Int.le_refl _⟩
  | n + 1 => by
    have := awakeN_nn sts fls n
    show 0 ≤ awakeN sts fls n + _ ∧ awakeN sts fls n + _ ≤ ((n + 1 : Nat) : Int)
    split <;> omega
theorem awakeN_zero {sts fls : List Int} : ∀ {n : Nat}, (∀ i, i < n → sts[i]?.getD 0 = 1 ∧ fls[i + 1]?.getD 0 = 1) → awakeN sts fls n = 0
  | 0, _ => rfl
  | n + 1, h => by
    show awakeN sts fls n + _ = 0
    rw [awakeN_zero fun i a => h i (by omega), if_pos (h n (by omega))]; rfl
def AwakeC9 (c : Den KRun → Heap → (Int → Heap → Prop) → Prop) : Prop := ∀ {h : Heap} {r : Den KRun} {sts fls : List Int} {Q : Int → Heap → Prop}, Arr h ki r.2.2.1 sts → Arr h ki r.2.2.2.1 fls → fls.length = 1 + sts.length → sts.length ≤ 100 → Q (awakeN sts fls sts.length) h → c r h Q
theorem awake_spec : AwakeC9 law9_awake.M := by
  intro h r sts fls Q hs hf hl hn hQ
  obtain ⟨tkS, lfS, stS, flS, sl', dn', wk', bt', lgS, u⟩ := r
  have hs : Arr h ki stS sts := hs
  have hf : Arr h ki flS fls := hf
  have l1 := hs.1
  have l2 := hf.1
  refine Loop.up sts.length (fun s => s.2.1) (fun i s g => g = h ∧ s.1 = awakeN sts fls i) rfl ⟨rfl, rfl⟩ ?_
  rintro i ⟨n, i', u'⟩ g go hi hc ⟨rfl, hN⟩ hgo
  dsimp only at hc hN; subst hc
  have b := awakeN_nn sts fls i
  refine dcase (fun d => ?_) (fun d => ?_)
  · have d : (i : Int) < (stS.len : Int) := d
    have hil : i < sts.length := by omega
    obtain ⟨x, hx⟩ : ∃ x, sts[i]? = some x := ⟨_, List.getElem?_eq_getElem hil⟩
    obtain ⟨y, hy⟩ : ∃ y, fls[i + 1]? = some y := ⟨_, List.getElem?_eq_getElem (by omega)⟩
    obtain ⟨a, ha⟩ := hs.addr (by omega)
    obtain ⟨af, haf⟩ := hf.addr (by omega)
    have fin : ∀ {z : Bool}, z = !(decide (x = 1 ∧ y = 1)) → law9_awake.j2 go (n, (i : Int), u') (z, ()) g := fun {z} ez => by
      have wi : w64 ((i : Int) + 1) = ((i + 1 : Nat) : Int) := by rw [w64_of] <;> omega
      have e : awakeN sts fls (i + 1) = awakeN sts fls i + if x = 1 ∧ y = 1 then 0 else 1 := by
        show awakeN sts fls i + (if sts[i]?.getD 0 = 1 ∧ fls[i + 1]?.getD 0 = 1 then 0 else 1) = _
        rw [hx, hy]; rfl
      refine ⟨fun q => hgo hil _ _ wi ⟨rfl, ?_⟩, fun q => hgo hil _ _ wi ⟨rfl, ?_⟩⟩
      · have q : z = true := q
        rw [q] at ez
        have : ¬ (x = 1 ∧ y = 1) := of_decide_eq_false (by revert ez; cases decide (x = 1 ∧ y = 1) <;> simp)
        show w64 (n + 1) = _
        have w1 : w64 (awakeN sts fls i + 1) = awakeN sts fls i + 1 := by rw [w64_of] <;> omega
        rw [e, if_neg this, hN]; exact w1
      · have q : z = false := q
        rw [q] at ez
        have : x = 1 ∧ y = 1 := of_decide_eq_true (by revert ez; cases decide (x = 1 ∧ y = 1) <;> simp)
        show n = _
        rw [e, if_pos this, hN, Int.add_zero]
    refine ⟨⟨by show (0 : Int) ≤ (i : Int); omega, d⟩, ?_⟩
    show deref stS.a _
    rw [ha]
    show ld ki g (a.add (((i : Nat) : Int).toNat * 1)) _
    rw [Int.toNat_natCast]
    refine hs.ldAt ha hx rfl (dcase (fun q => fin ?_) (fun q => ?_))
    · have q : x ≠ 1 := q
      rw [decide_eq_false (fun z => q z.1)]; rfl
    · have q : x = 1 := Classical.not_not.1 q
      have wi : w64 ((i : Int) + 1) = ((i + 1 : Nat) : Int) := by rw [w64_of] <;> omega
      show (0 ≤ w64 ((i : Int) + 1) ∧ w64 ((i : Int) + 1) < (flS.len : Int)) ∧ deref flS.a fun a12 => ld ki g (a12.add ((w64 ((i : Int) + 1)).toNat * 1)) _
      rw [wi, haf]
      refine ⟨⟨by omega, by omega⟩, ?_⟩
      show ld ki g (af.add ((((i + 1 : Nat) : Int)).toNat * 1)) _
      rw [Int.toNat_natCast]
      refine hf.ldAt haf hy rfl (fin ?_)
      by_cases e : y = 1
      · rw [decide_eq_true (show x = 1 ∧ y = 1 from ⟨q, e⟩), decide_eq_false (fun z => z e)]; rfl
      · rw [decide_eq_false (show ¬ (x = 1 ∧ y = 1) from fun z => e z.2), decide_eq_true (show y ≠ 1 from e)]; rfl
  · have d : ¬ (i : Int) < (stS.len : Int) := d
    obtain rfl : i = sts.length := by omega
    show Q n g
    rw [hN]; exact hQ
section
variable {first most : Int} {P : Nat} {todos : List DTd} {ws : List Nat} {s : PkS} (E : EndP first most P todos ws s)
include E
end
def sumL (fls : List Int) : Nat → Int
  | 0 => 0
  | n + 1 => sumL fls n + fls[n + 1]?.getD 0
section
variable {first most : Int} {P : Nat} {todos : List DTd} {ws : List Nat} {s : PkS} (E : EndP first most P todos ws s)
include E
theorem EndP.flat {i : Nat} (a : 1 ≤ i) (b : i < P) : (flagsOf s.g.m.cs P)[i]? = some (FLc s (i : Int)) ∧ (FLc s (i : Int) = 0 ∨ FLc s (i : Int) = 1) ∧ ((s.g.act i).state ≠ 0 → FLc s (i : Int) = 1 → (s.g.act i).state = 1) := by
  refine ⟨(E.pk.flag i).2 b, E.fl.f01 i a b, fun q f => ?_⟩
  have z := E.fl.fz i a b
  rw [E.pk.state a b] at q ⊢
  revert q z
  cases s.sm i <;> simp [SM.down, f]
theorem EndP.count (b : s.wm = .idle) (h : ∀ i, 1 ≤ i → i < P → (s.g.act i).state ≠ 0) : SLc s = sumL (flagsOf s.g.m.cs P) (P - 1) := by
  rw [E.fl.sl, b]
  show _ + 0 = _
  rw [Int.add_zero]
  have main : ∀ n, n ≤ P - 1 → sumN (fun i => wS (s.sm i) (FLc s (i : Int))) n = sumL (flagsOf s.g.m.cs P) n := fun n => by
    induction n with
    | zero => exact fun _ => rfl
    | succ n ih =>
      intro hn
      show sumN _ n + wS (s.sm (n + 1)) (FLc s ((n + 1 : Nat) : Int)) = sumL _ n + (flagsOf s.g.m.cs P)[n + 1]?.getD 0
      rw [ih (by omega), (E.flat (i := n + 1) (by omega) (by omega)).1]
      show _ = _ + FLc s ((n + 1 : Nat) : Int)
      have st := h (n + 1) (by omega) (by omega)
      have fz := E.fl.fz (n + 1) (by omega) (by omega)
      rw [E.pk.state (by omega) (by omega)] at st
      congr 1
      revert st fz
      cases s.sm (n + 1) <;> simp [SM.down, wS] <;> omega
  exact main (P - 1) (Nat.le_refl _)
end
end Go.Mx
