/-
  The law ParkHalts.
-/
import Derived.Test.YtndhbkhhehleaaaMxWu
set_option linter.unusedVariables false
set_option linter.unusedSimpArgs false
set_option linter.unusedSectionVars false
namespace Go.Mx

/-! ### the picks -/
def oneL (sl : Nat) : List Int := (List.range sl).map fun (k : Nat) => (k : Int) + 1
def rndL (sl : Nat) : Nat → List Int
  | 0 => []
  | t + 1 => rndL sl t ++ oneL sl
def dscL (n sl : Nat) : Nat → List Int
  | 0 => []
  | m + 1 => dscL n sl m ++ List.replicate n ((sl : Int) - m)
theorem oneL_succ (sl : Nat) : oneL (sl + 1) = oneL sl ++ [(sl : Int) + 1] := by
  unfold oneL
  rw [List.range_succ, List.map_append]; rfl
theorem oneL_len (sl : Nat) : (oneL sl).length = sl := by unfold oneL; simp
theorem rndL_len (sl : Nat) : ∀ t, (rndL sl t).length = t * sl
  | 0 => by simp [rndL]
  | t + 1 => by rw [rndL, List.length_append, rndL_len sl t, oneL_len, Nat.succ_mul]
theorem dscL_len (n sl : Nat) : ∀ m, (dscL n sl m).length = m * n
  | 0 => by simp [dscL]
  | m + 1 => by rw [dscL, List.length_append, dscL_len n sl m, List.length_replicate, Nat.succ_mul]
theorem whos_app (s : Int) (a b : List Int) : whos s (a ++ b) = whos s a ++ whos s b := List.map_append ..
theorem whos_zero (s : Int) (o : Nat) : whos s (List.replicate o 0) = List.replicate o 0 := by
  unfold whos
  rw [List.map_replicate, Int.zero_emod]; rfl
theorem whos_one {sl P : Nat} (hP : sl + 1 = P) : whos (sl : Int) (oneL sl) = (List.range sl).map (· + 1) := by
  unfold whos oneL
  rw [List.map_map]
  refine List.map_congr_left fun k hk => ?_
  have := List.mem_range.1 hk
  show (((k : Int) + 1) % (1 + (sl : Int))).toNat = k + 1
  rw [Int.emod_eq_of_lt (by omega) (by omega)]; omega
theorem rnd_mem {sl P : Nat} (hP : sl + 1 = P) : ∀ t, ∀ w ∈ whos (sl : Int) (rndL sl t), w < P ∧ w ≠ 0
  | 0, w, h => by cases h
  | t + 1, w, h => by
    rw [rndL, whos_app] at h
    rcases List.mem_append.1 h with q | q
    · exact rnd_mem hP t w q
    · rw [whos_one hP] at q
      obtain ⟨k, hk, rfl⟩ := List.mem_map.1 q
      have := List.mem_range.1 hk
      exact ⟨by omega, by omega⟩
theorem rnd_count {sl P : Nat} (hP : sl + 1 = P) {i : Nat} (a : 1 ≤ i) (b : i < P) : ∀ t, t ≤ (whos (sl : Int) (rndL sl t)).count i
  | 0 => Nat.zero_le _
  | t + 1 => by
    rw [rndL, whos_app, List.count_append, whos_one hP]
    have := rnd_count hP a b t
    have m : i ∈ (List.range sl).map (· + 1) := List.mem_map.2 ⟨i - 1, List.mem_range.2 (by omega), by omega⟩
    have := List.count_pos_iff.2 m
    omega
theorem whos_desc {n sl m : Nat} (h : m < sl) : whos (sl : Int) (List.replicate n ((sl : Int) - m)) = List.replicate n (sl - m) := by
  unfold whos
  rw [List.map_replicate, Int.emod_eq_of_lt (by omega) (by omega)]
  congr 1; omega
theorem dsc_mem {n sl P : Nat} (hP : sl + 1 = P) : ∀ m, m ≤ sl → ∀ w ∈ whos (sl : Int) (dscL n sl m), w < P ∧ w ≠ 0
  | 0, _, w, h => by cases h
  | m + 1, hm, w, h => by
    rw [dscL, whos_app, whos_desc (by omega)] at h
    rcases List.mem_append.1 h with q | q
    · exact dsc_mem hP m (by omega) w q
    · have := (List.mem_replicate.1 q).2
      omega
theorem dsc_count {n sl P : Nat} (hP : sl + 1 = P) {i : Nat} (a : 1 ≤ i) (b : i < P) : ∀ m, m ≤ sl → sl - m < i → n ≤ (whos (sl : Int) (dscL n sl m)).count i
  | 0, _, h => by omega
  | m + 1, hm, h => by
    rw [dscL, whos_app, List.count_append, whos_desc (by omega)]
    by_cases e : i = sl - m
    · rw [e, List.count_replicate_self]; omega
    · have := dsc_count (n := n) hP a b m (by omega) (by omega)
      omega
def RoundsC (c : Sl → Int → Int → Int → Heap → (Sl → Heap → Prop) → Prop) : Prop := ∀ {h : Heap} {pk : Sl} {ps : List Int} {o sl t : Nat} {Q : Sl → Heap → Prop}, Arr h ki pk ps → ps.length ≤ 10000000 → o ≤ 10000000 → sl ≤ 100 → t ≤ 10000000 → t * sl ≤ 10000000 → (∀ s h', New h h' ki s (ps ++ List.replicate o 0 ++ rndL sl t) → Q s h') → c pk (o : Int) (sl : Int) (t : Int) h Q
theorem rounds_spec : RoundsC law9_rounds.M := by
  intro h pk ps o sl t Q hp hl ho hs ht hts hQ
  have pl := hp.1
  refine New.mk0 fun p h1 n1 => ?_
  refine n1.apps (hp.le n1.le) rfl rfl (by show (0 + pk.len) * 8 ≤ _; omega) fun s2 h2 n2 => ?_
  rw [List.nil_append] at n2
  refine Loop.up o (fun s => s.2.1) (fun i x k => New h k ki x.1 (ps ++ List.replicate i 0)) rfl (by show New h h2 ki s2 (ps ++ []); rw [List.append_nil]; exact n2) ?_
  rintro i ⟨s3, i', u⟩ k go hi hc n3 hgo
  dsimp only at hc n3; subst hc
  have l3 := n3.len
  rw [List.length_append, List.length_replicate] at l3
  refine dcase (fun d => ?_) (fun d => ?_)
  · have d : (i : Int) < (o : Int) := d
    refine n3.app (x := (0 : Int)) rfl rfl (by omega) fun s4 h4 n4 => hgo (by omega) _ _ (by show w64 ((i : Int) + 1) = _; rw [w64_of] <;> omega) ?_
    show New h h4 ki s4 (ps ++ List.replicate (i + 1) 0)
    rw [List.replicate_succ', ← List.append_assoc]
    exact n4
  · have d : ¬ (i : Int) < (o : Int) := d
    obtain rfl : i = o := by omega
    clear hgo go d hi
    refine Loop.up t (fun s => s.2.1) (fun m x k => New h k ki x.1 (ps ++ List.replicate i 0 ++ rndL sl m)) rfl (by show New h k ki s3 (_ ++ []); rw [List.append_nil]; exact n3) ?_
    rintro m ⟨s5, m', u5⟩ k5 go hm hc n5 hgo
    dsimp only at hc n5; subst hc
    refine dcase (fun d => ?_) (fun d => ?_)
    · have d : (m : Int) < (t : Int) := d
      have ml : (rndL sl m).length ≤ 10000000 := by
        rw [rndL_len]
        exact Nat.le_trans (Nat.mul_le_mul_right sl (by omega : m ≤ t)) hts
      refine Loop.up sl (fun s => s.2.1 - 1) (fun j x k => New h k ki x.1 (ps ++ List.replicate i 0 ++ rndL sl m ++ oneL j)) rfl (by show New h k5 ki s5 (_ ++ oneL 0); rw [show oneL 0 = [] from rfl, List.append_nil]; exact n5) ?_
      rintro j ⟨s6, j', u6⟩ k6 go6 hj hc n6 hgo6
      dsimp only at hc n6
      obtain rfl : j' = (j : Int) + 1 := by omega
      have l6 := n6.len
      rw [List.length_append, List.length_append, List.length_append, List.length_replicate, oneL_len] at l6
      refine dcase (fun d => ?_) (fun d => ?_)
      · have d : (j : Int) + 1 ≤ (sl : Int) := d
        refine n6.app (x := ((j : Int) + 1)) rfl rfl (by omega) fun s7 h7 n7 => hgo6 (by omega) _ _ (by show w64 ((j : Int) + 1 + 1) - 1 = _; rw [w64_of (by omega) (by omega)]; omega) ?_
        show New h h7 ki s7 (ps ++ List.replicate i 0 ++ rndL sl m ++ oneL (j + 1))
        rw [oneL_succ, ← List.append_assoc]
        exact n7
      · have d : ¬ (j : Int) + 1 ≤ (sl : Int) := d
        obtain rfl : j = sl := by omega
        refine hgo (by omega) _ _ (by show w64 ((m : Int) + 1) = _; rw [w64_of] <;> omega) ?_
        show New h k6 ki s6 (ps ++ List.replicate i 0 ++ rndL j (m + 1))
        rw [rndL, ← List.append_assoc]
        exact n6
    · have d : ¬ (m : Int) < (t : Int) := d
      obtain rfl : m = t := by omega
      exact hQ s5 k5 n5
/-! ### the end -/
structure HaltE (P : Nat) (s : PkS) : Prop where
  wm : s.wm = .idle
  dn : DNc s = 1
  sl : SLc s = 0
  f0 : FLc s 0 = 0
  ha : ∀ i : Nat, 1 ≤ i → i < P → s.sm i = .halt ∧ FLc s (i : Int) = 0
theorem park_halts {first most : Int} (hc : CapE first most) {P : Nat} (p1 : 1 ≤ P) (p8 : P ≤ 8) {l : List DTd} (hf : ∃ t ∈ l, isFin t) {ws ws3 : List Nat} (hw : ∀ w ∈ ws, w < P) (h3 : ∀ w ∈ ws3, w < P ∧ w ≠ 0) (hn : ws.length + ws3.length ≤ 100000000)
    (c0 : (16 + 2 * P) * (l.length + 1) ≤ ws.count 0) (c3 : ∀ i, 1 ≤ i → i < P → 2 * P + 10 ≤ ws3.count i) : ∃ s, s.g = parkOf first most P l (ws ++ ws3) ∧ (∃ N, PkI first most P s N) ∧ HaltE P s := by
  have z : ∀ y, 0 ≤ y → y < 2 + (P : Int) → gt (pk0 first most P l).g.m.cs y = 0 := fun y a b => layP_lot hc P a b
  obtain ⟨s, e, I, F, M, C, H, Fi⟩ := park_run (fun vs s => FlagI P s ∧ MovI l P vs s ∧ CntI l most P s ∧ HaltI P s ∧ FinI l s) ws [] (pk0_I hc p1 p8 l) ⟨pk0_flag hc p1 l, pk0_mov l, pk0_cnt hc p1 l, fun d => by
      have := z 1 (by decide) (by omega)
      have d : gt (pk0 first most P l).g.m.cs 1 = 1 := d
      omega, fun q => .inr (.inr q)⟩ (by omega) hw fun vs w s s' N hw I ⟨F, M, C, H, Fi⟩ I' R => ⟨F.pick I hw R, M.pick I hw R, C.pick I hw R, by
        cases R with
        | none q e => subst e; exact H
        | go s1 I1 k p a r => exact (H.pre k p).go (F.pre p1 hw k p) p1 hw r, by
        cases R with
        | none q e => subst e; exact Fi
        | go s1 I1 k p a r => exact (Fi.pre k p).go p1 hw r⟩
  have idle : s.g.todos = [] ∧ s.wm = .idle := by
    rcases M.w0 with q | ⟨_, q⟩
    · exfalso
      obtain ⟨nP, nQ, nF, nW, T, L, C⟩ := C
      have := (C.through I).1
      rw [q] at this
      have c0 : ((16 + 2 * (P : Int)) * ((l.length : Int) + 1)) ≤ (((([] : List Nat) ++ ws).count 0 : Nat) : Int) := by
        rw [List.nil_append]
        exact_mod_cast c0
      omega
    · exact q
  have dn : DNc s = 1 := by
    rcases Fi hf with q | q | ⟨t, ht, _⟩
    · exact q
    · rw [idle.2] at q; cases q
    · rw [idle.1] at ht; cases ht
  have start : Hal3 P [] s := ⟨idle.2, idle.1, dn, F, H, fun i a b => .inr (by have := (hme_start I a b).1; simpa using this)⟩
  obtain ⟨s', e', I', h'⟩ := park_runW (fun w => w ≠ 0) (Hal3 P) ws3 [] I start (by omega) h3 fun vs w s s' N hw n I h I' R => h.pick I I' hw n R
  have hal : ∀ i, 1 ≤ i → i < P → s'.sm i = .halt := fun i a b => by
    obtain ⟨x, y, z⟩ := hme_start I' a b
    rcases h'.me i a b with q | q
    · exact z q
    · rw [List.nil_append] at q
      have := c3 i a b
      exact z (by omega)
  have flz : ∀ i : Nat, 1 ≤ i → i < P → FLc s' (i : Int) = 0 := fun i a b => h'.fl.fz i a b (by rw [hal i a b]; trivial)
  refine ⟨s', ?_, ⟨_, I'⟩, h'.wm, h'.dn, ?_, h'.fl.f0, fun i a b => ⟨hal i a b, flz i a b⟩⟩
  · rw [e', e]
    unfold parkOf
    rw [PG.run_app]; rfl
  · rw [h'.fl.sl, h'.wm]
    have : sumN (fun i => wS (s'.sm i) (FLc s' (i : Int))) (P - 1) = ((P - 1 : Nat) : Int) * 0 := sumN_const fun j a b => by
      show wS (s'.sm j) (FLc s' (j : Int)) = 0
      rw [hal j a (by omega)]; rfl
    rw [this, Int.mul_zero]; rfl
theorem halts_spec {cF cR cM cP} (iF : FairC9 cF) (iR : RoundsC cR) (iM : ∀ {x n : Int} {h : Heap} {Q : Int → Heap → Prop}, 0 < n → n ≤ 1000000000 → Q (x % n) h → cM x n h Q) (iP : PlayK cP) {first most sl order : Int} {td pk : Sl} {h : Heap} {todos : List DTd} {picks : List Int} (ht : Arr h KTd td todos) (hp : Arr h ki pk picks) {Q : Bool → Heap → Prop} (hQ : ∀ h', Go.Mx.le h h' → Q true h') :
    law9_ParkHalts.M cF cR cM cP first most sl td pk order h Q := by
  refine iF ht hp (fun j => ⟨fun q => (by cases q), fun _ => ?_⟩) ⟨fun _ => hQ h (.refl h), fun q => (by cases q)⟩
  obtain ⟨t1, t2, hc, s0, s7, ka⟩ := judgeP_ok.1 j
  obtain ⟨S, rfl⟩ : ∃ S : Nat, sl = (S : Int) := ⟨sl.toNat, by omega⟩
  have tl := ht.1
  have pl := hp.1
  refine New.mk0 fun p10 h1 n1 => n1.apps (ht.le n1.le) rfl rfl (by show (0 + td.len) * 16 ≤ _; omega) fun s2 h2 n2 => ?_
  rw [List.nil_append] at n2
  refine n2.app (x := ((3 : Int), ((0 : Int), ()))) rfl rfl (by have := n2.len; omega) fun s3 h3 n3 => ?_
  obtain ⟨l, hl⟩ : ∃ l : List DTd, l = todos ++ [((3 : Int), ((0 : Int), ()))] := ⟨_, rfl⟩
  rw [← hl] at n3
  have l3 := n3.len
  have ll : l.length = todos.length + 1 := by rw [hl, List.length_append]; rfl
  have lt : l.all kindOk = true := by
    rw [hl, List.all_append, ka]; rfl
  have lf : ∃ t ∈ l, isFin t := ⟨((3 : Int), ((0 : Int), ())), by rw [hl]; simp, (by show ¬ (3 : Int) = 0; decide), (by show ¬ (3 : Int) = 1; decide)⟩
  have yes : law9_ParkHalts.j10 cR cM cP first most (S : Int) pk order Q s3 (true, ()) h3 := ⟨fun _ => hQ h3 n3.le, fun q => (by cases q)⟩
  refine dcase (fun _ => yes) (fun g1 => ?_)
  have g1 : ¬ (4096 : Int) < (s3.len : Int) := g1
  have e1 : w64 (2 * w64 (1 + (S : Int))) = 2 * ((S : Int) + 1) := by rw [w64_of (x := 1 + (S : Int)) (by omega) (by omega), w64_of (by omega) (by omega)]; omega
  have e2 : w64 (w64 (16 + w64 (2 * w64 (1 + (S : Int)))) * w64 ((s3.len : Int) + 1)) = (((16 + 2 * (S + 1)) * (l.length + 1) : Nat) : Int) := by
    have hle : (16 + 2 * (S + 1)) * (l.length + 1) ≤ 32 * 4098 := Nat.mul_le_mul (by omega) (by omega)
    rw [e1, w64_of (x := 16 + 2 * ((S : Int) + 1)) (by omega) (by omega), w64_of (x := (s3.len : Int) + 1) (by omega) (by omega), ← l3]
    have e : (16 + 2 * ((S : Int) + 1)) * ((l.length : Int) + 1) = (((16 + 2 * (S + 1)) * (l.length + 1) : Nat) : Int) := by
      rw [Int.natCast_mul]; congr 1 <;> omega
    rw [e, w64_of] <;> omega
  have e3 : w64 (w64 (2 * w64 (1 + (S : Int))) + 10) = ((2 * (S + 1) + 10 : Nat) : Int) := by rw [e1, w64_of] <;> omega
  obtain ⟨O, hO⟩ : ∃ O : Nat, O = (16 + 2 * (S + 1)) * (l.length + 1) := ⟨_, rfl⟩
  have hO2 : O ≤ 32 * 4098 := by rw [hO]; exact Nat.mul_le_mul (by omega) (by omega)
  rw [← hO] at e2
  have e4 : (S : Int) * ((2 * (S + 1) + 10 : Nat) : Int) = ((S * (2 * (S + 1) + 10) : Nat) : Int) := (Int.natCast_mul ..).symm
  have hS : S * (2 * (S + 1) + 10) ≤ 7 * 26 := Nat.mul_le_mul (by omega) (by omega)
  show law9_ParkHalts.j10 cR cM cP first most (S : Int) pk order Q s3 (decide ((1048576 : Int) < w64 (w64 ((pk.len : Int) + w64 (w64 (16 + w64 (2 * w64 (1 + (S : Int)))) * w64 ((s3.len : Int) + 1))) + w64 ((S : Int) * w64 (w64 (2 * w64 (1 + (S : Int))) + 10)))), ()) h3
  rw [e2, e3, e4, w64_of (x := (pk.len : Int) + (O : Int)) (by omega) (by omega), w64_of (x := ((S * (2 * (S + 1) + 10) : Nat) : Int)) (by omega) (by omega), w64_of (by omega) (by omega)]
  by_cases g2 : (1048576 : Int) < (pk.len : Int) + (O : Int) + ((S * (2 * (S + 1) + 10) : Nat) : Int)
  · rw [decide_eq_true g2]; exact yes
  rw [decide_eq_false g2]
  refine ⟨fun q => (by cases q), fun _ => ?_⟩
  show cR pk (w64 (w64 (16 + w64 (2 * w64 (1 + (S : Int)))) * w64 ((s3.len : Int) + 1))) 0 0 h3 _
  rw [e2]
  refine iR (o := O) (sl := 0) (t := 0) (hp.le n3.le) (by omega) (by omega) (by omega) (by omega) (by omega) fun s4 h4 n4 => ?_
  rw [show rndL 0 0 = [] from rfl, List.append_nil] at n4
  have la : (picks ++ List.replicate O (0 : Int)).length = picks.length + O := by rw [List.length_append, List.length_replicate]
  have l4 := n4.len
  rw [la] at l4
  -- the whole of the picks, and what comes of them
  have fin : ∀ {s6 : Sl} {h6 : Heap} {rs : List Int}, Go.Mx.le h3 h6 → Arr h6 ki s6 (picks ++ List.replicate O 0 ++ rs) → rs.length = S * (2 * (S + 1) + 10) → (∀ w ∈ whos (S : Int) rs, w < S + 1 ∧ w ≠ 0) → (∀ i, 1 ≤ i → i < S + 1 → 2 * (S + 1) + 10 ≤ (whos (S : Int) rs).count i) → law9_ParkHalts.j6 cP first most (S : Int) Q s3 (s6, ()) h6 := fun {s6 h6 rs} le6 a6 lr m6 c6 => by
    have al := a6.1
    rw [List.length_append, la, lr] at al
    have jj : judgeP first most (S : Int) l (picks ++ List.replicate O 0 ++ rs) = 0 := judgeP_ok.2 ⟨by omega, by rw [List.length_append, la, lr]; omega, hc, s0, s7, lt⟩
    refine iP (n3.arr.le le6) a6 jj fun r h' s P hP E R => ?_
    obtain rfl : P = S + 1 := by omega
    have le' := R.tk.le
    obtain ⟨s2', e2', ⟨N, I2⟩, HE⟩ := park_halts (P := S + 1) hc (by omega) (by omega) lf (ws := whos (S : Int) (picks ++ List.replicate O 0)) (ws3 := whos (S : Int) rs) (whos_lt s0 hP) m6 (by rw [whos_len, whos_len, la, lr]; omega) (by
      rw [whos_app, List.count_append, whos_zero, List.count_replicate_self]
      omega) c6
    have eg : s2'.g = s.g := by rw [e2', ← whos_app]; exact E.g.symm
    rw [← eg] at R
    obtain ⟨tkS, lfS, stS, flS, sl', dn', wk', bt', lgS, u⟩ := r
    have ebt : bt' = true := by
      have e : bt' = (decide ((s2'.g.act 0).busy = 0) && !(s2'.g.act 0).wakes) := R.bt
      rw [e]; exact I2.between.2 HE.wm
    have esl : sl' = 0 := (show sl' = SLc s2' from R.sl).trans HE.sl
    have edn : dn' = 1 := (show dn' = DNc s2' from R.dn).trans HE.dn
    have st : Arr h' ki stS (statesOf (s2'.g.acts.drop 1)) := R.st.arr
    have fl : Arr h' ki flS (flagsOf s2'.g.m.cs (S + 1)) := by have := R.fl.arr; rw [I2.len] at this; exact this
    have stl : (statesOf (s2'.g.acts.drop 1)).length = S := by unfold statesOf; rw [List.length_map, List.length_drop, I2.len]; omega
    have fll := (I2.flag 0).1
    have x1 := st.1
    have x2 := fl.1
    have hw : w64 (1 + (S : Int)) = 1 + (S : Int) := by rw [w64_of] <;> omega
    subst ebt
    refine dno (fun q => q rfl) ⟨fun q => (by cases q), fun _ => dno (fun q => q edn) (dno (fun q => q esl) (dno (show ¬ ((stS.len : Int) ≠ (S : Int)) by omega) ?_))⟩
    show law9_ParkHalts.j5 (S : Int) Q _ (decide ((flS.len : Int) ≠ w64 (1 + (S : Int))), ()) h'
    rw [hw, decide_eq_false (show ¬ ((flS.len : Int) ≠ 1 + (S : Int)) by omega)]
    refine ⟨fun q => (by cases q), fun _ => ?_⟩
    have leh : Go.Mx.le h h' := n3.le.trans (le6.trans le')
    refine Loop.up S (fun s => s.1) (fun i x k => k = h') rfl rfl ?_
    rintro i ⟨i', u9⟩ k go hi hcn rfl hgo
    dsimp only at hcn; subst hcn
    obtain ⟨af, haf⟩ := fl.addr (by omega)
    refine dcase (fun d => ?_) (fun d => ?_)
    · have d : (i : Int) < (S : Int) := d
      obtain ⟨aw, haw⟩ := st.addr (by omega)
      obtain ⟨hh, hf0⟩ := HE.ha (i + 1) (by omega) (by omega)
      have hst : (statesOf (s2'.g.acts.drop 1))[i]? = some 3 := by
        unfold statesOf
        rw [List.getElem?_map, List.getElem?_drop, Nat.add_comm 1 i, gact_get (by rw [I2.len]; omega)]
        show some (s2'.g.act (i + 1)).state = _
        rw [I2.state (by omega) (by omega), hh]
      have hfl : (flagsOf s2'.g.m.cs (S + 1))[i + 1]? = some 0 := by
        rw [(I2.flag (i + 1)).2 (by omega)]
        exact congrArg some hf0
      have wi : w64 ((i : Int) + 1) = ((i + 1 : Nat) : Int) := by rw [w64_of] <;> omega
      refine ⟨⟨by show (0 : Int) ≤ (i : Int); omega, by show (i : Int) < (stS.len : Int); omega⟩, ?_⟩
      show deref stS.a _
      rw [haw]
      show ld ki k (aw.add (((i : Nat) : Int).toNat * 1)) _
      rw [Int.toNat_natCast]
      refine st.ldAt haw hst rfl (dno (fun q => q rfl) ?_)
      show (0 ≤ w64 ((i : Int) + 1) ∧ w64 ((i : Int) + 1) < (flS.len : Int)) ∧ deref flS.a fun a37 => ld ki k (a37.add ((w64 ((i : Int) + 1)).toNat * 1)) _
      rw [wi, haf]
      refine ⟨⟨by omega, by omega⟩, ?_⟩
      show ld ki k (af.add ((((i + 1 : Nat) : Int)).toNat * 1)) _
      rw [Int.toNat_natCast]
      refine fl.ldAt haf hfl rfl ?_
      rw [decide_eq_false (fun q => q rfl)]
      exact ⟨fun q => (by cases q), fun _ => hgo (by omega) _ _ wi rfl⟩
    · have d : ¬ (i : Int) < (S : Int) := d
      have hfl : (flagsOf s2'.g.m.cs (S + 1))[0]? = some 0 := by
        rw [(I2.flag 0).2 (by omega)]
        exact congrArg some HE.f0
      refine ⟨⟨by decide, by show (0 : Int) < (flS.len : Int); omega⟩, ?_⟩
      show deref flS.a _
      rw [haf]
      show ld ki k (af.add ((0 : Int).toNat * 1)) _
      refine fl.ldAt haf (i := 0) hfl rfl ?_
      rw [decide_eq_true rfl]
      exact hQ k leh
  refine iM (by decide) (by decide) (dcase (fun _ => ?_) (fun _ => ?_))
  · show cR s4 0 (S : Int) (w64 (w64 (2 * w64 (1 + (S : Int))) + 10)) h4 _
    rw [e3]
    have tS : (2 * (S + 1) + 10) * S ≤ 26 * 7 := Nat.mul_le_mul (by omega) (by omega)
    refine iR (o := 0) (sl := S) (t := 2 * (S + 1) + 10) n4.arr (by rw [la]; omega) (by omega) (by omega) (by omega) (by omega) fun s5 h5 n5 => ?_
    rw [show List.replicate 0 (0 : Int) = [] from rfl, List.append_nil] at n5
    exact fin (n4.le.trans n5.le) n5.arr (by rw [rndL_len, Nat.mul_comm]) (fun w hw => rnd_mem rfl _ w hw) (fun i a b => rnd_count rfl a b _)
  · refine Loop.up S (fun s => (S : Int) - s.2.1) (fun m x k => New h3 k ki x.1 (picks ++ List.replicate O 0 ++ dscL (2 * (S + 1) + 10) S m)) (by show (S : Int) - (S : Int) = 0; omega) (by show New h3 h4 ki s4 (_ ++ []); rw [List.append_nil]; exact n4) ?_
    rintro m ⟨s5, m', u5⟩ k5 go hm hcn n5 hgo
    dsimp only at hcn n5
    obtain rfl : m' = (S : Int) - (m : Int) := by omega
    refine dcase (fun d => ?_) (fun d => ?_)
    · have d : (1 : Int) ≤ (S : Int) - (m : Int) := d
      have ml : (dscL (2 * (S + 1) + 10) S m).length ≤ 7 * 26 := by rw [dscL_len]; exact Nat.mul_le_mul (by omega) (by omega)
      refine Loop.up (2 * (S + 1) + 10) (fun s => s.2.1) (fun i x k => New h3 k ki x.1 (picks ++ List.replicate O 0 ++ dscL (2 * (S + 1) + 10) S m ++ List.replicate i ((S : Int) - (m : Int)))) rfl (by show New h3 k5 ki s5 (_ ++ []); rw [List.append_nil]; exact n5) ?_
      rintro i ⟨s6, i', u6⟩ k6 go6 hi hcn n6 hgo6
      dsimp only at hcn n6; subst hcn
      have l6 := n6.len
      rw [List.length_append, List.length_append, la, List.length_replicate] at l6
      show (decide ((i : Int) < w64 (w64 (2 * w64 (1 + (S : Int))) + 10)) = true → _) ∧ (decide ((i : Int) < w64 (w64 (2 * w64 (1 + (S : Int))) + 10)) = false → _)
      rw [e3]
      refine dcase (fun d2 => ?_) (fun d2 => ?_)
      · refine n6.app (x := ((S : Int) - (m : Int))) rfl rfl (by omega) fun s7 h7 n7 => hgo6 (by omega) _ _ (by show w64 ((i : Int) + 1) = _; rw [w64_of] <;> omega) ?_
        show New h3 h7 ki s7 (picks ++ List.replicate O 0 ++ dscL (2 * (S + 1) + 10) S m ++ List.replicate (i + 1) ((S : Int) - (m : Int)))
        rw [List.replicate_succ', ← List.append_assoc]
        exact n7
      · obtain rfl : i = 2 * (S + 1) + 10 := by omega
        refine hgo (by omega) _ _ (by show (S : Int) - w64 ((S : Int) - (m : Int) - 1) = _; rw [w64_of (by omega) (by omega)]; omega) ?_
        show New h3 k6 ki s6 (picks ++ List.replicate O 0 ++ dscL (2 * (S + 1) + 10) S (m + 1))
        rw [dscL, ← List.append_assoc]
        exact n6
    · have d : ¬ (1 : Int) ≤ (S : Int) - (m : Int) := d
      obtain rfl : m = S := by omega
      exact fin n5.le n5.arr (by rw [dscL_len]) (fun w hw => dsc_mem rfl m (Nat.le_refl _) w hw) (fun i a b => dsc_count rfl a b m (Nat.le_refl _) (by omega))
end Go.Mx
