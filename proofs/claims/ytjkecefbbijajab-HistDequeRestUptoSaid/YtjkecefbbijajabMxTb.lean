/-
  A game of layer 4: fit, begun, took, has: the walks.
-/
import Derived.Test.YtjkecefbbijajabMxTa
set_option linter.unusedVariables false
set_option linter.unusedSimpArgs false
set_option linter.unusedSectionVars false
namespace Go.Mx

def fitT (n : Nat) (xs : List DTd) : List DTd := (xs.take n).map fun t => (t.1 % 2, (t.2.1, ()))
def fitP (m : Int) (n : Nat) (ys : List Int) : List Int := (ys.take n).map fun y => y % m
theorem fitT_len (n : Nat) (xs : List DTd) : (fitT n xs).length = min n xs.length := by unfold fitT; rw [List.length_map, List.length_take]
theorem fitP_len (m : Int) (n : Nat) (ys : List Int) : (fitP m n ys).length = min n ys.length := by unfold fitP; rw [List.length_map, List.length_take]
theorem fit_judge (a b t : Int) {M P : Nat} (hM : M ≤ 4096) (hP : P ≤ 1048576) (xs : List DTd) (m : Int) (ys : List Int) : judgeE (1 + a % 8) (1 + a % 8 + b % 8) (fitT M xs) (t % 4) (fitP m P ys) = 0 := by
  have h1 := mod_range (x := a) (n := 8) (by decide)
  have h2 := mod_range (x := b) (n := 8) (by decide)
  have h3 := mod_range (x := t) (n := 4) (by decide)
  refine judge_of (by rw [fitT_len]; omega) (by rw [fitP_len]; omega) ⟨by omega, by omega, by omega⟩ h3.1 (by omega) fun x hx => ?_
  obtain ⟨y, _, rfl⟩ := List.mem_map.1 hx
  exact Int.emod_two_eq y.1
theorem fitP_red {t : Int} {n : Nat} {ys : List Int} (h : 0 ≤ t) : ∀ y ∈ fitP (1 + t) n ys, 0 ≤ y ∧ y < 1 + t := fun y hy => by
  obtain ⟨x, _, rfl⟩ := List.mem_map.1 hy
  exact mod_range (by omega)
/-- Each actor that is picked has a call from there on. -/
theorem PF.begun {todos : List DTd} {thieves most : Int} {ps : List Int} {p : PS} (h : PF (whos thieves ps) todos thieves most ps.length p) (t0 : 0 ≤ thieves) (hr : ∀ y ∈ ps, 0 ≤ y ∧ y < 1 + thieves) {w at' : Nat} (hw : w = 0 → todos ≠ []) (ha : ps[at']? = some (w : Int)) (hf : ∀ m, m < at' → ps[m]? ≠ some (w : Int)) : ∃ (j : Nat) (c : DCl), p.calls[j]? = some c ∧ dWho c = (w : Int) ∧ dBeg c = (at' : Int) := by
  have hal := (List.getElem?_eq_some_iff.1 ha).1
  have conv : ∀ (m : Nat) (v : Nat), (whos thieves ps)[m]? = some v ↔ ps[m]? = some (v : Int) := fun m v => by
    unfold whos
    rw [List.getElem?_map]
    cases e : ps[m]? with
    | none => simp
    | some y =>
      have := hr y (List.mem_of_getElem? e)
      have em : y % (1 + thieves) = y := Int.emod_eq_of_lt this.1 this.2
      show some (y % (1 + thieves)).toNat = some v ↔ some y = some (v : Int)
      rw [em, Option.some.injEq, Option.some.injEq]
      omega
  have first : ∀ (j : Nat) (c : DCl), p.calls[j]? = some c → dWho c = (w : Int) → (at' : Int) ≤ dBeg c := fun j c hc hcw => by
    obtain ⟨v, b, q1, q2, q3, q4, _⟩ := h.hi.c1 j c hc
    have vw : v = w := by omega
    subst vw
    by_cases z : b < at'
    · exact absurd ((conv b v).1 q4) (hf b z)
    · omega
  rcases h.hi.idl at' w hal ((conv at' w).2 ha) with ⟨j, a, z1, z2, z3, z4⟩ | ⟨z1, z2, z3⟩
  · exact ⟨j, a, z1, z2, by have := first j a z1 z2; omega⟩
  · exfalso
    subst z1
    have hall := h.own_all z2
    have hne : 0 < nOf 0 p.calls := by
      have := hw rfl
      have : todos.length ≠ 0 := fun q => this (List.length_eq_zero_iff.1 q)
      omega
    unfold nOf at hne
    obtain ⟨c, hc⟩ := List.exists_mem_of_length_pos hne
    obtain ⟨hcm, hcw⟩ := List.mem_filter.1 hc
    obtain ⟨j, hj⟩ := List.mem_iff_getElem?.1 hcm
    have hcw : dWho c = ((0 : Nat) : Int) := of_decide_eq_true hcw
    have := first j c hj hcw
    have := z3 j c hj hcw
    rcases h.hi.c2 j c hj with ⟨y, _⟩ | ⟨e, y1, y2, _⟩ <;> omega

def tookP (c : DCl) (fr to : Int) : Prop := dKind c ≠ 0 ∧ dBeg c ≤ to ∧ (0 ≤ dEnd c → fr ≤ dEnd c) ∧ (dCode c = 4 ∨ dCode c = 0)
instance (c : DCl) (fr to : Int) : Decidable (tookP c fr to) := by unfold tookP; infer_instance
theorem took_spec {c : DCl} {fr to : Int} {h : Heap} {Q : Bool → Heap → Prop} (hQ : Q (decide (tookP c fr to)) h) : law4_took.M c fr to h Q := by
  have no : ¬ tookP c fr to → law4_took.j2 c Q (true, ()) h := fun n => ⟨fun _ => by rw [decide_eq_false n] at hQ; exact hQ, fun z => (by cases z)⟩
  have yes : dKind c ≠ 0 → dBeg c ≤ to → (0 ≤ dEnd c → fr ≤ dEnd c) → law4_took.j2 c Q (false, ()) h := fun a b d => ⟨fun z => (by cases z), fun _ => dcase (fun e => by
      rw [decide_eq_true (show tookP c fr to from ⟨a, b, d, .inl e⟩)] at hQ; exact hQ) (fun e => by
      have : decide (tookP c fr to) = decide (dCode c = 0) := by
        by_cases z : dCode c = 0
        · rw [decide_eq_true z, decide_eq_true (show tookP c fr to from ⟨a, b, d, .inr z⟩)]
        · rw [decide_eq_false z, decide_eq_false (fun q : tookP c fr to => q.2.2.2.elim e z)]
      rw [this] at hQ; exact hQ)⟩
  refine dcase (fun a => no (fun q => q.1 a)) (fun a => dcase (fun b => no (fun q => absurd q.2.1 (Int.not_le.2 b))) (fun b => dcase (fun d => ?_) (fun d => yes a (Int.not_lt.1 b) (fun q => absurd q d))))
  show law4_took.j2 c Q (decide (dEnd c < fr), ()) h
  by_cases e : dEnd c < fr
  · rw [decide_eq_true e]; exact no (fun q => absurd (q.2.2.1 d) (Int.not_le.2 e))
  · rw [decide_eq_false e]; exact yes a (Int.not_lt.1 b) (fun _ => Int.not_lt.1 e)
theorem has_spec {cl : Sl} {h : Heap} {cs : List DCl} (hc : Arr h KCl cl cs) (hn : cs.length ≤ 1048576) {w a : Int} (he : ∃ (j : Nat) (c : DCl), cs[j]? = some c ∧ dWho c = w ∧ dBeg c = a) {Q : Bool → Heap → Prop} (hQ : Q true h) : law4_has.M cl w a h Q := by
  have hcl := hc.1
  refine Loop.up cs.length (fun s => s.1) (fun i s k => k = h ∧ ∀ (j : Nat) c, j < i → cs[j]? = some c → ¬ (dWho c = w ∧ dBeg c = a)) rfl ⟨rfl, fun j c hj => absurd hj (Nat.not_lt_zero _)⟩ ?_
  rintro i ⟨i', u⟩ k go hi hcc ⟨rfl, hI⟩ hgo
  dsimp only at hcc; subst hcc
  refine dcase (fun g => ?_) (fun g => ?_)
  · have g : (i : Int) < (cl.len : Int) := g
    have hil : i < cs.length := by omega
    have hx : cs[i]? = some cs[i] := by simp
    obtain ⟨ac, hac⟩ := hc.addr (by omega)
    refine ⟨⟨Int.natCast_nonneg i, g⟩, ?_⟩
    rw [hac]
    simp only [deref]
    rw [Int.toNat_natCast]
    generalize cs[i] = c at *
    have nxt : ¬ (dWho c = w ∧ dBeg c = a) → law4_has.j2 Q go ((i : Int), u) (false, ()) k := fun n => ⟨fun z => (by cases z), fun _ => hgo hil _ _ (w64_nat (n := cs.length) hil (by omega)) ⟨rfl, fun j c' hj hc' => by
      by_cases z : j = i
      · subst z; rw [hx] at hc'; cases hc'; exact n
      · exact hI j c' (by omega) hc'⟩⟩
    refine hc.ldPart (kp := ki) (y := dWho c) hac hx (PartAt.zero (post := Kd.cells (.pair ki (.pair ki (.pair ki (.pair ki (.pair ki (.pair ki .nil)))))) c.2) rfl) rfl ?_
    refine dcase (fun e => ?_) (fun e => nxt (fun q => e q.1))
    refine ⟨⟨Int.natCast_nonneg i, g⟩, hc.ldPart (kp := ki) (y := dBeg c) hac hx ⟨Kd.cells ki c.1 ++ Kd.cells ki c.2.1 ++ Kd.cells ki c.2.2.1, Kd.cells (.pair ki (.pair ki (.pair ki .nil))) c.2.2.2.2, rfl, rfl⟩ rfl ?_⟩
    show law4_has.j2 Q go ((i : Int), u) (decide (dBeg c = a), ()) k
    by_cases e2 : dBeg c = a
    · rw [decide_eq_true e2]; exact ⟨fun _ => hQ, fun z => (by cases z)⟩
    · rw [decide_eq_false e2]; exact nxt (fun q => e2 q.2)
  · exfalso
    have g : ¬ (i : Int) < (cl.len : Int) := g
    obtain ⟨j, c, z1, z2, z3⟩ := he
    have := (List.getElem?_eq_some_iff.1 z1).1
    exact hI j c (by omega) z1 ⟨z2, z3⟩
theorem begun_spec {g : Den klaw4Game} {cl : Sl} {h : Heap} {cs : List DCl} {ps : List Int} (hc : Arr h KCl cl cs) (hcn : cs.length ≤ 1048576) (hp : Arr h ki g.2.2.2.2.1 ps) (hn : ps.length ≤ 1048576) (t0 : 0 ≤ g.2.2.2.1) (t3 : g.2.2.2.1 ≤ 3)
    (hb : ∀ w at' : Nat, (w = 0 → (g.2.2.1.len : Int) ≠ 0) → ps[at']? = some (w : Int) → (∀ m, m < at' → ps[m]? ≠ some (w : Int)) → ∃ (j : Nat) (c : DCl), cs[j]? = some c ∧ dWho c = (w : Int) ∧ dBeg c = (at' : Int))
    {c1 : Sl → Int → Int → Heap → (Bool → Heap → Prop) → Prop} (i1 : ∀ {s w a h Q}, law4_has.M s w a h Q → c1 s w a h Q) {Q : Bool → Heap → Prop} (hQ : Q true h) : law4_Game_begun.M c1 g cl h Q := by
  have hpl := hp.1
  refine Loop.up (g.2.2.2.1.toNat + 1) (fun s => s.1) (fun i s k => k = h) rfl rfl ?_
  rintro w ⟨w', u⟩ k go hi hcc rfl hgo
  dsimp only at hcc; subst hcc
  refine dcase (fun e => ?_) (fun _ => hQ)
  have e : (w : Int) ≤ g.2.2.2.1 := e
  have e4 : (w : Int) ≤ 3 := Int.le_trans e t3
  have e5 : w < g.2.2.2.1.toNat + 1 := Nat.lt_succ_of_le (Int.le_toNat t0 |>.2 e)
  have nxt : law4_Game_begun.j1 go ((w : Int), u) () k := hgo e5 _ _ (w64_nat (n := 10) (by omega) (by omega)) rfl
  have look : (w = 0 → (g.2.2.1.len : Int) ≠ 0) → law4_Game_begun.j4 c1 g cl Q go ((w : Int), u) (false, ()) k := fun hw0 => ⟨fun z => (by cases z), fun _ => by
    refine Loop.up ps.length (fun s => s.1) (fun i s k' => k' = k ∧ ∀ m, m < i → ps[m]? ≠ some (w : Int)) rfl ⟨rfl, fun m hm => absurd hm (Nat.not_lt_zero _)⟩ ?_
    rintro i ⟨i', u2⟩ k' go2 hi hcc ⟨rfl, hI⟩ hgo2
    dsimp only at hcc; subst hcc
    refine dcase (fun gg => ?_) (fun _ => nxt)
    have gg : (i : Int) < (g.2.2.2.2.1.len : Int) := gg
    have hil : i < ps.length := by omega
    have hx : ps[i]? = some ps[i] := by simp
    refine ⟨⟨Int.natCast_nonneg i, gg⟩, hp.at (i := ((i : Nat) : Int)) (Int.natCast_nonneg _) gg rfl fun y hy => ?_⟩
    rw [Int.toNat_natCast, hx] at hy
    have hy := Option.some.inj hy
    subst hy
    refine dcase (fun z => ?_) (fun z => ?_)
    · have z : ps[i] = (w : Int) := z
      refine i1 (has_spec hc hcn (hb w i hw0 (by rw [hx, z]) hI) ⟨fun q => (by cases q), fun _ => nxt⟩)
    · have z : ¬ ps[i] = (w : Int) := z
      refine hgo2 hil _ _ (w64_nat (n := ps.length) hil (by omega)) ⟨rfl, fun m hm => ?_⟩
      by_cases em : m = i
      · subst em; rw [hx]; exact fun q => z (Option.some.inj q)
      · exact hI m (by omega)⟩
  refine dcase (fun z => ?_) (fun z => look (fun q => absurd (show (w : Int) = 0 by omega) z))
  show law4_Game_begun.j4 c1 g cl Q go ((w : Int), u) (decide ((g.2.2.1.len : Int) = 0), ()) k
  by_cases q : (g.2.2.1.len : Int) = 0
  · rw [decide_eq_true q]; exact ⟨fun _ => nxt, fun z => (by cases z)⟩
  · rw [decide_eq_false q]; exact look (fun _ => q)
theorem lmod4_spec {x n : Int} (h0 : 0 < n) (h1 : n ≤ 1000000000) {h : Heap} {Q : Int → Heap → Prop} (hQ : Q (x % n) h) : law4_mod.M x n h Q := lmod_spec h0 h1 hQ
theorem fit_spec {g : Den klaw4Game} {h : Heap} {xs : List DTd} {ys : List Int} (ht : Arr h KTd g.2.2.1 xs) (hp : Arr h ki g.2.2.2.2.1 ys) {M P : Nat} (hM : M ≤ 4096) (hP : P ≤ 1048576) {c1 : Int → Int → Heap → (Int → Heap → Prop) → Prop} (i1 : ∀ {x n h Q}, law4_mod.M x n h Q → c1 x n h Q)
    {Q : Den klaw4Game → Heap → Prop} (hQ : ∀ td pk h', New h h' KTd td (fitT M xs) → New h h' ki pk (fitP (1 + g.2.2.2.1 % 4) P ys) → Q ((1 + g.1 % 8), ((1 + g.1 % 8 + g.2.1 % 8), (td, ((g.2.2.2.1 % 4), (pk, ()))))) h') : law4_Game_fit.M c1 g (M : Int) (P : Int) h Q := by
  have r1 := mod_range (x := g.1) (n := 8) (by decide)
  have r2 := mod_range (x := g.2.1) (n := 8) (by decide)
  have r3 := mod_range (x := g.2.2.2.1) (n := 4) (by decide)
  have htl := ht.1
  have hpl := hp.1
  refine i1 (lmod4_spec (by decide) (by decide) (i1 (lmod4_spec (by decide) (by decide) (i1 (lmod4_spec (by decide) (by decide) ?_)))))
  have w1 : w64 (1 + g.1 % 8) = 1 + g.1 % 8 := by rw [w64_of] <;> omega
  have w2 : w64 (1 + g.1 % 8 + g.2.1 % 8) = 1 + g.1 % 8 + g.2.1 % 8 := by rw [w64_of] <;> omega
  rw [w1, w2]
  generalize g.1 % 8 = lo at *
  generalize g.2.1 % 8 = mo at *
  generalize g.2.2.2.1 % 4 = th at *
  have wt : w64 (1 + th) = 1 + th := by rw [w64_of] <;> omega
  refine Loop.up (min M xs.length) (fun s => s.1) (fun i s k => ∃ td, s.2.1 = (1 + lo, (1 + lo + mo, (td, (th, (Sl.none, ()))))) ∧ New h k KTd td (fitT i xs)) rfl ⟨Sl.none, rfl, New.nil h KTd⟩ ?_
  rintro i ⟨i', ⟨gm, u⟩⟩ k go hi hcc ⟨td, e1, n1⟩ hgo
  dsimp only at hcc e1; subst hcc e1
  have n1l := n1.len
  rw [fitT_len] at n1l
  -- the picks
  have picks : i = min M xs.length → law4_Game_fit.j7 c1 g (P : Int) Q go ((i : Int), (((1 + lo), ((1 + lo + mo), (td, (th, (Sl.none, ()))))), u)) (false, ()) k := fun ei => by
    have n1' : New h k KTd td (fitT M xs) := by
      have : fitT i xs = fitT M xs := by
        unfold fitT
        rw [ei]
        by_cases z : M ≤ xs.length
        · rw [Nat.min_eq_left z]
        · rw [Nat.min_eq_right (by omega), List.take_length, List.take_of_length_le (by omega)]
      rw [← this]; exact n1
    refine ⟨fun z => (by cases z), fun _ => ?_⟩
    refine Loop.up (min P ys.length) (fun s => s.1) (fun i s k' => ∃ pk, s.2.1 = (1 + lo, (1 + lo + mo, (td, (th, (pk, ()))))) ∧ New k k' ki pk (fitP (1 + th) i ys)) rfl ⟨Sl.none, rfl, New.nil k ki⟩ ?_
    rintro i ⟨i', ⟨gm, u⟩⟩ k' go2 hi hcc ⟨pk, e1, n2⟩ hgo2
    dsimp only at hcc e1; subst hcc e1
    have n2l := n2.len
    rw [fitP_len] at n2l
    have stop : i = min P ys.length → law4_Game_fit.j3 c1 g Q go2 ((i : Int), (((1 + lo), ((1 + lo + mo), (td, (th, (pk, ()))))), u)) (false, ()) k' := fun ei => ⟨fun z => (by cases z), fun _ => by
      have : fitP (1 + th) i ys = fitP (1 + th) P ys := by
        unfold fitP
        rw [ei]
        by_cases z : P ≤ ys.length
        · rw [Nat.min_eq_left z]
        · rw [Nat.min_eq_right (by omega), List.take_length, List.take_of_length_le (by omega)]
      exact hQ td pk k' (n1'.more n2.le) (by rw [← this]; exact n2.base n1.le)⟩
    refine dcase (fun gg => ?_) (fun gg => stop (by have gg : ¬ (i : Int) < (g.2.2.2.2.1.len : Int) := gg; omega))
    have gg : (i : Int) < (g.2.2.2.2.1.len : Int) := gg
    show law4_Game_fit.j3 c1 g Q go2 _ (decide ((i : Int) < (P : Int)), ()) k'
    by_cases q : (i : Int) < (P : Int)
    · rw [decide_eq_true q]
      have hil : i < ys.length := by omega
      have hx : ys[i]? = some ys[i] := by simp
      refine ⟨fun _ => ⟨⟨Int.natCast_nonneg i, gg⟩, (hp.le (n1.le.trans n2.le)).at (i := ((i : Nat) : Int)) (Int.natCast_nonneg _) gg rfl fun y hy => ?_⟩, fun z => (by cases z)⟩
      rw [Int.toNat_natCast, hx] at hy
      have hy := Option.some.inj hy
      subst hy
      show c1 ys[i] (w64 (1 + th)) k' _
      rw [wt]
      refine i1 (lmod4_spec (by omega) (by omega) (n2.app (x := ys[i] % (1 + th)) rfl rfl (by omega) fun t k2 n3 => ?_))
      refine hgo2 (by omega) _ _ (w64_nat (n := P) (by omega) (by omega)) ⟨t, rfl, ?_⟩
      have : fitP (1 + th) (i + 1) ys = fitP (1 + th) i ys ++ [ys[i] % (1 + th)] := by
        unfold fitP
        rw [List.take_add_one, hx, List.map_append]; rfl
      rw [this]; exact n3
    · rw [decide_eq_false q]; exact stop (by omega)
  refine dcase (fun gg => ?_) (fun gg => picks (by have gg : ¬ (i : Int) < (g.2.2.1.len : Int) := gg; omega))
  have gg : (i : Int) < (g.2.2.1.len : Int) := gg
  show law4_Game_fit.j7 c1 g (P : Int) Q go _ (decide ((i : Int) < (M : Int)), ()) k
  by_cases q : (i : Int) < (M : Int)
  · rw [decide_eq_true q]
    have hil : i < xs.length := by omega
    have hx : xs[i]? = some xs[i] := by simp
    obtain ⟨a, ha⟩ := ht.addr (by omega)
    refine ⟨fun _ => ⟨⟨Int.natCast_nonneg i, gg⟩, ?_⟩, fun z => (by cases z)⟩
    rw [ha]
    simp only [deref]
    rw [Int.toNat_natCast]
    have p0 : PartAt KTd ki 0 xs[i] xs[i].1 := PartAt.zero (post := Kd.cells (.pair ki .nil) xs[i].2) rfl
    have p1 : PartAt KTd ki 1 xs[i] xs[i].2.1 := ⟨Kd.cells ki xs[i].1, [], rfl, rfl⟩
    refine (ht.le n1.le).ldPart (kp := ki) (y := xs[i].1) ha hx p0 rfl ?_
    refine ⟨⟨Int.natCast_nonneg i, gg⟩, (ht.le n1.le).ldPart (kp := ki) (y := xs[i].2.1) ha hx p1 rfl ?_⟩
    refine i1 (lmod4_spec (by decide) (by decide) ⟨(ht.le n1.le).cellsPart ha hx p1 rfl, ?_⟩)
    refine n1.app (x := (xs[i].1 % 2, (xs[i].2.1, ()))) rfl rfl (by omega) fun t k2 n3 => ?_
    refine hgo (by omega) _ _ (w64_nat (n := M) (by omega) (by omega)) ⟨t, rfl, ?_⟩
    have : fitT (i + 1) xs = fitT i xs ++ [(xs[i].1 % 2, (xs[i].2.1, ()))] := by
      unfold fitT
      rw [List.take_add_one, hx, List.map_append]; rfl
    rw [this]; exact n3
  · rw [decide_eq_false q]; exact picks (by omega)
end Go.Mx
