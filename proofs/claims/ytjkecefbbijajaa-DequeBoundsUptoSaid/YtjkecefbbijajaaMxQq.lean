/-
  The statements about plays of one deque: mod, own, fair, numbered, alive.
-/
import Derived.Test.YtjkecefbbijajaaMxQp
set_option linter.unusedVariables false
set_option linter.unusedSimpArgs false
set_option linter.unusedSectionVars false
namespace Go.Mx

theorem w64_nat {i n : Nat} (h : i < n) (hn : n ≤ 2000000000) : w64 ((i : Int) + 1) = ((i + 1 : Nat) : Int) := by rw [w64_of] <;> omega
theorem lmod_spec {x n : Int} (h0 : 0 < n) (h1 : n ≤ 1000000000) {h : Heap} {Q : Int → Heap → Prop} (hQ : Q (x % n) h) : law3_mod.M x n h Q := by
  have hr := mod_range (x := x) h0
  refine ⟨by omega, dcase (fun e => ?_) (fun e => ?_)⟩
  · rcases tmod_emod x n h0 with ⟨_, q⟩ | ⟨q, _⟩
    · show Q (w64 (Int.tmod x n + n)) h
      rw [q, w64_of (by omega) (by omega)]; exact hQ
    · omega
  · rcases tmod_emod x n h0 with ⟨q, _⟩ | ⟨_, q⟩
    · omega
    · show Q (Int.tmod x n) h
      rw [q]; exact hQ
theorem whos_get {thieves : Int} {picks : List Int} {i : Nat} {x : Int} (h : picks[i]? = some x) : (whos thieves picks)[i]? = some (x % (1 + thieves)).toNat := by
  unfold whos; rw [List.getElem?_map, h]; rfl

/-- own: the picks from l on, up to u. -/
theorem own_spec {pkS : Sl} {thieves : Int} {picks : List Int} {h : Heap} (hp : Arr h ki pkS picks) (hn : picks.length ≤ 1048576) (t0 : 0 ≤ thieves) (t3 : thieves ≤ 3) {w l u : Nat} {lo hi : Int} (hl : (if lo < 0 then 0 else lo) = (l : Int)) (hlu : l ≤ u) (hun : u ≤ picks.length) (hh : (hi < 0 ∧ u = picks.length) ∨ (0 ≤ hi ∧ hi + 1 = (u : Int)))
    {c1 : Int → Int → Heap → (Int → Heap → Prop) → Prop} (i1 : ∀ {x n h Q}, law3_mod.M x n h Q → c1 x n h Q) {Q : Int → Heap → Prop} (hQ : Q ((pk (whos thieves picks) w u : Int) - (pk (whos thieves picks) w l : Int)) h) : law3_own.M c1 pkS thieves (w : Int) lo hi h Q := by
  have hpl := hp.1
  have wt : w64 (1 + thieves) = 1 + thieves := by rw [w64_of] <;> omega
  refine Loop.up (u - l) (fun s => s.2.1 - (l : Int)) (fun i s k => k = h ∧ s.1 = (pk (whos thieves picks) w (l + i) : Int) - (pk (whos thieves picks) w l : Int)) (by show (if lo < 0 then 0 else lo) - (l : Int) = 0; omega) ⟨rfl, by rw [Nat.add_zero]; exact (Int.sub_self _).symm⟩ ?_
  rintro i ⟨n, j, u'⟩ k go hi' hc ⟨rfl, hn'⟩ hgo
  have hc : j - (l : Int) = (i : Int) := hc
  have hn' : n = _ := hn'
  obtain rfl : j = ((l + i : Nat) : Int) := (Int.sub_eq_iff_eq_add.1 hc).trans (by rw [Int.add_comm]; exact (Int.natCast_add l i).symm)
  subst hn'
  have stop : i = u - l → law3_own.j4 c1 pkS thieves (w : Int) Q go (((pk (whos thieves picks) w (l + i) : Int) - (pk (whos thieves picks) w l : Int)), (((l + i : Nat) : Int), u')) (false, ()) k := fun e => ⟨fun z => (by cases z), fun _ => by
    have : l + i = u := by omega
    show Q ((pk (whos thieves picks) w (l + i) : Int) - _) k
    rw [this]; exact hQ⟩
  have cont : l + i < u → law3_own.j4 c1 pkS thieves (w : Int) Q go (((pk (whos thieves picks) w (l + i) : Int) - (pk (whos thieves picks) w l : Int)), (((l + i : Nat) : Int), u')) (true, ()) k := fun lt => ⟨fun _ => ?_, fun z => (by cases z)⟩
  · refine dcase (p := ((l + i : Nat) : Int) < (pkS.len : Int)) (fun e => ?_) (fun e => ?_)
    · refine dcase (p := ((l + i : Nat) : Int) ≤ hi) (fun f => cont (by omega)) (fun f => ?_)
      by_cases g : hi < 0
      · rw [decide_eq_true g]; exact cont (by omega)
      · rw [decide_eq_false g]; exact stop (by omega)
    · exact stop (by omega)
  · refine ⟨⟨show (0 : Int) ≤ ((l + i : Nat) : Int) by omega, show ((l + i : Nat) : Int) < (pkS.len : Int) by omega⟩, hp.at (i := ((l + i : Nat) : Int)) (by omega) (by omega) rfl fun x hx => ?_⟩
    rw [Int.toNat_natCast] at hx
    rw [wt]
    have hr := mod_range (x := x) (n := 1 + thieves) (by omega)
    have ps := pk_succ (w := w) (whos_get (thieves := thieves) hx)
    refine i1 (lmod_spec (by omega) (by omega) ?_)
    refine dcase (p := x % (1 + thieves) = (w : Int)) (fun f => ?_) (fun f => ?_)
    · have e : (x % (1 + thieves)).toNat = w := by rw [f, Int.toNat_natCast]
      rw [if_pos e] at ps
      refine hgo (by omega) _ _ ?_ ⟨rfl, ?_⟩
      · show w64 (((l + i : Nat) : Int) + 1) - (l : Int) = _
        rw [w64_of] <;> omega
      · show w64 ((pk (whos thieves picks) w (l + i) : Int) - (pk (whos thieves picks) w l : Int) + 1) = (pk (whos thieves picks) w (l + (i + 1)) : Int) - _
        have hb : pk (whos thieves picks) w (l + i) ≤ 1048576 := by
          unfold pk
          have := List.length_filter_le (fun x => decide (x = w)) ((whos thieves picks).take (l + i))
          have h2 := List.length_take_le (l + i) (whos thieves picks)
          omega
        have hm := pk_mono (W := whos thieves picks) (w := w) (a := l) (b := l + i) (by omega) (by show l + i ≤ (picks.map _).length; rw [List.length_map]; omega)
        rw [← Nat.add_assoc, ps]
        rw [w64_of] <;> omega
    · have e : ¬ (x % (1 + thieves)).toNat = w := fun e => f (by rw [← e, Int.toNat_of_nonneg hr.1])
      rw [if_neg e] at ps
      refine hgo (by omega) _ _ ?_ ⟨rfl, ?_⟩
      · show w64 (((l + i : Nat) : Int) + 1) - (l : Int) = _
        rw [w64_of] <;> omega
      · show (pk (whos thieves picks) w (l + i) : Int) - _ = (pk (whos thieves picks) w (l + (i + 1)) : Int) - _
        rw [← Nat.add_assoc, ps, Nat.add_zero]

def FairE (low most : Int) (todos : List DTd) (thieves : Int) (picks : List Int) : Prop := judgeE low most todos thieves picks = 0
theorem fair_spec {low most thieves : Int} {td pkS : Sl} {h : Heap} {todos : List DTd} {picks : List Int} (ht : Arr h KTd td todos) (hp : Arr h ki pkS picks) {c1 : Int → Int → Heap → (Bool → Heap → Prop) → Prop} (i1 : ∀ {a b h Q}, (CapE a b → Q true h) → (¬ CapE a b → Q false h) → c1 a b h Q)
    {Q : Bool → Heap → Prop} (hF : Q false h) (hT : judgeE low most todos thieves picks = 0 → Q true h) : law3_fair.M c1 low most td thieves pkS h Q := by
  have htl := ht.1
  have hpl := hp.1
  have bad : ∀ s : Unit, law3_fair.j5 td Q (true, ()) h := fun _ => ⟨fun _ => hF, fun z => (by cases z)⟩
  refine i1 (fun q => ⟨fun z => (by cases z), fun _ => ?_⟩) (fun q => ⟨fun _ => bad (), fun z => (by cases z)⟩)
  refine dcase (fun a => bad ()) (fun a => dcase (fun b => bad ()) (fun b => dcase (fun c => bad ()) (fun c => ?_)))
  have c : ¬ (4096 : Int) < (td.len : Int) := c
  by_cases d : (1048576 : Int) < (pkS.len : Int)
  · rw [decide_eq_true d]; exact bad ()
  · rw [decide_eq_false d]
    refine ⟨fun z => (by cases z), fun _ => ?_⟩
    refine Loop.up todos.length (fun s => s.1) (fun i s k => k = h ∧ ∀ (j : Nat) t, j < i → todos[j]? = some t → t.1 = 0 ∨ t.1 = 1) rfl ⟨rfl, fun j t hj => absurd hj (Nat.not_lt_zero _)⟩ ?_
    rintro i ⟨i', u⟩ k go hi hc ⟨rfl, hI⟩ hgo
    dsimp only at hc; subst hc
    refine dcase (fun g => ?_) (fun g => ?_)
    · have g : (i : Int) < (td.len : Int) := g
      have hil : i < todos.length := by omega
      obtain ⟨a, ha⟩ := ht.addr (by omega)
      have hti : todos[i]? = some todos[i] := by simp
      have ld0 : ∀ {K : Int → Prop}, K todos[i].1 → ld ki k ((a.add ((i : Int).toNat * 2)).add 0) K := fun {K} hK => by
        rw [Int.toNat_natCast]
        exact ht.ldPart (kp := ki) (y := todos[i].1) ha hti (PartAt.zero (post := Kd.cells (.pair ki .nil) todos[i].2) rfl) rfl hK
      refine ⟨⟨by omega, g⟩, ?_⟩
      rw [ha]
      have good : todos[i].1 = 0 ∨ todos[i].1 = 1 → law3_fair.j2 Q go ((i : Int), u) (false, ()) k := fun n => ⟨fun z => (by cases z), fun _ => hgo hil _ _ (w64_nat (n := todos.length) hil (by omega)) ⟨rfl, fun j t' hj hx' => by
        by_cases z : j = i
        · subst z; rw [hti] at hx'; cases hx'; exact n
        · exact hI j t' (by omega) hx'⟩⟩
      refine ld0 (dcase (fun n => ⟨⟨by omega, g⟩, ?_⟩) (fun n => good (.inl (Decidable.not_not.1 n))))
      refine ld0 ?_
      by_cases m : todos[i].1 = 1
      · rw [decide_eq_false (show ¬ todos[i].1 ≠ 1 from fun q => q m)]; exact good (.inr m)
      · rw [decide_eq_true (show todos[i].1 ≠ 1 from m)]; exact ⟨fun _ => hF, fun z => (by cases z)⟩
    · have g : ¬ (i : Int) < (td.len : Int) := g
      refine hT (judge_of (by omega) (by omega) q (by omega) (by omega) fun t ht' => ?_)
      obtain ⟨j, hj⟩ := List.mem_iff_getElem?.1 ht'
      exact hI j t (by have := (List.getElem?_eq_some_iff.1 hj).1; omega) hj

/-- The todos, numbered. -/
def numb (todos : List DTd) : List DTd := todos.zipIdx.map fun ((t, i) : DTd × Nat) => (t.1, ((i : Int), ()))
theorem numb_len (todos : List DTd) : (numb todos).length = todos.length := by simp [numb]
theorem numb_get (todos : List DTd) (i : Nat) : (numb todos)[i]? = (todos[i]?).map fun t => (t.1, ((i : Int), ())) := by
  unfold numb
  rw [List.getElem?_map, List.getElem?_zipIdx]
  cases todos[i]? <;> simp
theorem judge_numb {low most thieves : Int} {todos : List DTd} {picks : List Int} (h : judgeE low most todos thieves picks = 0) : judgeE low most (numb todos) thieves picks = 0 := by
  obtain ⟨h1, h2, h3, h4, h5, h6⟩ := judge_ok h
  refine judge_of (by rw [numb_len]; exact h1) h2 h3 h4 h5 fun t ht => ?_
  obtain ⟨i, hi⟩ := List.mem_iff_getElem?.1 ht
  rw [numb_get] at hi
  cases e : todos[i]? with
  | none => rw [e] at hi; cases hi
  | some t' =>
    rw [e] at hi
    cases hi
    exact h6 t' (List.mem_of_getElem? e)
theorem numbered_spec {td : Sl} {h : Heap} {todos : List DTd} (ht : Arr h KTd td todos) (hl : todos.length ≤ 4096) {Q : Sl → Heap → Prop} (hQ : ∀ s h', New h h' KTd s (numb todos) → Q s h') : law3_numbered.M td h Q := by
  have htl := ht.1
  refine Loop.up todos.length (fun s => s.2.1) (fun i s k => New h k KTd s.1 ((numb todos).take i)) rfl (New.nil h _) ?_
  rintro i ⟨acc, i', u⟩ k go hi hc na hgo
  dsimp only at hc na; subst hc
  have hal := na.len
  rw [List.length_take, numb_len] at hal
  refine dcase (fun g => ?_) (fun g => ?_)
  · have g : (i : Int) < (td.len : Int) := g
    have hil : i < todos.length := by omega
    obtain ⟨a, ha⟩ := ht.addr (by omega)
    have hti : todos[i]? = some todos[i] := by simp
    refine ⟨⟨Int.natCast_nonneg i, g⟩, ?_⟩
    rw [ha]
    simp only [deref]
    rw [Int.toNat_natCast]
    refine (ht.le na.le).ldPart (kp := ki) (y := todos[i].1) ha hti (PartAt.zero (post := Kd.cells (.pair ki .nil) todos[i].2) rfl) rfl ?_
    refine na.app (x := (todos[i].1, ((i : Int), ()))) rfl rfl (by omega) fun t k2 n2 => ?_
    refine hgo hil _ _ (w64_nat (n := todos.length) hil (by omega)) ?_
    have : (numb todos).take (i + 1) = (numb todos).take i ++ [(todos[i].1, ((i : Int), ()))] := by
      rw [List.take_add_one, numb_get, hti]; rfl
    rw [this]; exact n2
  · have g : ¬ (i : Int) < (td.len : Int) := g
    obtain rfl : i = todos.length := by omega
    rw [← numb_len todos, List.take_length] at na
    exact hQ acc k na

end Go.Mx
