/-
  The law ParkDrains: its walks.
-/
import Derived.Test.YtndhbkhhehleaaaMxDr
set_option linter.unusedVariables false
set_option linter.unusedSimpArgs false
set_option linter.unusedSectionVars false
namespace Go.Mx

def numT (i : Nat) (t : DTd) : DTd := (if (t.1 : Int) = 3 then 1 else t.1, ((i : Int), ()))
def numL (l : List DTd) : List DTd := l.mapIdx numT
theorem numL_len (l : List DTd) : (numL l).length = l.length := by unfold numL; simp
theorem numL_take {l : List DTd} {i : Nat} {t : DTd} (h : l[i]? = some t) : numL (l.take (i + 1)) = numL (l.take i) ++ [numT i t] := by
  have hl := (List.getElem?_eq_some_iff.1 h).1
  have : l.take (i + 1) = l.take i ++ [t] := by rw [List.take_add_one, h]; rfl
  rw [this]
  unfold numL
  rw [List.mapIdx_concat, List.length_take, Nat.min_eq_left (by omega)]
theorem puL_snoc (l : List DTd) (t : DTd) : (puL (l ++ [t]) : Int) = (puL l : Int) + if (t.1 : Int) = 0 then 1 else 0 := by
  unfold puL
  rw [List.countP_append]
  by_cases e : (t.1 : Int) = 0
  · rw [if_pos e]
    have : List.countP (fun t : DTd => decide (t.1 = 0)) [t] = 1 := by
      rw [List.countP_cons, if_pos (decide_eq_true e)]; rfl
    rw [this]; exact Int.natCast_add ..
  · rw [if_neg e]
    have : List.countP (fun t : DTd => decide (t.1 = 0)) [t] = 0 := by
      rw [List.countP_cons, if_neg (fun z => e (of_decide_eq_true z))]; rfl
    rw [this]; exact (Int.add_zero _).symm
theorem puL_le (l : List DTd) : puL l ≤ l.length := by unfold puL; exact List.countP_le_length
theorem numL_nb (l : List DTd) : Numbd (numL l) := fun i t h => by
  unfold numL at h
  rw [List.getElem?_mapIdx] at h
  cases e : l[i]? with
  | none => rw [e] at h; cases h
  | some x => rw [e] at h; cases h; rfl
theorem numL_nf {l : List DTd} (h : l.all kindOk = true) : ∀ t ∈ numL l, t.1 = 0 ∨ t.1 = 1 := fun t ht => by
  obtain ⟨i, hi⟩ := List.getElem?_of_mem ht
  unfold numL at hi
  rw [List.getElem?_mapIdx] at hi
  cases e : l[i]? with
  | none => rw [e] at hi; cases hi
  | some x =>
    rw [e] at hi; cases hi
    have k := List.all_eq_true.1 h x (List.mem_of_getElem? e)
    unfold kindOk at k
    show (if (x.1 : Int) = 3 then (1 : Int) else x.1) = 0 ∨ (if (x.1 : Int) = 3 then (1 : Int) else x.1) = 1
    by_cases q : (x.1 : Int) = 3
    · rw [if_pos q]; exact .inr rfl
    · rw [if_neg q]
      simp only [Bool.or_eq_true, decide_eq_true_eq] at k
      rcases k with (k | k) | k
      · exact .inl k
      · exact .inr k
      · exact absurd k q
theorem numL_ok {l : List DTd} (h : l.all kindOk = true) : (numL l).all kindOk = true := by
  rw [List.all_eq_true]
  intro t ht
  unfold kindOk
  rcases numL_nf h t ht with q | q
  · rw [decide_eq_true (show (t.1 : Int) = 0 from q)]; rfl
  · rw [decide_eq_true (show (t.1 : Int) = 1 from q)]; simp
def NumC (c : Sl → Heap → ((Sl × (Int × Unit)) → Heap → Prop) → Prop) : Prop := ∀ {h : Heap} {td : Sl} {todos : List DTd} {Q : (Sl × (Int × Unit)) → Heap → Prop}, Arr h KTd td todos → todos.length ≤ 100000 → (∀ s h', New h h' KTd s (numL todos) → Q (s, ((puL (numL todos) : Int), ())) h') → c td h Q
theorem numbered_spec : NumC law9_numbered.M := by
  intro h td todos Q ht hn hQ
  have tl := ht.1
  refine Loop.up todos.length (fun s => s.2.2.1) (fun i x k => New h k KTd x.1 (numL (todos.take i)) ∧ x.2.1 = (puL (numL (todos.take i)) : Int)) rfl ⟨New.nil h KTd, rfl⟩ ?_
  rintro i ⟨s3, n3, i', u⟩ k go hi hc ⟨nw, en⟩ hgo
  dsimp only at hc nw en; subst hc en
  have l3 := nw.len
  rw [numL_len, List.length_take, Nat.min_eq_left hi] at l3
  have pb := puL_le (numL (todos.take i))
  rw [numL_len, List.length_take, Nat.min_eq_left hi] at pb
  refine dcase (fun d => ?_) (fun d => ?_)
  · have d : (i : Int) < (td.len : Int) := d
    have hil : i < todos.length := by omega
    obtain ⟨t, hx⟩ : ∃ t, todos[i]? = some t := ⟨_, List.getElem?_eq_getElem hil⟩
    obtain ⟨a, ha⟩ := ht.addr (by omega)
    refine ⟨⟨by show (0 : Int) ≤ (i : Int); omega, d⟩, ?_⟩
    show deref td.a _
    rw [ha]
    show ld ki k ((a.add (((i : Nat) : Int).toNat * 2)).add 0) _
    rw [Int.toNat_natCast]
    refine (ht.le nw.le).ldPart (kp := ki) (y := (t.1 : Int)) ha hx ⟨[], _, rfl, rfl⟩ rfl ?_
    have key : ∀ {y : DTd}, y = numT i t → law9_numbered.j3 go (s3, (puL (numL (todos.take i)) : Int), (i : Int), u) (y, ()) k := fun {y} ey => by
      have wi : w64 ((i : Int) + 1) = ((i + 1 : Nat) : Int) := by rw [w64_of] <;> omega
      have ps := puL_snoc (numL (todos.take i)) (numT i t)
      rw [← numL_take hx] at ps
      have app : ∀ {m : Int}, m = (puL (numL (todos.take (i + 1))) : Int) → law9_numbered.j2 go (s3, (puL (numL (todos.take i)) : Int), (i : Int), u) (y, ()) (m, ()) k := fun {m} em => by
        subst ey em
        refine nw.app (x := numT i t) rfl rfl (by omega) fun s7 h7 n7 => hgo hil _ _ wi ⟨?_, rfl⟩
        show New h h7 KTd s7 _
        rw [numL_take hx]; exact n7
      refine dcase (fun q => app ?_) (fun q => app ?_)
      · have q : (y.1 : Int) = 0 := q
        subst ey
        rw [ps, if_pos q]
        show w64 ((puL (numL (todos.take i)) : Int) + 1) = _
        rw [w64_of] <;> omega
      · have q : ¬ (y.1 : Int) = 0 := q
        subst ey
        rw [ps, if_neg q, Int.add_zero]
    refine dcase (fun q => key ?_) (fun q => key ?_)
    · have q : (t.1 : Int) = 3 := q
      unfold numT; rw [if_pos q]
    · have q : ¬ (t.1 : Int) = 3 := q
      unfold numT; rw [if_neg q]
  · have d : ¬ (i : Int) < (td.len : Int) := d
    obtain rfl : i = todos.length := by omega
    rw [List.take_length] at nw ⊢
    exact hQ s3 k nw
def cntV (l : List Int) (n : Nat) : List Int := (List.range n).map fun (i : Nat) => (l.count (i : Int) : Int)
theorem cntV_nil (n : Nat) : cntV [] n = List.replicate n (0 : Int) := by
  refine List.eq_replicate_iff.2 ⟨by unfold cntV; simp, fun b hb => ?_⟩
  obtain ⟨i, _, rfl⟩ := List.mem_map.1 hb
  rfl
theorem cntV_len (l : List Int) (n : Nat) : (cntV l n).length = n := by unfold cntV; simp
theorem cntV_get (l : List Int) {n i : Nat} (h : i < n) : (cntV l n)[i]? = some (l.count (i : Int) : Int) := by
  unfold cntV
  rw [List.getElem?_map, List.getElem?_range h]; rfl
theorem cntV_el {l : List Int} {n i : Nat} (h : i < (cntV l n).length) : (cntV l n)[i] = (l.count (i : Int) : Int) := by simp [cntV]
theorem cntV_set {l : List Int} {n v : Nat} (h : l.count (v : Int) = 0) : (cntV l n).set v 1 = cntV (l ++ [(v : Int)]) n := by
  refine List.ext_getElem (by rw [List.length_set, cntV_len, cntV_len]) fun i a b => ?_
  rw [List.getElem_set, cntV_el, cntV_el, List.count_append, List.count_singleton]
  by_cases e : v = i
  · subst e
    rw [if_pos rfl, h, if_pos (by simp)]; rfl
  · rw [if_neg e, if_neg (by simp; omega)]; rfl
def OnceC (c : Den KRun → Sl → Heap → (Bool → Heap → Prop) → Prop) : Prop := ∀ {h : Heap} {r : Den KRun} {td : Sl} {tks : List (Den KP2)} {lfs : List Int} {todos : List DTd} {Q : Bool → Heap → Prop}, Arr h KP2 r.1 tks → Arr h ki r.2.1 lfs → Arr h KTd td todos → todos.length ≤ 100000 → tks.length ≤ 100000 → lfs.length ≤ 100000 →
  (vals tks ++ lfs).Nodup → (∀ v ∈ vals tks ++ lfs, 0 ≤ v ∧ ∃ t : DTd, todos[v.toNat]? = some t ∧ t.1 = 0) → (∀ h', Go.Mx.le h h' → Q true h') → c r td h Q
theorem once_spec : OnceC law9_once.M := by
  intro h r td tks lfs todos Q hk hl ht n1 n2 n3 nd ok hQ
  obtain ⟨tkS, lfS, stS, flS, sl', dn', wk', bt', lgS, u⟩ := r
  have hk : Arr h KP2 tkS tks := hk
  have hl : Arr h ki lfS lfs := hl
  have kl := hk.1
  have ll := hl.1
  have tl := ht.1
  refine make_new (k := ki) (Int.natCast_nonneg _) (Int.le_refl _) (by omega) (by omega) fun s4 h1 m4 x1 x2 x3 => ?_
  rw [Int.toNat_natCast] at m4
  have m4 : New h h1 ki s4 (List.replicate td.len (0 : Int)) := m4
  have l4 := m4.len
  rw [List.length_replicate] at l4
  refine Loop.up tks.length (fun s => s.2.1) (fun i x k => New h1 k ki x.1 (vals (tks.take i))) rfl (New.nil h1 ki) ?_
  rintro i ⟨s6, i', u6⟩ k go hi hc nw hgo
  dsimp only at hc nw; subst hc
  have l6 := nw.len
  have l6 : i = s6.len := by rw [← l6]; unfold vals; rw [List.length_map, List.length_take, Nat.min_eq_left hi]
  have leK := m4.le.trans nw.le
  refine dcase (fun d => ?_) (fun d => ?_)
  · have d : (i : Int) < (tkS.len : Int) := d
    have hil : i < tks.length := by omega
    obtain ⟨t, hx⟩ : ∃ t, tks[i]? = some t := ⟨_, List.getElem?_eq_getElem hil⟩
    obtain ⟨a, ha⟩ := hk.addr (by omega)
    refine ⟨⟨by show (0 : Int) ≤ (i : Int); omega, d⟩, ?_⟩
    show deref tkS.a _
    rw [ha]
    show ld ki k ((a.add (((i : Nat) : Int).toNat * 2)).add 1) _
    rw [Int.toNat_natCast]
    refine (hk.le leK).ldPart (kp := ki) (y := (t.2.1 : Int)) ha hx ⟨[_], [], rfl, rfl⟩ rfl ?_
    refine nw.app (x := (t.2.1 : Int)) rfl rfl (by omega) fun s7 h7 n7 => hgo hil _ _ (by show w64 ((i : Int) + 1) = _; rw [w64_of] <;> omega) ?_
    have e : vals (tks.take (i + 1)) = vals (tks.take i) ++ [(t.2.1 : Int)] := by
      have : tks.take (i + 1) = tks.take i ++ [t] := by rw [List.take_add_one, hx]; rfl
      rw [this]; unfold vals; rw [List.map_append]; rfl
    rw [← e] at n7
    exact n7
  have d : ¬ (i : Int) < (tkS.len : Int) := d
  obtain rfl : i = tks.length := by omega
  rw [List.take_length] at nw
  clear hgo go d
  refine nw.apps (hl.le leK) rfl rfl (by omega) fun s8 h8 n8 => ?_
  obtain ⟨all, hall⟩ : ∃ all, all = vals tks ++ lfs := ⟨_, rfl⟩
  rw [← hall] at n8 nd ok
  have l8 := n8.len
  have la : all.length = tks.length + lfs.length := by rw [hall, List.length_append]; unfold vals; rw [List.length_map]
  have le8 : Go.Mx.le h1 h8 := n8.le
  have m8 := m4.more le8
  refine Loop.up all.length (fun s => s.1) (fun i x k => New h k ki s4 (cntV (all.take i) td.len) ∧ Ext (blkOf s4) h8 k) rfl ⟨by show New h h8 ki s4 (cntV [] td.len); rw [cntV_nil]; exact m8, .refl _ _⟩ ?_
  rintro j ⟨j', u9⟩ k go hj hc ⟨nc, ex⟩ hgo
  dsimp only at hc; subst hc
  refine dcase (fun d => ?_) (fun d => ?_)
  · have d : (j : Int) < (s8.len : Int) := d
    have hjl : j < all.length := by omega
    obtain ⟨v, hv⟩ : ∃ v, all[j]? = some v := ⟨_, List.getElem?_eq_getElem hjl⟩
    obtain ⟨v0, t, ht1, ht2⟩ := ok v (List.mem_of_getElem? hv)
    obtain ⟨w, rfl⟩ : ∃ w : Nat, v = (w : Int) := ⟨v.toNat, by omega⟩
    rw [Int.toNat_natCast] at ht1
    have hwt : w < todos.length := (List.getElem?_eq_some_iff.1 ht1).1
    have a8 : Arr k ki s8 all := n8.arr.ext ex fun b hb hb4 => m4.own.blk hb4 (n8.new b hb)
    have at8 : Arr k KTd td todos := (ht.le (m4.le.trans le8)).ext ex fun b hb hb4 => ht.live (by intro z; rw [z] at hwt; exact absurd hwt (Nat.not_lt_zero _)) (by decide) hb (m4.new b hb4)
    obtain ⟨a, ha⟩ := a8.addr (by omega)
    obtain ⟨at', hat⟩ := at8.addr (by omega)
    obtain ⟨a4, ha4⟩ := nc.own.addr (by omega)
    refine ⟨⟨by show (0 : Int) ≤ (j : Int); omega, d⟩, ?_⟩
    show deref s8.a _
    rw [ha]
    show ld ki k (a.add (((j : Nat) : Int).toNat * 1)) _
    rw [Int.toNat_natCast]
    refine a8.ldAt ha hv rfl (dcase (fun q => ?_) (fun _ => dcase (fun q => ?_) (fun _ => ?_)))
    · have q : (w : Int) < 0 := q
      omega
    · have q : (td.len : Int) ≤ (w : Int) := q
      omega
    have w0 : (0 : Int) ≤ (w : Int) := by omega
    have wtd : (w : Int) < (td.len : Int) := by omega
    have ws4 : (w : Int) < (s4.len : Int) := by omega
    refine ⟨⟨w0, wtd⟩, ?_⟩
    show deref td.a _
    rw [hat]
    show ld ki k ((at'.add (((w : Nat) : Int).toNat * 2)).add 0) _
    rw [Int.toNat_natCast]
    refine at8.ldPart (kp := ki) (y := (t.1 : Int)) hat ht1 ⟨[], _, rfl, rfl⟩ rfl ?_
    rw [decide_eq_false (show ¬ (t.1 : Int) ≠ 0 from fun z => z ht2)]
    refine ⟨fun q => (by cases q), fun _ => ⟨⟨w0, ws4⟩, ?_⟩⟩
    have no : (all.take j).count (w : Int) = 0 := by
      rw [List.count_eq_zero]
      intro hm
      have e : all = all.take j ++ (w : Int) :: all.drop (j + 1) := by
        have h1 := List.take_append_drop j all
        rw [List.drop_eq_getElem_cons hjl] at h1
        have h2 : all[j] = (w : Int) := by
          have := List.getElem?_eq_getElem hjl
          rw [hv] at this
          exact (Option.some.inj this).symm
        rw [h2] at h1
        exact h1.symm
      have nd' : List.Pairwise (· ≠ ·) all := nd
      rw [e, List.pairwise_append] at nd'
      exact nd'.2.2 _ hm _ (List.mem_cons_self ..) rfl
    have g4 := cntV_get (all.take j) (n := td.len) (i := w) (by omega)
    rw [no] at g4
    have l9 := nc.len
    rw [cntV_len] at l9
    show deref s4.a _
    rw [ha4]
    show ld ki k (a4.add (((w : Nat) : Int).toNat * 1)) _
    rw [Int.toNat_natCast]
    refine nc.arr.ldAt ha4 g4 rfl ⟨⟨w0, ws4⟩, ?_⟩
    have w1 : w64 (((0 : Nat) : Int) + 1) = 1 := by rw [w64_of] <;> decide
    refine (show ∀ {K : Addr → Prop}, K a4 → deref (some a4) K from fun h => h) ?_
    refine nc.stAt ha4 (i := w) (by rw [cntV_len]; omega) rfl rfl fun h10 n10 e10 => ⟨⟨w0, ws4⟩, ?_⟩
    have n10 : New h h10 ki s4 ((cntV (all.take j) td.len).set w 1) := by rw [← w1]; exact n10
    have ts : all.take (j + 1) = all.take j ++ [(w : Int)] := by rw [List.take_add_one, hv]; rfl
    rw [cntV_set no, ← ts] at n10
    have g5 : (cntV (all.take (j + 1)) td.len)[w]? = some (1 : Int) := by
      rw [cntV_get _ (by omega), ts, List.count_append, no, List.count_singleton, if_pos (by simp)]; rfl
    show ld ki h10 (a4.add (w * 1)) _
    refine n10.arr.ldAt ha4 g5 rfl (dcase (fun q => ?_) (fun _ => hgo hjl _ _ (by show w64 ((j : Int) + 1) = _; rw [w64_of] <;> omega) ⟨n10, ex.trans e10⟩))
    have q : (1 : Int) < 1 := q
    omega
  · exact hQ k nc.le
def SameTC (c : Sl → Sl → Heap → (Bool → Heap → Prop) → Prop) : Prop := ∀ {h : Heap} {a b : Sl} {l : List (Den KP2)} {Q : Bool → Heap → Prop}, Arr h KP2 a l → Arr h KP2 b l → l.length ≤ 1000000000 → Q true h → c a b h Q
theorem sameTakes_spec : SameTC law9_sameTakes.M := by
  intro h a b l Q ha hb hn hQ
  have l1 := ha.1
  have l2 := hb.1
  refine dno (show ¬ ((a.len : Int) ≠ (b.len : Int)) by omega) ?_
  refine Loop.up l.length (fun s => s.1) (fun i x k => k = h) rfl rfl ?_
  rintro i ⟨i', u⟩ k go hi hc rfl hgo
  dsimp only at hc; subst hc
  refine dcase (fun d => ?_) (fun d => ?_)
  · have d : (i : Int) < (a.len : Int) := d
    have hil : i < l.length := by omega
    obtain ⟨t, hx⟩ : ∃ t, l[i]? = some t := ⟨_, List.getElem?_eq_getElem hil⟩
    obtain ⟨aa, haa⟩ := ha.addr (by omega)
    obtain ⟨ab, hab⟩ := hb.addr (by omega)
    refine ⟨⟨by show (0 : Int) ≤ (i : Int); omega, d⟩, ?_⟩
    show deref a.a _
    rw [haa]
    refine ⟨⟨by show (0 : Int) ≤ (i : Int); omega, by show (i : Int) < (b.len : Int); omega⟩, ?_⟩
    show deref b.a _
    rw [hab]
    show ld KP2 k (aa.add (((i : Nat) : Int).toNat * 2)) _
    rw [Int.toNat_natCast]
    refine ha.ldAt haa hx rfl ?_
    refine hb.ldAt hab hx rfl ?_
    have e : eqK KP2 t t = true := eqK_refl KP2 t rfl
    refine ⟨fun q => ?_, fun _ => hgo hil _ _ (by show w64 ((i : Int) + 1) = _; rw [w64_of] <;> omega) rfl⟩
    have q : (!(eqK KP2 t t)) = true := q
    rw [e] at q; cases q
  · exact hQ
end Go.Mx
