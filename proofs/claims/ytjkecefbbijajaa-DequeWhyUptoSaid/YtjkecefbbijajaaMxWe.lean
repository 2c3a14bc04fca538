/-
  DequeWhy: the law's walk.
-/
import Derived.Test.YtjkecefbbijajaaMxWd
set_option linter.unusedVariables false
set_option linter.unusedSimpArgs false
set_option linter.unusedSectionVars false
namespace Go.Mx
theorem play_tb {low most thieves : Int} {todos : List DTd} {picks : List Int} (hj : judgeE low most todos thieves picks = 0) {i : Nat} {c : DCl} (hc : (playOf low most todos thieves picks).calls[i]? = some c) (he : dEnd c ≠ -1) {m : Nat} (hW : (whos thieves picks)[m]? = some (dWho c).toNat) (hb : (dBeg c).toNat ≤ m) (hm : m ≤ (dEnd c).toNat) :
    TB (whos thieves picks) (stN low most todos thieves picks) (playOf low most todos thieves picks).calls (playOf low most todos thieves picks).m.lg m := by
  obtain ⟨j1, j2, j3, j4, j5, j6⟩ := judge_ok hj
  have pf := play_pf hj
  have zi := stN_zi hj (Nat.le_refl _)
  have px := stN_px hj (Nat.le_refl _)
  rw [stN_all] at zi px
  have hWl : (whos thieves picks).length = picks.length := List.length_map ..
  have hml := (List.getElem?_eq_some_iff.1 hW).1
  obtain ⟨w, b, q1, q2, q3, q4, q5, q6⟩ := pf.hi.c1 i c hc
  rw [q1, Int.toNat_natCast] at hW
  have hid : idleB (whos thieves picks) (playOf low most todos thieves picks).calls m = false := by
    unfold idleB
    by_cases w0 : w = 0
    · subst w0
      have : covB (playOf low most todos thieves picks).calls m = true := by
        refine List.any_eq_true.2 ⟨c, List.mem_of_getElem? hc, ?_⟩
        rcases pf.hi.c2 i c hc with ⟨z, _⟩ | ⟨e, y1, y2, y3, _⟩
        · exact absurd z he
        · unfold covC
          rw [decide_eq_true (show dWho c = 0 from q1), decide_eq_true (show dBeg c ≤ (m : Int) by omega), decide_eq_true (show (m : Int) ≤ dEnd c by omega)]; simp
      rw [this]; simp
    · rw [hW]
      have : decide (some w = some 0) = false := decide_eq_false (fun z => w0 (Option.some.inj z))
      rw [this]; rfl
  obtain ⟨e', ze1, ze2⟩ := zi.who m w (by omega) hW hid
  obtain ⟨p1, t, p2⟩ := px m (by omega)
  obtain ⟨p3, t', p4⟩ := px (m + 1) (by omega)
  obtain ⟨pi, _, _⟩ := stN_all' (todos := todos) (picks := picks) j3 j4 j2 (k := m) (by omega)
  refine ⟨(List.getElem?_eq_some_iff.1 ze1).1, ?_, fun x hx => ?_, ?_⟩
  · rw [p1, p2, tsN_app _ _ _ (Nat.le_refl _), stN_ti hj (by omega)]; rfl
  · unfold En at hx
    rw [p1, p4, List.getElem?_append_left (List.getElem?_eq_some_iff.1 hx).1]; exact hx
  · unfold tA bA
    have h1 := pi.dg.t0
    have h2 := pi.dg.tb
    have h3 := pi.dg.bn
    have h4 := pi.dg.nn
    by_cases l : lowered ((stN low most todos thieves picks m).act 0).1
    · have := (pi.os.low l).1
      rw [Bl_lo l] at h2 h3
      omega
    · rw [Bl_up l] at h2 h3
      omega
theorem dwhy_spec {low most thieves : Int} {td pkS : Sl} {h : Heap} {todos : List DTd} {picks : List Int} (ht : Arr h KTd td todos) (hp : Arr h ki pkS picks)
    {c1 : Int → Int → Sl → Int → Sl → Heap → (Bool → Heap → Prop) → Prop} {c3 : Int → Int → Sl → Int → Sl → Heap → ((Den kapiDequeRun × (Int × Unit)) → Heap → Prop) → Prop} {c4 : Den kapiDequeRun → Sl → Int → Sl → Heap → (Bool → Heap → Prop) → Prop}
    {c5 : Den kapiDequeRun → Int → Sl → Heap → (Sl → Heap → Prop) → Prop} {c6 : Sl → Heap → ((Sl × (Sl × Unit)) → Heap → Prop) → Prop} {c7 : Den kapiCall → Int → Sl → Sl → Sl → Sl → Int → Sl → Heap → (Bool → Heap → Prop) → Prop} {c8 : Den kapiCall → Int → Sl → Int → Sl → Heap → (Int → Heap → Prop) → Prop} {c9 : Int → Int → Heap → (Int → Heap → Prop) → Prop}
    (i1 : ∀ {a b s t u h Q} {ts : List DTd} {ps : List Int}, Arr h KTd s ts → Arr h ki u ps → Q false h → (judgeE a b ts t ps = 0 → Q true h) → c1 a b s t u h Q)
    (i3 : ∀ {a b s t u h Q} {ts : List DTd} {ps : List Int}, Arr h KTd s ts → Arr h ki u ps → judgeE a b ts t ps = 0 → (∀ ca re lg h', PlayR h h' (playOf a b ts t ps) ca re lg → Q ((ca, (re, (lg, ()))), (0, ())) h') → c3 a b s t u h Q)
    (i4 : ∀ {r s t u h Q} {ts : List DTd} {ps : List Int} {a b : Int}, Arr h KCl r.1 (playOf a b ts t ps).calls → Arr h KTd s ts → Arr h ki u ps → judgeE a b ts t ps = 0 → Q true h → c4 r s t u h Q)
    (i5 : ∀ {r t u h Q} {cs : List DCl} {ps : List Int}, Arr h KCl r.1 cs → Arr h ki u ps → 0 ≤ t → t ≤ 3 → ps.length ≤ 1048576 → cs.length ≤ 1048576 → (∀ (i : Nat) c, cs[i]? = some c → 0 ≤ dBeg c ∧ dBeg c < (ps.length : Int) ∧ dEnd c < (ps.length : Int) ∧ (dEnd c < 0 ∨ dBeg c ≤ dEnd c)) → (∀ s h', New h h' ki s (plcL (whos t ps) cs ps.length) → Q s h') → c5 r t u h Q)
    (i6 : ∀ {s h Q} {L : List Acc}, Arr h KAcc s L → L.length ≤ 1048576 → (∀ s1 s2 h', New h h' ki s1 (rangeL L.length fun j => (tsN L j).1) → New h h' ki s2 (rangeL L.length fun j => (tsN L j).2) → Q (s1, (s2, ())) h') → c6 s h Q)
    (i7 : ∀ {c a l t b p th k h Q}, law3_why.M c8 c a l t b p th k h Q → c7 c a l t b p th k h Q) (i8 : ∀ {c n p t k h Q}, law3_nth.M c9 c n p t k h Q → c8 c n p t k h Q) (i9 : ∀ {x n h Q}, law3_mod.M x n h Q → c9 x n h Q)
    {Q : Bool → Heap → Prop} (hQ : ∀ h', le h h' → Q true h') : law3_DequeWhy.M c1 c3 c4 c5 c6 c7 low most td thieves pkS h Q := by
  refine i1 ht hp ⟨fun _ => hQ h (le.refl h), fun z => (by cases z)⟩ fun hj => ⟨fun z => (by cases z), fun _ => ?_⟩
  obtain ⟨j1, j2, j3, j4, j5, j6⟩ := judge_ok hj
  refine i3 ht hp hj fun ca re lg h2 pr => ?_
  have hl2 := pr.calls.le
  have hcl := pr.calls.len
  have hll := pr.log.len
  have hpl := hp.1
  have pf := play_pf hj
  have hal := pf.hi.len_le
  refine ⟨fun z => absurd rfl (of_decide_eq_true z), fun _ => ?_⟩
  refine i4 pr.calls.arr (ht.le hl2) (hp.le hl2) hj ⟨fun z => (by cases z), fun _ => ?_⟩
  have zi := stN_zi hj (Nat.le_refl _)
  have wi := stN_wi hj (Nat.le_refl _)
  have hlb := stN_lg hj (Nat.le_refl _)
  rw [stN_all] at zi wi hlb
  have htb := fun {i : Nat} {c : DCl} (hc : (playOf low most todos thieves picks).calls[i]? = some c) (he : dEnd c ≠ -1) {m : Nat} => play_tb hj hc he (m := m)
  have pca := pr.calls.arr
  have plg := pr.log.arr
  generalize playOf low most todos thieves picks = p at *
  have hWl : (whos thieves picks).length = picks.length := List.length_map ..
  have hbe : ∀ (i : Nat) c, p.calls[i]? = some c → 0 ≤ dBeg c ∧ dBeg c < (picks.length : Int) ∧ dEnd c < (picks.length : Int) ∧ (dEnd c < 0 ∨ dBeg c ≤ dEnd c) := fun i c hc => by
    obtain ⟨w, b, q1, q2, q3, q4, q5, q6⟩ := pf.hi.c1 i c hc
    rcases pf.hi.c2 i c hc with ⟨z1, _⟩ | ⟨e, y1, y2, y3, _⟩
    · exact ⟨by omega, by omega, by omega, .inl (by omega)⟩
    · exact ⟨by omega, by omega, by omega, .inr (by omega)⟩
  refine i5 (r := (ca, (re, (lg, ())))) pca (hp.le hl2) j4 j5 j2 (by omega) hbe fun sl h3 n3 => ?_
  have hsl := n3.len
  have hsl' : picks.length = sl.len := by unfold plcL at hsl; rw [rangeL_len] at hsl; exact hsl
  have hzl := zi.len
  have hmono := fun {a b : Nat} (h : a ≤ b) => plc_mono (whos thieves picks) p.calls h
  refine Loop.up picks.length (fun s => s.1) (fun i s k => k = h3) rfl rfl ?_
  rintro i ⟨i', u⟩ k go hi hc rfl hgo
  dsimp only at hc; subst hc
  refine dcase (fun g => ?_) (fun g => ?_)
  · have g : (i : Int) < (sl.len : Int) := g
    have hil : i < picks.length := by omega
    have hps : plc (whos thieves picks) p.calls (i + 1) = plc (whos thieves picks) p.calls i + if idleB (whos thieves picks) p.calls i = true then 0 else 1 := rfl
    have hm1 := hmono (a := i + 1) (b := picks.length) hil
    refine ⟨⟨Int.natCast_nonneg i, g⟩, n3.arr.at (i := ((i : Nat) : Int)) (Int.natCast_nonneg _) g rfl fun x hx => ?_⟩
    have hpx : (plcL (whos thieves picks) p.calls picks.length)[i]? = some (if idleB (whos thieves picks) p.calls i = true then -1 else (plc (whos thieves picks) p.calls i : Int)) := rangeL_get hil
    rw [Int.toNat_natCast, hpx] at hx
    have hx := Option.some.inj hx
    refine dcase (fun z => ?_) (fun _ => hgo hil _ _ (w64_nat (n := picks.length) hil (by omega)) rfl)
    exfalso
    have z : (lg.len : Int) ≤ x := z
    cases hid : idleB (whos thieves picks) p.calls i with
    | true => rw [hid, if_pos rfl] at hx; omega
    | false => rw [hid, if_neg (by decide)] at hx; rw [hid, if_neg (by decide)] at hps; omega
  have g : ¬ (i : Int) < (sl.len : Int) := g
  clear hgo g
  refine i6 (plg.le n3.le) (by omega) fun s1 s2 h4 m1 m2 => ?_
  refine Loop.up p.calls.length (fun s => s.1) (fun i s k => k = h4) rfl rfl ?_
  rintro i ⟨i', u2⟩ k' go2 hi hc rfl hgo
  dsimp only at hc; subst hc
  have hle := (hl2.trans n3.le).trans m1.le
  refine dcase (fun g => ?_) (fun _ => hQ _ hle)
  have g : (i : Int) < (ca.len : Int) := g
  have hil : i < p.calls.length := by omega
  have hx : p.calls[i]? = some p.calls[i] := by simp
  obtain ⟨ac, hac⟩ := pca.addr (by omega)
  refine ⟨⟨Int.natCast_nonneg i, g⟩, ?_⟩
  rw [hac]
  simp only [deref]
  rw [Int.toNat_natCast]
  refine (pca.le (n3.le.trans m1.le)).ldAt (k := KCl) hac hx rfl ?_
  have hbx := hbe i _ hx
  have htbx := fun he {m : Nat} => htb hx he (m := m)
  have hwx := wi.fin i _ hx
  obtain ⟨w, b, q1, q2, q3, q4, q5, q6⟩ := pf.hi.c1 i _ hx
  have hkd : dKind p.calls[i] = 0 ∨ dKind p.calls[i] = 1 ∨ dKind p.calls[i] = 2 := by
    by_cases w0 : w = 0
    · subst w0
      obtain ⟨t, t1, t2, _⟩ := pf.own_ask hx q1
      rcases j6 t (List.mem_of_getElem? t1) with z | z
      · exact .inl (t2.trans z)
      · exact .inr (.inl (t2.trans z))
    · exact .inr (.inr (q6 w0))
  generalize p.calls[i] = c at *
  have nxt : law3_DequeWhy.j1 go2 ((i : Int), u2) () k' := hgo hil _ _ (w64_nat (n := p.calls.length) hil (by omega)) rfl
  refine dcase (fun z => ?_) (fun _ => ⟨fun z => (by cases z), fun _ => nxt⟩)
  have z : 0 ≤ dEnd c := z
  show c7 c most lg s1 s2 sl thieves pkS k' _
  have hne : dEnd c ≠ -1 := by omega
  have hwx := hwx hne
  rw [q1, Int.toNat_natCast] at hwx
  have hb : dBeg c = ((dBeg c).toNat : Int) := by omega
  have he : dEnd c = ((dEnd c).toNat : Int) := by omega
  refine i7 (why_spec (e := (dEnd c).toNat) (plg.le (n3.le.trans m1.le)) m1.arr m2.arr hwx hkd (by omega) (fun m hW hbm hme => htbx hne (by rw [q1, Int.toNat_natCast]; exact hW) hbm hme) (fun {n Q} hn hs hN => ?_) ⟨fun q => (by cases q), fun _ => nxt⟩)
  refine i8 (nth_spec (w := w) (b := (dBeg c).toNat) (e := (dEnd c).toNat) (hp.le hle) (n3.arr.le m1.le) j4 j5 j2 (by unfold plcL; rw [rangeL_len]) q1 hb he (by omega) (by omega) hn i9 (fun m hm hme x hx => ?_) hN)
  have hml := (List.getElem?_eq_some_iff.1 hm.1).1
  have hpx : (plcL (whos thieves picks) p.calls picks.length)[m]? = some (if idleB (whos thieves picks) p.calls m = true then -1 else (plc (whos thieves picks) p.calls m : Int)) := rangeL_get (by omega)
  rw [hpx] at hx
  have hx := Option.some.inj hx
  have hid : idleB (whos thieves picks) p.calls m = false := by
    unfold idleB
    by_cases w0 : w = 0
    · subst w0
      have : covB p.calls m = true := by
        obtain ⟨j, hj'⟩ : ∃ j : Nat, p.calls[j]? = some c := ⟨i, by assumption⟩
        refine List.any_eq_true.2 ⟨c, List.mem_of_getElem? hj', ?_⟩
        unfold covC
        rw [decide_eq_true (show dWho c = 0 from q1), decide_eq_true (show dBeg c ≤ (m : Int) by have := hm.2.1; omega), decide_eq_true (show (m : Int) ≤ dEnd c by omega)]; simp
      rw [this]; simp
    · rw [hm.1]
      have : decide (some w = some 0) = false := decide_eq_false (fun z => w0 (Option.some.inj z))
      rw [this]; rfl
  rw [hid, if_neg (by decide)] at hx
  rw [← hx]
  exact hs m hm hme
end Go.Mx
