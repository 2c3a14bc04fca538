/-
  ExploreRun: what a play comes to; the program's play.
-/
import Derived.Test.YtipihecaaakagaaMxFc
set_option linter.unusedVariables false
set_option linter.unusedSimpArgs false
set_option linter.unusedSectionVars false
namespace Go.Mx

def ac0 : Ac := (0, (0, (0, (0, (0, ())))))
def xAt (xss : List (List Ac)) (i n : Nat) : Ac := (((xss[i]?).getD [])[n]?).getD ac0
abbrev PlS := List Int × List (List Ef)
def stepP (sz : Int) (xss : List (List Ac)) (st : PlS) (p : Int) : PlS :=
  ((actP sz st.1 (xAt xss p.toNat ((st.2[p.toNat]?).getD []).length)).2, st.2.set p.toNat (((st.2[p.toNat]?).getD []) ++ [(actP sz st.1 (xAt xss p.toNat ((st.2[p.toNat]?).getD []).length)).1]))
def playP (sz : Int) (bs : List Int) (xss : List (List Ac)) (ps : List Int) : PlS := ps.foldl (stepP sz xss) (bs, List.replicate xss.length [])

section
variable {sz : Int} {bs : List Int} {xss : List (List Ac)}
theorem playP_succ {ps : List Int} {j : Nat} (h : j < ps.length) : playP sz bs xss (ps.take (j + 1)) = stepP sz xss (playP sz bs xss (ps.take j)) ps[j] := by
  unfold playP
  rw [take_succ' ps h, List.foldl_append]; rfl
theorem fold_len (ps : List Int) : ∀ (st : PlS), (ps.foldl (stepP sz xss) st).2.length = st.2.length := by
  induction ps with
  | nil => intro st; rfl
  | cons p ps ih => intro st; rw [List.foldl_cons, ih]; simp [stepP]
theorem playP_len (ps : List Int) : (playP sz bs xss ps).2.length = xss.length := by unfold playP; rw [fold_len]; simp
theorem fold_cells (ps : List Int) : ∀ (st : PlS), (st.1.length : Int) ≤ sz → ((ps.foldl (stepP sz xss) st).1.length : Int) ≤ sz := by
  induction ps with
  | nil => intro st h; exact h
  | cons p ps ih => intro st h; rw [List.foldl_cons]; exact ih _ (actP_len h)
theorem playP_cells (h : (bs.length : Int) ≤ sz) (ps : List Int) : ((playP sz bs xss ps).1.length : Int) ≤ sz := fold_cells ps _ h
theorem fold_cnt {n : Nat} (ps : List Int) : ∀ (st : PlS), st.2.length = n → InR n ps → ∀ i < n, (((ps.foldl (stepP sz xss) st).2[i]?).getD []).length = ((st.2[i]?).getD []).length + cnt ps i := by
  induction ps with
  | nil => intro st h _ i hi; simp [cnt]
  | cons p ps ih =>
    intro st h hr i hi
    obtain ⟨p0, p1⟩ := hr p (by simp)
    rw [List.foldl_cons, ih _ (by simp [stepP, h]) (fun q hq => hr q (by simp [hq])) i hi, cnt_cons]
    unfold stepP
    dsimp only
    by_cases c : p = (i : Int)
    · rw [if_pos c, c, Int.toNat_natCast, List.getElem?_set_self (by omega)]
      simp; omega
    · rw [if_neg c, List.getElem?_set_ne (by omega)]
      omega
theorem playP_cnt {ps : List Int} (h : InR xss.length ps) {i : Nat} (hi : i < xss.length) : (((playP sz bs xss ps).2[i]?).getD []).length = cnt ps i := by
  unfold playP
  rw [fold_cnt ps _ (by simp) h i hi]
  simp [hi]
end
theorem InR.take {n : Nat} {ps : List Int} (h : InR n ps) (j : Nat) : InR n (ps.take j) := fun p hp => h p (List.mem_of_mem_take hp)
theorem ScriptP.room {lens : List Nat} {ps : List Int} (h : ScriptP lens ps) {j : Nat} (hj : j < ps.length) {i : Nat} (hi : ps[j] = (i : Int)) {m : Nat} (hm : lens[i]? = some m) : cnt (ps.take j) i < m := by
  have h1 := h.2 i m hm
  have h2 := cnt_take ps (j + 1) i
  rw [take_succ' ps hj, cnt_app, cnt_one, if_pos hi] at h2
  omega
theorem bads_no {xss : List (List Ac)} (h : badsE xss = false) {i n : Nat} {xs : List Ac} {x : Ac} (h1 : xss[i]? = some xs) (h2 : xs[n]? = some x) : badE x = false := by
  cases e : badE x with
  | false => rfl
  | true =>
    have : badsE xss = true := by
      unfold badsE
      exact List.any_eq_true.2 ⟨xs, List.mem_of_getElem? h1, List.any_eq_true.2 ⟨x, List.mem_of_getElem? h2, e⟩⟩
    rw [h] at this; cases this

/-- An ending in memory of its own. -/
def EndR (h0 h : Heap) (e : Den kapiEnding) (st : PlS) : Prop := ∃ els, Nest h0 h kapiEffect e.1 els st.2 ∧ New h0 h ki e.2.1 st.1 ∧ ∀ x, blkOf e.2.1 x → ¬ fpN e.1 els x
theorem EndR.le {h0 h e st} (r : EndR h0 h e st) : Go.Mx.le h0 h := by
  obtain ⟨_, a, _⟩ := r
  exact a.le
theorem EndR.more {h0 h h' e st} (r : EndR h0 h e st) (l : Go.Mx.le h h') : EndR h0 h' e st := by
  obtain ⟨els, a, b, c⟩ := r
  exact ⟨els, a.more l, b.more l, c⟩
theorem EndR.base {h0 h1 h e st} (r : EndR h1 h e st) (l : Go.Mx.le h0 h1) : EndR h0 h e st := by
  obtain ⟨els, a, b, c⟩ := r
  exact ⟨els, a.base l, b.base l, c⟩
theorem EndR.none (h : Heap) : EndR h h (Sl.none, (Sl.none, ())) ([], []) :=
  ⟨[], ⟨New.none (.refl h) .sl, rfl, fun i sl xs e => by simp at e, by simp⟩, New.none (.refl h) ki, fun x q => absurd q no_blk⟩

section
variable {h : Heap} {s : Sc} {t : Sl} {bs ps : List Int} {xss : List (List Ac)} (r : ScR h s bs xss) (hs : Small bs xss) (hp : Arr h ki t ps) (hn : ps.length ≤ 1048576) (hc : chkE s.1 bs.length xss = 0) (hS : ScriptP (xss.map List.length) ps)
  {cN : Int → Heap → ((Option Addr × (Int × Unit)) → Heap → Prop) → Prop} {cR : Option Addr → Int → Heap → (Den (.pair ki (.pair ki .nil)) → Heap → Prop) → Prop} {cS : Option Addr → Int → Int → Heap → (Int → Heap → Prop) → Prop}
  {cA : Option Addr → Ac → Heap → (Ef → Heap → Prop) → Prop} {cC : Option Addr → Heap → (Sl → Heap → Prop) → Prop}
  (jN : ∀ {size : Int} {h : Heap} {Q : (Option Addr × (Int × Unit)) → Heap → Prop}, 0 ≤ size ∧ size ≤ 1048576 → (∀ b h', Ar h h' b ⟨none, 0, 0⟩ ⟨none, 0, 0⟩ size [] [] 0 false → Q (some (ptr b), (0, ())) h') → cN size h Q)
  (jR : ∀ {h0 h : Heap} {b : Nat} {c l : Sl} {sz : Int} {n : Int} {Q : Den (.pair ki (.pair ki .nil)) → Heap → Prop}, Ar h0 h b c l sz [] [] 0 false → sz ≤ 1048576 → 1 ≤ n → n ≤ sz → (∀ x c' l' h', Ar h0 h' b c' l' sz (List.replicate n.toNat 0) [] 0 false → Q x h') → cR (some (ptr b)) n h Q)
  (jS : ∀ {h0 h : Heap} {b : Nat} {c l : Sl} {sz : Int} {cs : List Int} {i v : Int} {Q : Int → Heap → Prop}, Ar h0 h b c l sz cs [] 0 false → 0 ≤ i ∧ i < (cs.length : Int) → (∀ x l' h', Ar h0 h' b c l' sz (cs.set i.toNat v) [] 0 false → Q x h') → cS (some (ptr b)) i v h Q)
  (jA : ∀ {h0 h : Heap} {b : Nat} {c l : Sl} {sz : Int} {cs : List Int} {x : Ac} {Q : Ef → Heap → Prop}, Ar h0 h b c l sz cs [] 0 false → (cs.length : Int) ≤ sz → sz ≤ 1048576 → badE x = false →
    (∀ c' l' h', Ar h0 h' b c' l' sz (actP sz cs x).2 [] 0 false → Step (fpA b c l) (fpA b c' l') h h' → Q (actP sz cs x).1 h') → cA (some (ptr b)) x h Q)
  (jC : ∀ {h0 h : Heap} {b : Nat} {c l : Sl} {sz : Int} {cs : List Int} {Q : Sl → Heap → Prop}, Ar h0 h b c l sz cs [] 0 false → cs.length ≤ 1048576 → (∀ s h', New h h' ki s cs → Q s h') → cC (some (ptr b)) h Q)
include r hs hp hn hc hS jN jR jS jA jC
theorem play_spec {Q : Den kapiEnding → Heap → Prop} (hQ : ∀ e h', EndR h h' e (playP s.1 bs xss ps) → Q e h') : explore_play.M cN cR cS cA cC s t h Q := by
  obtain ⟨size, bg, lsl, u0⟩ := s
  change Int at size
  obtain ⟨r1, sls, r2, r3, r4⟩ := r
  dsimp only at r1 r2 hQ
  obtain ⟨hz0, hz1, hz2, hx4, _, hbad⟩ := chkE_ok hc
  have hz0 : 0 ≤ size := hz0
  have hz1 : size ≤ 64 := hz1
  have hz2 : (bs.length : Int) ≤ size := hz2
  have hbl : bg.len = bs.length := r1.1.symm
  have hsl : lsl.len = xss.length := by rw [← r3, r2.1]
  have hpl := hp.1
  refine jN (by show 0 ≤ size ∧ size ≤ 1048576; omega) fun b h1 o1 => ?_
  have main : ∀ c l h2, Ar h h2 b c l size (List.replicate bs.length 0) [] 0 false → explore_play.j3 cS cA cC (size, bg, lsl, u0) t Q (some (ptr b), (0, ())) () h2 := by
    intro c l h2 o2
    have hz : bs.length = (List.replicate bs.length (0 : Int)).length := by simp
    refine Loop.up bs.length (fun s => s.1) (fun i st k => ∃ l, Ar h k b c l size (mix i bs (List.replicate bs.length 0)) [] 0 false) rfl ⟨l, o2⟩ ?_
    rintro i ⟨i', u⟩ k go hi hcc ⟨l3, o3⟩ hgo
    dsimp only at hcc; subst hcc
    have hml := mix_len hz i
    rw [List.length_replicate] at hml
    refine ⟨fun e => ?_, fun e => ?_⟩
    · have e : (i : Int) < (bg.len : Int) := of_decide_eq_true e
      refine ⟨⟨by omega, e⟩, (r1.le o3.le).at (by omega) e rfl fun v hv => ?_⟩
      rw [Int.toNat_natCast] at hv
      refine jS o3 (by omega) fun x l4 h4 o4 => hgo (by omega) _ _ (w64_up' (n := bs.length) (by omega) (by omega)) ⟨l4, ?_⟩
      rw [Int.toNat_natCast, mix_set hz hv] at o4
      exact o4
    have e : ¬ (i : Int) < (bg.len : Int) := of_decide_eq_false e
    rw [mix_all (by omega) hz] at o3
    clear hgo
    refine make_new (by omega) (Int.le_refl _) (by show ((24 : Nat) : Int) * (lsl.len : Int) ≤ _; omega) (by show (lsl.len : Int) ≤ _; omega) fun ef h4 n4 l4 c4 a4 => ?_
    rw [Int.toNat_natCast] at n4 l4
    have n4 : New k h4 .sl ef (List.replicate lsl.len Sl.none) := n4
    have l4 : ef.len = lsl.len := l4
    obtain ⟨efa, efn, efc⟩ := ef
    cases efa with
    | none => exact absurd rfl a4
    | some ea =>
    dsimp only at l4
    refine Loop.up ps.length (fun s => s.1) (fun j st k' => ∃ c l els, Ar h k' b c l size (playP size bs xss (ps.take j)).1 [] 0 false ∧ Nest h k' kapiEffect ⟨some ea, efn, efc⟩ els (playP size bs xss (ps.take j)).2 ∧
      ∀ x, fpA b c l x → ¬ fpN ⟨some ea, efn, efc⟩ els x) rfl ⟨c, l3, List.replicate lsl.len Sl.none, o3.more n4.le, ?_, ?_⟩ ?_
    · have q := (Nest.init (k := kapiEffect) n4).base o3.le
      have e0 : (playP size bs xss (ps.take 0)).2 = List.replicate lsl.len [] := by rw [hsl]; rfl
      rw [e0]
      exact q
    · rintro x hx (q | ⟨sl, hm, q⟩)
      · exact o3.live hx (n4.new x q)
      · rw [List.eq_of_mem_replicate hm] at q; exact no_blk q
    rintro j ⟨j', u'⟩ h5 go2 hj hcc ⟨c5, l5, els, o5, n5, d5⟩ hgo2
    dsimp only at hcc; subst hcc
    have hin := hS.1
    rw [List.length_map] at hin
    refine ⟨fun e => ?_, fun e => ?_⟩
    · have e : (j : Int) < (t.len : Int) := of_decide_eq_true e
      have hjt : j < ps.length := by omega
      obtain ⟨i, hi⟩ : ∃ i : Nat, ps[j] = (i : Int) := ⟨ps[j].toNat, by have := (hin ps[j] (by simp)).1; omega⟩
      have hil : i < xss.length := by have := (hin ps[j] (by simp)).2; omega
      have hps := playP_succ (sz := size) (bs := bs) (xss := xss) hjt
      have hcnt := playP_cnt (sz := size) (bs := bs) (xss := xss) (hin.take j) hil
      have hrm := hS.room hjt hi (m := xss[i].length) (by simp [hil])
      have hpl5 := playP_len (sz := size) (bs := bs) (xss := xss) (ps.take j)
      have hcl5 := playP_cells (sz := size) (bs := bs) (xss := xss) hz2 (ps.take j)
      have hcm : cnt (ps.take j) i ≤ ps.length := by
        have h1 := List.length_filter_le (fun p => decide (p = (i : Int))) (ps.take j)
        have h2 := List.length_take_le j ps
        unfold cnt; omega
      generalize playP size bs xss (ps.take j) = st at o5 n5 hps hcnt hpl5 hcl5
      have hel : els.length = xss.length := by rw [n5.len, hpl5]
      have hfs : st.2[i]? = some (st.2[i]'(by omega)) := by simp
      rw [hfs] at hcnt
      dsimp only [Option.getD] at hcnt
      have hei : els[i]? = some (els[i]'(by omega)) := by simp
      have row := n5.row i _ _ hei hfs
      have hrl := row.len
      have hsi : sls[i]? = some (sls[i]'(by omega)) := by simp
      have hxi : xss[i]? = some xss[i] := by simp
      have hxr := r4 i _ _ hsi hxi
      have hxl := hxr.1
      have ole := n5.out.len
      have ole : els.length = efn := ole
      have l05 := n5.le
      refine ⟨⟨by omega, e⟩, (hp.le l05).at (by omega) e rfl fun p hp' => ?_⟩
      obtain rfl : ps[j] = p := by simpa [hjt] using hp'
      rw [hi]
      have hbL : (0 : Int) ≤ (i : Int) ∧ (i : Int) < (lsl.len : Int) := by omega
      have hbE : (0 : Int) ≤ (i : Int) ∧ (i : Int) < (efn : Int) := by omega
      refine ⟨hbL, (r2.le l05).at hbL.1 hbL.2 rfl fun sl hsl' => ?_⟩
      rw [Int.toNat_natCast, hsi] at hsl'
      obtain rfl := Option.some.inj hsl'
      refine ⟨hbE, n5.out.arr.atA hbE.1 hbE.2 rfl fun fl hfl => ?_⟩
      rw [Int.toNat_natCast, hei] at hfl
      obtain rfl := Option.some.inj hfl
      have hbX : (0 : Int) ≤ (((els[i]'(by omega)).len : Nat) : Int) ∧ (((els[i]'(by omega)).len : Nat) : Int) < ((sls[i]'(by omega)).len : Int) := by omega
      refine ⟨hbX, (hxr.le l05).at hbX.1 hbX.2 rfl fun x hx => ⟨hbE, n5.out.arr.atA hbE.1 hbE.2 rfl fun fl hfl => ?_⟩⟩
      rw [Int.toNat_natCast, hei] at hfl
      obtain rfl := Option.some.inj hfl
      rw [Int.toNat_natCast, ← hrl] at hx
      have hxat : xAt xss i (st.2[i]'(by omega)).length = x := by unfold xAt; rw [hxi]; dsimp only [Option.getD]; rw [hx]
      refine jA o5 hcl5 (by omega) (bads_no hbad hxi hx) fun c6 l6 h6 o6 s6 => ?_
      have fA : ∀ x, fpA b c5 l5 x → h x = none := fun x q => o5.fresh q
      have n6 := n5.ext s6.1 (fun x p q => d5 x q p) fA
      have d6 : ∀ x, fpN ⟨some ea, efn, efc⟩ els x → ¬ fpA b c6 l6 x := s6.off (fun x p q => d5 x q p) (fun x q => n5.live q)
      refine ⟨n6.out.arr.sees hbE.1 hbE.2 (by rw [Int.toNat_natCast]; exact hei) rfl, ?_⟩
      have row6 := n6.row i _ _ hei hfs
      refine row6.app3 rfl rfl (by omega) fun t7 h7 n7 x7 b7 => ⟨hbE, ?_⟩
      refine n6.put (p := (i : Int)) rfl hei n7 x7 b7 rfl fun h8 n8 s8 => ?_
      have fN : ∀ x, fpN ⟨some ea, efn, efc⟩ els x → h x = none := fun x q => n6.fresh q
      have o8 := o6.ext s8.1 (fun x p q => d6 x q p) fN
      have d8 := s8.off (fun x p q => d6 x q p) (fun x q => o6.live q)
      refine hgo2 hjt _ _ (w64_up' (n := ps.length) hjt (by omega)) ⟨c6, l6, _, ?_, ?_, d8⟩
      · rw [hps]
        unfold stepP
        rw [hi, Int.toNat_natCast, hfs]
        dsimp only [Option.getD]
        rw [hxat]
        exact o8
      · rw [hps]
        unfold stepP
        rw [hi, Int.toNat_natCast, hfs]
        dsimp only [Option.getD]
        rw [hxat]
        exact n8
    · have e : ¬ (j : Int) < (t.len : Int) := of_decide_eq_false e
      rw [List.take_of_length_le (by omega)] at o5 n5
      have hcl5 := playP_cells (sz := size) (bs := bs) (xss := xss) hz2 ps
      refine jC o5 (by omega) fun c6 h6 n6 => hQ _ h6 ⟨els, n5.more n6.le, n6.base n5.le, fun x p q => n5.live q (n6.new x p)⟩
  refine ⟨fun e => ?_, fun e => ?_⟩
  · have e : (0 : Int) < (bg.len : Int) := of_decide_eq_true e
    have b1 : (1 : Int) ≤ (bg.len : Int) := by omega
    have b2 : (bg.len : Int) ≤ size := by omega
    refine jR o1 (by omega) b1 b2 fun x c2 l2 h2 o2 => main c2 l2 h2 ?_
    rw [Int.toNat_natCast, hbl] at o2
    exact o2
  · have e : ¬ (0 : Int) < (bg.len : Int) := of_decide_eq_false e
    refine main ⟨none, 0, 0⟩ ⟨none, 0, 0⟩ h1 ?_
    rw [show bs.length = 0 from by omega]
    exact o1
end

end Go.Mx
