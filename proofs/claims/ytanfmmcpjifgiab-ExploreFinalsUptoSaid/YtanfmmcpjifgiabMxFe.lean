/-
  ExploreRun: the reference's row and play.
-/
import Derived.Test.YtanfmmcpjifgiabMxFd
set_option linter.unusedVariables false
set_option linter.unusedSimpArgs false
set_option linter.unusedSectionVars false
namespace Go.Mx

def rowE (xss : List (List Ac)) (ps : List Int) (j : Nat) : Den kref22Act := ((ps[j]?).getD 0, (xAt xss ((ps[j]?).getD 0).toNat (cnt (ps.take j) ((ps[j]?).getD 0).toNat), ()))
def rowP (xss : List (List Ac)) (ps : List Int) (n : Nat) : List (Den kref22Act) := (List.range n).map (rowE xss ps)
theorem rowP_succ (xss : List (List Ac)) (ps : List Int) (n : Nat) : rowP xss ps (n + 1) = rowP xss ps n ++ [rowE xss ps n] := by
  unfold rowP
  rw [List.range_succ, List.map_append]; rfl
theorem rowP_len (xss : List (List Ac)) (ps : List Int) (n : Nat) : (rowP xss ps n).length = n := by simp [rowP]
theorem rowP_at {xss : List (List Ac)} {ps : List Int} {n j : Nat} (h : j < n) : (rowP xss ps n)[j]? = some (rowE xss ps j) := by
  unfold rowP
  rw [List.getElem?_map, List.getElem?_range h]; rfl
theorem cnt_le (ps : List Int) (j i : Nat) : cnt (ps.take j) i ≤ ps.length := by
  have h1 := List.length_filter_le (fun p => decide (p = (i : Int))) (ps.take j)
  have h2 := List.length_take_le' j ps
  unfold cnt; omega

section
variable {h : Heap} {s : Sc} {t : Sl} {bs ps : List Int} {xss : List (List Ac)} (r : ScR h s bs xss) (hp : Arr h ki t ps) (hn : ps.length ≤ 1048576) (hc : chkE s.1 bs.length xss = 0) (hS : ScriptP (xss.map List.length) ps)
include r hp hn hc hS
theorem row_spec {Q : Sl → Heap → Prop} (hQ : ∀ l h', New h h' kref22Act l (rowP xss ps ps.length) → Q l h') : ref22_Row.M s t h Q := by
  obtain ⟨size, bg, lsl, u0⟩ := s
  obtain ⟨r1, sls, r2, r3, r4⟩ := r
  dsimp only at r1 r2
  obtain ⟨_, _, _, hx4, _, _⟩ := chkE_ok hc
  have hsl : lsl.len = xss.length := by rw [← r3, r2.1]
  have hpl := hp.1
  have hin := hS.1
  rw [List.length_map] at hin
  refine Loop.up ps.length (fun s => s.2.1) (fun j st k => New h k kref22Act st.1 (rowP xss ps j) ∧ ∀ i < 4, aget (n := 4) (a := ki) st.2.2.1.1 i = (cnt (ps.take j) i : Int)) rfl ⟨New.nil h _, fun i hi => by unfold aget; rw [dif_pos hi]; simp [cnt]⟩ ?_
  rintro j ⟨l, j', ⟨a, ua⟩, u⟩ k go hj hcc ⟨n, hI⟩ hgo
  dsimp only at hcc hI n; subst hcc
  have hnl := n.len
  rw [rowP_len] at hnl
  refine ⟨fun e => ?_, fun e => ?_⟩
  · have e : (j : Int) < (t.len : Int) := of_decide_eq_true e
    have hjt : j < ps.length := by omega
    obtain ⟨i, hi⟩ : ∃ i : Nat, ps[j] = (i : Int) := ⟨ps[j].toNat, by have := (hin ps[j] (by simp)).1; omega⟩
    have hil : i < xss.length := by have := (hin ps[j] (by simp)).2; omega
    have hrm := hS.room hjt hi (m := xss[i].length) (by simp [hil])
    have hcm := cnt_le ps j i
    have hsi : sls[i]? = some (sls[i]'(by omega)) := by simp
    have hxi : xss[i]? = some xss[i] := by simp
    have hxr := r4 i _ _ hsi hxi
    have hxl := hxr.1
    have hb0 : (0 : Int) ≤ (j : Int) := by omega
    refine ⟨⟨hb0, e⟩, (hp.le n.le).at hb0 e rfl fun p hp' => ?_⟩
    obtain rfl : ps[j] = p := by simpa [hjt] using hp'
    rw [hi]
    have hb4 : (0 : Int) ≤ (i : Int) ∧ (i : Int) < (4 : Int) := by omega
    have hbL : (0 : Int) ≤ (i : Int) ∧ (i : Int) < (lsl.len : Int) := by omega
    refine ⟨hb4, hbL, (r2.le n.le).at hbL.1 hbL.2 rfl fun sl hsl' => ?_⟩
    rw [Int.toNat_natCast, hsi] at hsl'
    obtain rfl := Option.some.inj hsl'
    have hcell : aget (n := 4) (a := ki) a ((i : Int)).toNat = (cnt (ps.take j) i : Int) := by rw [Int.toNat_natCast, hI i (by omega)]
    dsimp only
    rw [hcell]
    have hbX : (0 : Int) ≤ ((cnt (ps.take j) i : Nat) : Int) ∧ ((cnt (ps.take j) i : Nat) : Int) < ((sls[i]'(by omega)).len : Int) := by omega
    refine ⟨hbX, (hxr.le n.le).at hbX.1 hbX.2 rfl fun x hx => ?_⟩
    rw [Int.toNat_natCast] at hx
    refine n.app rfl rfl (by omega) fun t2 h2 n2 => ⟨hb4, hb4, ?_⟩
    refine hgo hjt _ _ (w64_up' (n := ps.length) hjt (by omega)) ⟨?_, fun i' hi' => ?_⟩
    · rw [rowP_succ]
      have : rowE xss ps j = ((i : Int), (x, ())) := by
        unfold rowE
        rw [List.getElem?_eq_getElem hjt]
        dsimp only [Option.getD]
        rw [hi, Int.toNat_natCast]
        unfold xAt
        rw [hxi]
        dsimp only [Option.getD]
        rw [hx]
      rw [this]
      exact n2
    · dsimp only
      rw [Int.toNat_natCast, aget_set hi', take_succ' ps hjt, cnt_app, cnt_one]
      by_cases c : i' = i
      · subst c
        rw [if_pos rfl, if_pos hi]
        show w64 ((cnt (ps.take j) i' : Int) + 1) = ((cnt (ps.take j) i' + 1 : Nat) : Int)
        rw [w64_of] <;> omega
      · rw [if_neg c, if_neg (by omega), hI i' hi']
        rfl
  · have e : ¬ (j : Int) < (t.len : Int) := of_decide_eq_false e
    obtain rfl : j = ps.length := by omega
    exact hQ l k n

theorem rplay_spec {c1 : Sc → Sl → Heap → (Sl → Heap → Prop) → Prop} {c2 : Sc → Sl → Ac → Heap → ((Ef × (Sl × Unit)) → Heap → Prop) → Prop} (i1 : ∀ {h Q}, ref22_Row.M s t h Q → c1 s t h Q) (i2 : ∀ {c x h Q}, ref22_do.M s c x h Q → c2 s c x h Q)
    {Q : Den kapiEnding → Heap → Prop} (hQ : ∀ e h', EndR h h' e (playP s.1 bs xss ps) → Q e h') : ref22_play.M c1 c2 s t h Q := by
  have r0 := r
  have hc0 := hc
  obtain ⟨size, bg, lsl, u0⟩ := s
  change Int at size
  obtain ⟨r1, sls, r2, r3, r4⟩ := r
  dsimp only at r1 r2 hQ
  obtain ⟨hz0, hz1, hz2, hx4, _, hbad⟩ := chkE_ok hc
  have hz0 : 0 ≤ size := hz0
  have hz1 : size ≤ 64 := hz1
  have hz2 : (bs.length : Int) ≤ size := hz2
  have hbl : bg.len = bs.length := r1.1.symm
  have hsl : lsl.len = xss.length := by rw [← r3, r2.1]
  have hpl := hp.1
  have hin := hS.1
  rw [List.length_map] at hin
  refine New.mk0 fun p h1 n1 => ?_
  refine n1.apps (r1.le n1.le) rfl rfl (by show (0 + bg.len) * 8 ≤ _; omega) fun c h2 n2 => ?_
  rw [List.nil_append] at n2
  refine Loop.up lsl.len (fun s => s.1) (fun i st k => New h2 k .sl st.2.1.1 (List.replicate i Sl.none)) rfl (New.none (.refl h2) .sl) ?_
  rintro i ⟨i', ⟨o, e2, ue⟩, u⟩ k go hi hcc n3 hgo
  dsimp only at hcc n3; subst hcc
  have hol := n3.len
  rw [List.length_replicate] at hol
  refine ⟨fun e => ?_, fun e => ?_⟩
  · have e : (i : Int) < (lsl.len : Int) := of_decide_eq_true e
    refine n3.app rfl rfl (by omega) fun t2 h3 n4 => ?_
    refine hgo (by omega) _ _ (w64_up' (n := lsl.len) (by omega) (by omega)) ?_
    have n4 : New h2 h3 .sl t2 (List.replicate i Sl.none ++ [Sl.none]) := n4
    rw [← List.replicate_succ'] at n4
    exact n4
  have e : ¬ (i : Int) < (lsl.len : Int) := of_decide_eq_false e
  obtain rfl : i = lsl.len := by omega
  clear hgo
  have l2k : le h k := n2.le.trans n3.le
  refine i1 (row_spec (r0.le l2k) (hp.le l2k) hn hc0 hS fun w h4 n4 => ?_)
  have hwl := n4.len
  rw [rowP_len] at hwl
  have dwo : ∀ x, blkOf w x → ¬ blkOf o x := fun x p q => n3.own.live x q (n4.new x p)
  have dwc : ∀ x, blkOf w x → ¬ blkOf c x := fun x p q => (n2.own.live.le n3.le) x q (n4.new x p)
  have dco : ∀ x, blkOf c x → ¬ blkOf o x := fun x p q => n2.own.live x p (n3.new x q)
  obtain ⟨wa, wn, wc⟩ := w
  have hwl : ps.length = wn := hwl
  refine Loop.up ps.length (fun s => s.2.1) (fun j st k' => ∃ els, New h k' ki st.1 (playP size bs xss (ps.take j)).1 ∧ Nest h k' kapiEffect o els (playP size bs xss (ps.take j)).2 ∧ New h k' kref22Act ⟨wa, wn, wc⟩ (rowP xss ps ps.length) ∧
      (∀ x, blkOf st.1 x → ¬ fpN o els x) ∧ (∀ x, blkOf ⟨wa, wn, wc⟩ x → ¬ blkOf st.1 x) ∧ (∀ x, blkOf ⟨wa, wn, wc⟩ x → ¬ fpN o els x)) rfl ⟨List.replicate lsl.len Sl.none, n2.more (n3.le.trans n4.le), ?_, n4.base l2k, ?_, dwc, ?_⟩ ?_
  · have q := (Nest.init (k := kapiEffect) ((n3.base n2.le).more n4.le))
    have e0 : (playP size bs xss (ps.take 0)).2 = List.replicate lsl.len [] := by rw [hsl]; rfl
    rw [e0]
    exact q
  · rintro x hx (q | ⟨sl, hm, q⟩)
    · exact dco x hx q
    · rw [List.eq_of_mem_replicate hm] at q; exact no_blk q
  · rintro x hx (q | ⟨sl, hm, q⟩)
    · exact dwo x hx q
    · rw [List.eq_of_mem_replicate hm] at q; exact no_blk q
  rintro j ⟨c5, j', u'⟩ h5 go2 hj hcc ⟨els, m5, n5, w5, d1, d2, d3⟩ hgo2
  dsimp only at hcc m5 d1 d2; subst hcc
  refine ⟨fun e => ?_, fun e => ?_⟩
  · have eW : (j : Int) < (wn : Int) := of_decide_eq_true e
    clear e
    have hjt : j < ps.length := by omega
    cases wa with
    | none => exact absurd w5.arr.2.2 (by dsimp only; omega)
    | some wp =>
    obtain ⟨i, hi⟩ : ∃ i : Nat, ps[j] = (i : Int) := ⟨ps[j].toNat, by have := (hin ps[j] (by simp)).1; omega⟩
    have hil : i < xss.length := by have := (hin ps[j] (by simp)).2; omega
    have hps := playP_succ (sz := size) (bs := bs) (xss := xss) hjt
    have hcnt := playP_cnt (sz := size) (bs := bs) (xss := xss) (hin.take j) hil
    have hrm := hS.room hjt hi (m := xss[i].length) (by simp [hil])
    have hpl5 := playP_len (sz := size) (bs := bs) (xss := xss) (ps.take j)
    have hcl5 := playP_cells (sz := size) (bs := bs) (xss := xss) hz2 (ps.take j)
    have hcm := cnt_le ps j i
    generalize playP size bs xss (ps.take j) = st at m5 n5 hps hcnt hpl5 hcl5
    have hel : els.length = xss.length := by rw [n5.len, hpl5]
    have hfs : st.2[i]? = some (st.2[i]'(by omega)) := by simp
    rw [hfs] at hcnt
    dsimp only [Option.getD] at hcnt
    have hei : els[i]? = some (els[i]'(by omega)) := by simp
    have row := n5.row i _ _ hei hfs
    have hrl := row.len
    have hxi : xss[i]? = some xss[i] := by simp
    have hre : (rowP xss ps ps.length)[((j : Int)).toNat]? = some ((i : Int), (xAt xss i (cnt (ps.take j) i), ())) := by
      rw [Int.toNat_natCast, rowP_at hjt]
      unfold rowE
      rw [List.getElem?_eq_getElem hjt]
      dsimp only [Option.getD]
      rw [hi, Int.toNat_natCast]
    obtain ⟨x, hx⟩ : ∃ x, xss[i][cnt (ps.take j) i]? = some x := ⟨_, List.getElem?_eq_getElem hrm⟩
    have hxat : xAt xss i (cnt (ps.take j) i) = x := by unfold xAt; rw [hxi]; dsimp only [Option.getD]; rw [hx]
    rw [hxat] at hre
    have hbW : (0 : Int) ≤ (j : Int) ∧ (j : Int) < (wn : Int) := ⟨by omega, eW⟩
    have ole := n5.out.len
    have hbE : (0 : Int) ≤ (i : Int) ∧ (i : Int) < (o.len : Int) := by omega
    have pd : ∀ {h' : Heap} {K : Ac → Prop}, New h h' kref22Act ⟨some wp, wn, wc⟩ (rowP xss ps ps.length) → K x → ld kapiAct h' ((wp.add ((j : Int).toNat * 6)).add 1) K := fun {h' K} w' hK => by
      refine w'.arr.part (kp := kapiAct) (f := fun y => y.2.1) hbW.1 hbW.2 rfl (fun y => ⟨[.int .i64 y.1], [], by show _ :: _ = _ :: _; simp [Kd.cells], rfl⟩) fun y hy => ?_
      rw [hre] at hy; cases hy; exact hK
    have pw : ∀ {h' : Heap} {K : Int → Prop}, New h h' kref22Act ⟨some wp, wn, wc⟩ (rowP xss ps ps.length) → K (i : Int) → ld ki h' ((wp.add ((j : Int).toNat * 6)).add 0) K := fun {h' K} w' hK => by
      refine w'.arr.part (kp := ki) (f := fun y => y.1) hbW.1 hbW.2 rfl (fun y => ⟨[], kapiAct.cells y.2.1, by simp [Kd.cells], rfl⟩) fun y hy => ?_
      rw [hre] at hy; cases hy; exact hK
    refine ⟨hbW, pd w5 ?_⟩
    refine i2 (do_spec m5 hcl5 hz1 (bads_no hbad hxi hx) fun c6 h6 m6 s6 => ?_)
    have fC : ∀ x, blkOf c5 x → h x = none := m5.new
    have n6 := n5.ext s6.1 (fun x p q => d1 x q p) fC
    have w6 := w5.ext s6.1 d2 fC
    have e1 : ∀ x, fpN o els x → ¬ blkOf c6 x := s6.off (fun x p q => d1 x q p) (fun x q => n5.live q)
    have e2 : ∀ x, blkOf ⟨some wp, wn, wc⟩ x → ¬ blkOf c6 x := s6.off d2 w5.own.live
    refine ⟨hbW, hbW, pw w6 (pw w6 ⟨hbE, n6.out.arr.at hbE.1 hbE.2 rfl fun fl hfl => ?_⟩)⟩
    rw [Int.toNat_natCast, hei] at hfl
    obtain rfl := Option.some.inj hfl
    have row6 := n6.row i _ _ hei hfs
    refine row6.app3 rfl rfl (by omega) fun t7 h7 n7 x7 b7 => ?_
    have w7 := w6.ext x7 (fun x p q => d3 x p (.inr ⟨_, List.mem_of_getElem? hei, q⟩)) row6.new
    refine ⟨?_, hbE, ?_⟩
    · obtain ⟨z, q1, rfl⟩ := pw (K := fun z => z = (i : Int)) w7 rfl
      exact q1
    refine n6.put (p := (i : Int)) rfl hei n7 x7 b7 rfl fun h8 n8 s8 => ?_
    have fN : ∀ x, fpN o els x → h x = none := fun x q => n6.fresh q
    refine hgo2 hjt _ _ (w64_up' (n := ps.length) hjt (by omega)) ⟨_, ?_, ?_, w6.ext s8.1 d3 fN, s8.off (fun x p q => e1 x q p) m6.own.live, e2, s8.off d3 w6.own.live⟩
    · rw [hps]
      unfold stepP
      rw [hi, Int.toNat_natCast, hfs]
      dsimp only [Option.getD]
      rw [hcnt, hxat]
      exact m6.ext s8.1 (fun x p q => e1 x q p) fN
    · rw [hps]
      unfold stepP
      rw [hi, Int.toNat_natCast, hfs]
      dsimp only [Option.getD]
      rw [hcnt, hxat]
      exact n8
  · have e : ¬ (j : Int) < (wn : Int) := of_decide_eq_false e
    rw [List.take_of_length_le (by omega)] at m5 n5
    exact hQ _ h5 ⟨els, n5, m5, d1⟩
end

end Go.Mx
