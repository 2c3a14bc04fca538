/-
  copied of a scene; Check of the program and of the reference.
-/
import Derived.Test.YtanfmmcpjifgiabMxEc
set_option linter.unusedVariables false
set_option linter.unusedSimpArgs false
namespace Go.Mx

theorem sep_grow {t ls ls' r : Sl} {cls : List Sl} (h : List.Pairwise Apart (t :: ls :: cls)) (h1 : Apart t ls') (h2 : ∀ c ∈ cls, Apart ls' c) (h3 : Apart ls' r) (h4 : Apart t r) (h5 : ∀ c ∈ cls, Apart c r) : List.Pairwise Apart (t :: ls' :: (cls ++ [r])) := by
  obtain ⟨a1, a2⟩ := List.pairwise_cons.1 h
  obtain ⟨a3, a4⟩ := List.pairwise_cons.1 a2
  refine List.pairwise_cons.2 ⟨fun x hx => ?_, List.pairwise_cons.2 ⟨fun x hx => ?_, List.pairwise_append.2 ⟨a4, by simp, fun x hx y hy => ?_⟩⟩⟩
  · rcases List.mem_cons.1 hx with rfl | hx
    · exact h1
    · rcases List.mem_append.1 hx with hx | hx
      · exact a1 x (by simp [hx])
      · obtain rfl : x = r := by simpa using hx
        exact h4
  · rcases List.mem_append.1 hx with hx | hx
    · exact h2 x hx
    · obtain rfl : x = r := by simpa using hx
      exact h3
  · obtain rfl : y = r := by simpa using hy
    exact h5 x hx

theorem copied_spec {h0 : Heap} {s : Sc} {bs : List Int} {xss : List (List Ac)} (r : ScR h0 s bs xss) (hs : Small bs xss) {Q : Sc → Heap → Prop}
    (hQ : ∀ c h' cls mk, Scn h0 h' c cls mk bs xss → c.1 = s.1 → Q c h') : law22_copied.M s h0 Q := by
  obtain ⟨r1, sls, r2, r3, r4⟩ := r
  have hbl : s.2.1.len = bs.length := r1.1.symm
  have hsl : s.2.2.1.len = xss.length := by rw [← r3, r2.1]
  have hs1 := hs.1
  have hs2 := hs.2.1
  refine New.mk0 fun p h4 n4 => ?_
  refine n4.apps (r1.le n4.le) rfl rfl (by show (0 + s.2.1.len) * 8 ≤ _; omega) fun t5 h6 n6 => ?_
  rw [List.nil_append] at n6
  refine Loop.up s.2.2.1.len (fun s => s.1) (fun i st k => st.2.1.1 = s.1 ∧ New h0 k ki st.2.1.2.1 bs ∧ ∃ cls : List Sl, New h0 k .sl st.2.1.2.2.1 cls ∧ cls.length = i ∧
    (∀ (j : Nat) sl xs, cls[j]? = some sl → xss[j]? = some xs → BayK h0 k kapiAct sl xs amark) ∧ List.Pairwise Apart (st.2.1.2.1 :: st.2.1.2.2.1 :: cls)) rfl
    ⟨rfl, n6, [], ⟨Own.nil _ _, rfl, n6.le, fun b hb => by obtain ⟨a, e, _⟩ := hb; cases e⟩, rfl, fun j sl xs e => by simp at e, ?_⟩ ?_
  · refine List.pairwise_cons.2 ⟨fun x hx => ?_, by simp⟩
    obtain rfl : x = Sl.none := by simpa using hx
    intro b _ y
    obtain ⟨a, e, _⟩ := y; cases e
  rintro i ⟨j, ⟨sz, bg, ls, u0⟩, u⟩ h8 go hi hc ⟨e1, e2, cls, e3, e4, e5, e6⟩ hgo
  dsimp only at hc e1 e2 e3 e6; subst hc; subst e1
  have lt5 : Live h8 bg := e2.own.live
  have lls : Live h8 ls := e3.own.live
  have e5' : ∀ {j : Nat} {sl : Sl}, cls[j]? = some sl → ∃ xs, BayK h0 h8 kapiAct sl xs amark := fun {j sl} e => by
    have hj : j < xss.length := by have := (List.getElem?_eq_some_iff.1 e).1; omega
    exact ⟨xss[j], e5 j sl _ e (by simp)⟩
  have lcl : ∀ c ∈ cls, Live h8 c := fun c hc => by
    obtain ⟨j, e⟩ := List.mem_iff_getElem?.1 hc
    obtain ⟨xs, q⟩ := e5' e
    exact q.own.live
  obtain ⟨a1, a2⟩ := List.pairwise_cons.1 e6
  obtain ⟨a3, a4⟩ := List.pairwise_cons.1 a2
  refine ⟨fun q => ?_, fun q => ?_⟩
  · have q : (i : Int) < (s.2.2.1.len : Int) := of_decide_eq_true q
    have q' : i < s.2.2.1.len := by omega
    have hsi : sls[i]? = some (sls[i]'(by omega)) := by simp
    have hxs : xss[i]? = some (xss[i]'(by omega)) := by simp
    have hsr := r4 i _ _ hsi hxs
    have hn := hs.at hxs
    have hl1 : (sls[i]'(by omega)).len = (xss[i]'(by omega)).length := hsr.1.symm
    have rs : ∀ {h : Heap} {K : Sl → Prop}, le h0 h → K (sls[i]'(by omega)) → (0 ≤ (i : Int) ∧ (i : Int) < (s.2.2.1.len : Int)) ∧ deref s.2.2.1.a fun a => ld (.sl : Kd) h (a.add ((i : Int).toNat * 1)) K := by
      intro h K l hK
      refine ⟨⟨Int.natCast_nonneg i, q⟩, (r2.le l).at (Int.natCast_nonneg i) q rfl fun x hx => ?_⟩
      rw [Int.toNat_natCast, hsi] at hx
      cases hx
      exact hK
    refine New.mk0 fun p10 h11 n11 => rs (e2.le.trans n11.le) ?_
    refine n11.apps (hsr.le (e2.le.trans n11.le)) rfl rfl (by show (0 + (sls[i]'(by omega)).len) * 40 ≤ _; omega) fun t14 h15 n15 => ?_
    rw [List.nil_append] at n15
    have hl14 := n15.len
    refine n15.app rfl rfl (by omega) fun t18 h19 n19 => rs (e2.le.trans n19.le) ?_
    have hb := n19.bay (n := (sls[i]'(by omega)).len) (sz := 5) hl1.symm
    have hcap := hb.cap
    rw [cut_zero] at hcap
    dsimp only at hcap
    rw [Int.toNat_natCast]
    refine ⟨⟨by omega, by omega⟩, ?_⟩
    have hl := e3.len
    refine (e3.more n19.le).app3 rfl rfl (by omega) fun t24 h25 n25 x25 b25 => ?_
    have nr := hb.new
    have f25 : ∀ b, blkOf ls b → h0 b = none := e3.new
    refine hgo q' _ _ (w64_up q' (by omega)) ⟨rfl, (e2.more n19.le).ext x25 (fun b x y => a1 ls (by simp) b x y) f25, cls ++ [_], n25, by simp [e4], fun j sl xs x y => ?_, sep_grow e6 ?_ ?_ ?_ ?_ ?_⟩
    · by_cases c : j < cls.length
      · rw [List.getElem?_append_left c] at x
        have hm : sl ∈ cls := List.mem_of_getElem? x
        exact ((e5 j sl xs x y).more n19.le).ext x25 (fun b p q => a3 sl hm b q p) f25
      · rw [List.getElem?_append_right (by omega)] at x
        have hj : j = i := by have := (List.getElem?_eq_some_iff.1 x).1; simp at this; omega
        subst hj
        rw [hxs] at y; cases y
        rw [e4, Nat.sub_self] at x
        cases x
        exact (hb.base e2.le).ext x25 (fun b p q => lls b q (nr b p)) f25
    · intro b x y
      rcases b25 b y with c | c
      · exact a1 ls (by simp) b x c
      · exact lt5.le n19.le b x c
    · intro c hc b x y
      rcases b25 b x with d | d
      · exact a3 c hc b d y
      · exact (lcl c hc).le n19.le b y d
    · intro b x y
      rcases b25 b x with d | d
      · exact lls b d (nr b y)
      · exact hb.own.blk y d
    · exact lt5.apart nr
    · exact fun c hc => (lcl c hc).apart nr
  · have q : ¬ (i : Int) < (s.2.2.1.len : Int) := of_decide_eq_false q
    have hcl : cls.length = xss.length := by omega
    have hl5 := e2.len
    have hll := e3.len
    refine e2.app3 rfl rfl (by omega) fun t28 h29 n29 x29 b29 => ?_
    have hb1 := n29.bay (n := s.2.1.len) (sz := 1) hbl.symm
    have hcap1 := hb1.cap
    rw [cut_zero] at hcap1
    dsimp only at hcap1
    rw [Int.toNat_natCast]
    refine ⟨⟨by omega, by omega⟩, New.lit fun p30 h31 n31 => ?_⟩
    have f29 : ∀ b, blkOf bg b → h0 b = none := e2.new
    have f35 : ∀ b, blkOf ls b → h0 b = none := e3.new
    have e3' : New h0 h29 .sl ls cls := e3.ext x29 (fun b x y => a1 ls (by simp) b y x) f29
    refine (e3'.more n31.le).app3 rfl rfl (by omega) fun t34 h35 n35 x35 b35 => ?_
    have hb2 := n35.bay (n := s.2.2.1.len) (sz := 1) (by omega)
    have hcap2 := hb2.cap
    rw [cut_zero] at hcap2
    dsimp only at hcap2
    refine ⟨⟨by omega, by omega⟩, ?_⟩
    have A1 : Apart (t28.cut 0 s.2.1.len 1) ls := by
      intro b x y
      rcases b29 b (blk_cut x) with c | c
      · exact a1 ls (by simp) b c y
      · exact lls b y c
    have A2 : Apart ⟨some p30, 1, 1⟩ ls := fun b x y => lls.ext x29 b y (n31.new b x)
    have hrows : ∀ (j : Nat) sl xs, cls[j]? = some sl → xss[j]? = some xs → BayK h0 h31 kapiAct sl xs amark := fun j sl xs x y =>
      ((e5 j sl xs x y).ext x29 (fun b p q => a1 sl (by simp [List.mem_of_getElem? x]) b q p) f29).more n31.le
    refine hQ _ h35 cls ⟨some p30, 1, 1⟩ ⟨(hb1.more n31.le).ext x35 A1 f35, hb2, (n31.base n29.le).ext x35 A2 f35, hcl, fun j sl xs x y => (hrows j sl xs x y).ext x35 (fun b p q => a3 sl (List.mem_of_getElem? x) b q p) f35, ?_⟩ rfl
    refine List.pairwise_cons.2 ⟨fun x hx => ?_, List.pairwise_cons.2 ⟨fun x hx => ?_, List.pairwise_cons.2 ⟨fun x hx => ?_, a4⟩⟩⟩
    · rcases List.mem_cons.1 hx with rfl | hx
      · intro b x y
        rcases b35 b (blk_cut y) with c | c
        · exact A1 b x c
        · exact hb1.own.live.le n31.le b x c
      · rcases List.mem_cons.1 hx with rfl | hx
        · exact hb1.own.live.apart n31.new
        · intro b p q
          rcases b29 b (blk_cut p) with c | c
          · exact a1 x (by simp [hx]) b c q
          · exact lcl x hx b q c
    · rcases List.mem_cons.1 hx with rfl | hx
      · intro b p q
        rcases b35 b (blk_cut p) with c | c
        · exact A2 b q c
        · exact n31.own.live b q c
      · intro b p q
        rcases b35 b (blk_cut p) with c | c
        · exact a3 x hx b c q
        · obtain ⟨j, e⟩ := List.mem_iff_getElem?.1 hx
          have hj : j < xss.length := by have := (List.getElem?_eq_some_iff.1 e).1; omega
          exact (hrows j x xss[j] e (by simp)).own.live b q c
    · intro b p q
      exact (lcl x hx).ext x29 b q (n31.new b p)

/-! ### Check -/
def actsE (xss : List (List Ac)) : Int := xss.foldl (fun n l => w64 (n + (l.length : Int))) 0
def badE (x : Ac) : Bool := decide ((x.2.1 : Int) < 0) || decide ((4 : Int) < x.2.1)
def badsE (xss : List (List Ac)) : Bool := xss.any fun l => l.any badE
def chkE (sz : Int) (nb : Nat) (xss : List (List Ac)) : Int :=
  if sz < 0 ∨ 64 < sz then 3 else if sz < nb ∨ 4 < xss.length ∨ 10 < actsE xss then 2 else if badsE xss = true then 23 else 0

theorem check_spec {s : Sc} {h : Heap} {bs : List Int} {xss : List (List Ac)} (r : ScR h s bs xss) (hs : Small bs xss) {Q : Int → Heap → Prop} (hQ : Q (chkE s.1 bs.length xss) h) : explore_Check.M s h Q := by
  obtain ⟨size, bg, lsl, u0⟩ := s
  change Int at size
  obtain ⟨r1, sls, r2, r3, r4⟩ := r
  dsimp only at r1 r2
  have hbl : bg.len = bs.length := r1.1.symm
  have hsl : lsl.len = xss.length := by rw [← r3, r2.1]
  have hs2 := hs.2.1
  have hQ : Q (chkE size bs.length xss) h := hQ
  have rs : ∀ (i : Nat) (hi : i < xss.length) {K : Sl → Prop}, K (sls[i]'(by omega)) → (0 ≤ (i : Int) ∧ (i : Int) < (lsl.len : Int)) ∧ deref lsl.a fun a => ld (.sl : Kd) h (a.add ((i : Int).toNat * 1)) K := by
    intro i hi K hK
    refine ⟨⟨Int.natCast_nonneg i, by omega⟩, r2.at (Int.natCast_nonneg i) (by omega) rfl fun x hx => ?_⟩
    rw [Int.toNat_natCast, show sls[i]? = some (sls[i]'(by omega)) from by simp] at hx
    cases hx
    exact hK
  have hsr : ∀ (i : Nat) (hi : i < xss.length), Arr h kapiAct (sls[i]'(by omega)) xss[i] := fun i hi => r4 i _ _ (by simp) (by simp)
  have j9 : ∀ b : Bool, b = decide (size < 0 ∨ 64 < size) → explore_Check.j9 (size, bg, lsl, u0) Q (b, ()) h := by
    rintro b rfl
    refine ⟨fun e => ?_, fun e => ?_⟩
    · have e := of_decide_eq_true e
      rw [chkE, if_pos e] at hQ
      exact hQ
    have e := of_decide_eq_false e
    rw [chkE, if_neg e] at hQ
    refine Loop.up lsl.len (fun s => s.2.1) (fun i s k => k = h ∧ s.1 = actsE (xss.take i)) rfl ⟨rfl, rfl⟩ ?_
    rintro i ⟨n, j, u⟩ k go hi hc ⟨rfl, hn⟩ hgo
    dsimp only at hc hn; subst hc
    refine ⟨fun q => ?_, fun q => ?_⟩
    · have q : (i : Int) < (lsl.len : Int) := of_decide_eq_true q
      have q' : i < lsl.len := by omega
      refine rs i (by omega) ?_
      refine hgo q' _ _ (w64_up q' (by omega)) ⟨rfl, ?_⟩
      have hl := (hsr i (by omega)).1
      rw [take_succ' xss (by omega : i < xss.length)]
      unfold actsE
      rw [List.foldl_append]
      show w64 (n + _) = _
      rw [hn, ← hl]
      rfl
    have q : ¬ (i : Int) < (lsl.len : Int) := of_decide_eq_false q
    rw [List.take_of_length_le (by omega)] at hn
    subst hn
    have j6 : ∀ b : Bool, b = decide (size < bs.length ∨ 4 < xss.length ∨ 10 < actsE xss) → explore_Check.j6 (size, bg, lsl, u0) Q (b, ()) k := by
      rintro b rfl
      refine ⟨fun e => ?_, fun e => ?_⟩
      · have e := of_decide_eq_true e
        rw [if_pos e] at hQ
        exact hQ
      have e := of_decide_eq_false e
      rw [if_neg e] at hQ
      clear hgo q hi
      refine Loop.up lsl.len (fun s => s.1) (fun i s k' => k' = k ∧ badsE (xss.take i) = false) rfl ⟨rfl, rfl⟩ ?_
      rintro i ⟨j, u⟩ k2 go hi hc ⟨rfl, hn⟩ hgo
      dsimp only at hc; subst hc
      refine ⟨fun q => ?_, fun q => ?_⟩
      · have q : (i : Int) < (lsl.len : Int) := of_decide_eq_true q
        have q' : i < lsl.len := by omega
        have hi' : i < xss.length := by omega
        have hr := hsr i hi'
        have hsm : (xss[i]).length ≤ 1048576 := hs.at (i := i) (by simp)
        have hl1 : (sls[i]'(by omega)).len = xss[i].length := hr.1.symm
        refine rs i hi' ?_
        refine Loop.up (sls[i]'(by omega)).len (fun s => s.1) (fun j s k3 => k3 = k2 ∧ (xss[i].take j).any badE = false) rfl ⟨rfl, rfl⟩ ?_
        rintro j ⟨j', u'⟩ k3 go2 hj hc ⟨rfl, hm⟩ hgo2
        dsimp only at hc; subst hc
        refine ⟨fun p => ?_, fun p => ?_⟩
        · have p : (j : Int) < ((sls[i]'(by omega)).len : Int) := of_decide_eq_true p
          have p' : j < (sls[i]'(by omega)).len := by omega
          have hj' : j < xss[i].length := by omega
          refine ⟨⟨Int.natCast_nonneg j, p⟩, hr.at (Int.natCast_nonneg j) p rfl fun x hx => ?_⟩
          obtain rfl : xss[i][j] = x := by simpa [hj'] using hx
          have j2 : ∀ b : Bool, b = badE xss[i][j] → explore_Check.j2 Q go2 ((j : Int), u') (b, ()) k3 := by
            rintro b rfl
            refine ⟨fun f => ?_, fun f => ?_⟩
            · have f : badE xss[i][j] = true := f
              have hb : badsE xss = true := by
                unfold badsE
                rw [List.any_eq_true]
                exact ⟨xss[i], by simp, List.any_eq_true.2 ⟨xss[i][j], by simp, f⟩⟩
              rw [if_pos hb] at hQ
              exact hQ
            · have f : badE xss[i][j] = false := f
              refine hgo2 p' _ _ (w64_up p' (by omega)) ⟨rfl, ?_⟩
              rw [take_succ' xss[i] hj', List.any_append, hm]
              simp [f]
          refine ⟨fun f => j2 _ ?_, fun f => j2 _ ?_⟩
          · unfold badE; rw [show decide ((xss[i][j].2.1 : Int) < 0) = true from f]; rfl
          · unfold badE; rw [show decide ((xss[i][j].2.1 : Int) < 0) = false from f]; rfl
        · have p : ¬ (j : Int) < ((sls[i]'(by omega)).len : Int) := of_decide_eq_false p
          rw [List.take_of_length_le (by omega)] at hm
          refine hgo q' _ _ (w64_up q' (by omega)) ⟨rfl, ?_⟩
          unfold badsE at hn ⊢
          rw [take_succ' xss hi', List.any_append, hn]
          simp [hm]
      · have q : ¬ (i : Int) < (lsl.len : Int) := of_decide_eq_false q
        rw [List.take_of_length_le (by omega)] at hn
        rw [if_neg (by rw [hn]; decide)] at hQ
        exact hQ
    refine ⟨fun f => j6 _ ?_, fun f => ⟨fun g => j6 _ ?_, fun g => j6 _ ?_⟩⟩
    · have f : size < (bg.len : Int) := of_decide_eq_true f
      exact (decide_eq_true (.inl (by omega))).symm
    · have g : (4 : Int) < (lsl.len : Int) := of_decide_eq_true g
      exact (decide_eq_true (.inr (.inl (by omega)))).symm
    · have f : ¬ size < (bg.len : Int) := of_decide_eq_false f
      have g : ¬ (4 : Int) < (lsl.len : Int) := of_decide_eq_false g
      refine decide_eq_decide.2 ⟨fun x => .inr (.inr x), fun x => ?_⟩
      rcases x with x | x | x
      · omega
      · omega
      · exact x
  refine ⟨fun f => j9 _ ?_, fun f => j9 _ ?_⟩
  · have f : size < 0 := of_decide_eq_true f
    exact (decide_eq_true (.inl f)).symm
  · have f : ¬ size < 0 := of_decide_eq_false f
    exact decide_eq_decide.2 ⟨fun x => .inr x, fun x => x.resolve_left f⟩


theorem acts_spec {s : Sc} {h : Heap} {bs : List Int} {xss : List (List Ac)} (r : ScR h s bs xss) (hs : Small bs xss) {Q : Int → Heap → Prop} (hQ : Q (actsE xss) h) : ref22_acts.M s h Q := by
  obtain ⟨r1, sls, r2, r3, r4⟩ := r
  have hsl : s.2.2.1.len = xss.length := by rw [← r3, r2.1]
  have hs2 := hs.2.1
  refine Loop.up s.2.2.1.len (fun s => s.2.1) (fun i s k => k = h ∧ s.1 = actsE (xss.take i)) rfl ⟨rfl, rfl⟩ ?_
  rintro i ⟨n, j, u⟩ k go hi hc ⟨rfl, hn⟩ hgo
  dsimp only at hc hn; subst hc
  refine ⟨fun q => ?_, fun q => ?_⟩
  · have q : (i : Int) < (s.2.2.1.len : Int) := of_decide_eq_true q
    have q' : i < s.2.2.1.len := by omega
    refine ⟨⟨Int.natCast_nonneg i, q⟩, r2.at (Int.natCast_nonneg i) q rfl fun x hx => ?_⟩
    rw [Int.toNat_natCast] at hx
    refine hgo q' _ _ (w64_up q' (by omega)) ⟨rfl, ?_⟩
    have hl := (r4 i x (xss[i]'(by omega)) hx (by simp)).1
    rw [take_succ' xss (by omega : i < xss.length)]
    unfold actsE
    rw [List.foldl_append]
    show w64 (n + _) = _
    rw [hn, ← hl]
    rfl
  · have q : ¬ (i : Int) < (s.2.2.1.len : Int) := of_decide_eq_false q
    rw [List.take_of_length_le (by omega)] at hn
    subst hn
    exact hQ

theorem rcheck_spec {s : Sc} {h : Heap} {bs : List Int} {xss : List (List Ac)} (r : ScR h s bs xss) (hs : Small bs xss) {c1 : Sc → Heap → (Int → Heap → Prop) → Prop} (i1 : ∀ {a h Q}, ref22_acts.M a h Q → c1 a h Q)
    {Q : Int → Heap → Prop} (hQ : Q (chkE s.1 bs.length xss) h) : ref22_Check.M c1 s h Q := by
  have r0 := r
  obtain ⟨size, bg, lsl, u0⟩ := s
  change Int at size
  obtain ⟨r1, sls, r2, r3, r4⟩ := r
  dsimp only at r1 r2
  have hbl : bg.len = bs.length := r1.1.symm
  have hsl : lsl.len = xss.length := by rw [← r3, r2.1]
  have hs2 := hs.2.1
  have hQ : Q (chkE size bs.length xss) h := hQ
  have rs : ∀ (i : Nat) (hi : i < xss.length) {K : Sl → Prop}, K (sls[i]'(by omega)) → (0 ≤ (i : Int) ∧ (i : Int) < (lsl.len : Int)) ∧ deref lsl.a fun a => ld (.sl : Kd) h (a.add ((i : Int).toNat * 1)) K := by
    intro i hi K hK
    refine ⟨⟨Int.natCast_nonneg i, by omega⟩, r2.at (Int.natCast_nonneg i) (by omega) rfl fun x hx => ?_⟩
    rw [Int.toNat_natCast, show sls[i]? = some (sls[i]'(by omega)) from by simp] at hx
    cases hx
    exact hK
  have hsr : ∀ (i : Nat) (hi : i < xss.length), Arr h kapiAct (sls[i]'(by omega)) xss[i] := fun i hi => r4 i _ _ (by simp) (by simp)
  have j8 : ∀ b : Bool, b = decide (size < 0 ∨ 64 < size) → ref22_Check.j8 c1 (size, bg, lsl, u0) Q (b, ()) h := by
    rintro b rfl
    refine ⟨fun e => ?_, fun e => ?_⟩
    · have e := of_decide_eq_true e
      rw [chkE, if_pos e] at hQ
      exact hQ
    have e := of_decide_eq_false e
    rw [chkE, if_neg e] at hQ
    have j6 : ∀ b : Bool, b = decide (size < bs.length ∨ 4 < xss.length ∨ 10 < actsE xss) → ref22_Check.j6 (size, bg, lsl, u0) Q (b, ()) h := by
      rintro b rfl
      refine ⟨fun e => ?_, fun e => ?_⟩
      · have e := of_decide_eq_true e
        rw [if_pos e] at hQ
        exact hQ
      have e := of_decide_eq_false e
      rw [if_neg e] at hQ
      refine Loop.up lsl.len (fun s => s.1) (fun i s k' => k' = h ∧ badsE (xss.take i) = false) rfl ⟨rfl, rfl⟩ ?_
      rintro i ⟨j, u⟩ k2 go hi hc ⟨rfl, hn⟩ hgo
      dsimp only at hc; subst hc
      refine ⟨fun q => ?_, fun q => ?_⟩
      · have q : (i : Int) < (lsl.len : Int) := of_decide_eq_true q
        have q' : i < lsl.len := by omega
        have hi' : i < xss.length := by omega
        have hr := hsr i hi'
        have hsm : (xss[i]).length ≤ 1048576 := hs.at (i := i) (by simp)
        have hl1 : (sls[i]'(by omega)).len = xss[i].length := hr.1.symm
        refine Loop.up (sls[i]'(by omega)).len (fun s => s.1) (fun j s k3 => k3 = k2 ∧ (xss[i].take j).any badE = false) rfl ⟨rfl, rfl⟩ ?_
        rintro j ⟨j', u'⟩ k3 go2 hj hc ⟨rfl, hm⟩ hgo2
        dsimp only at hc; subst hc
        refine rs i hi' ⟨fun p => ?_, fun p => ?_⟩
        · have p : (j : Int) < ((sls[i]'(by omega)).len : Int) := of_decide_eq_true p
          have p' : j < (sls[i]'(by omega)).len := by omega
          have hj' : j < xss[i].length := by omega
          refine rs i hi' ⟨⟨Int.natCast_nonneg j, p⟩, hr.part (kp := ki) (f := fun x => x.2.1) (Int.natCast_nonneg j) p rfl ac_kind fun x hx => ?_⟩
          obtain rfl : xss[i][j] = x := by simpa [hj'] using hx
          have j2 : ∀ b : Bool, b = badE xss[i][j] → ref22_Check.j2 Q go2 ((j : Int), u') (b, ()) k3 := by
            rintro b rfl
            refine ⟨fun f => ?_, fun f => ?_⟩
            · have f : badE xss[i][j] = true := f
              have hb : badsE xss = true := by
                unfold badsE
                rw [List.any_eq_true]
                exact ⟨xss[i], by simp, List.any_eq_true.2 ⟨xss[i][j], by simp, f⟩⟩
              rw [if_pos hb] at hQ
              exact hQ
            · have f : badE xss[i][j] = false := f
              refine hgo2 p' _ _ (w64_up p' (by omega)) ⟨rfl, ?_⟩
              rw [take_succ' xss[i] hj', List.any_append, hm]
              simp [f]
          refine ⟨fun f => j2 _ ?_, fun f => j2 _ ?_⟩
          · unfold badE; rw [show decide ((xss[i][j].2.1 : Int) < 0) = true from f]; rfl
          · unfold badE; rw [show decide ((xss[i][j].2.1 : Int) < 0) = false from f]; rfl
        · have p : ¬ (j : Int) < ((sls[i]'(by omega)).len : Int) := of_decide_eq_false p
          rw [List.take_of_length_le (by omega)] at hm
          refine hgo q' _ _ (w64_up q' (by omega)) ⟨rfl, ?_⟩
          unfold badsE at hn ⊢
          rw [take_succ' xss hi', List.any_append, hn]
          simp [hm]
      · have q : ¬ (i : Int) < (lsl.len : Int) := of_decide_eq_false q
        rw [List.take_of_length_le (by omega)] at hn
        rw [if_neg (by rw [hn]; decide)] at hQ
        exact hQ
    refine ⟨fun f => j6 _ ?_, fun f => ⟨fun g => j6 _ ?_, fun g => i1 (acts_spec r0 hs (j6 _ ?_))⟩⟩
    · have f : size < (bg.len : Int) := of_decide_eq_true f
      exact (decide_eq_true (.inl (by omega))).symm
    · have g : (4 : Int) < (lsl.len : Int) := of_decide_eq_true g
      exact (decide_eq_true (.inr (.inl (by omega)))).symm
    · have f : ¬ size < (bg.len : Int) := of_decide_eq_false f
      have g : ¬ (4 : Int) < (lsl.len : Int) := of_decide_eq_false g
      refine decide_eq_decide.2 ⟨fun x => .inr (.inr x), fun x => ?_⟩
      rcases x with x | x | x
      · omega
      · omega
      · exact x
  refine ⟨fun f => j8 _ ?_, fun f => j8 _ ?_⟩
  · have f : size < 0 := of_decide_eq_true f
    exact (decide_eq_true (.inl f)).symm
  · have f : ¬ size < 0 := of_decide_eq_false f
    exact decide_eq_decide.2 ⟨fun x => .inr x, fun x => x.resolve_left f⟩

/-! ### the laws -/
/-- A scene of one's own, moved and set right again: what the laws do ahead of their calls. -/
theorem law22_frame {h0 : Heap} {s : Sc} {bs : List Int} {xss : List (List Ac)} (r : ScR h0 s bs xss) (hs : Small bs xss)
    {c1 : Sc → Heap → (Sc → Heap → Prop) → Prop} {c2 : Sc → Heap → (Unit → Heap → Prop) → Prop} {c3 : Sc → Sc → Heap → (Unit → Heap → Prop) → Prop}
    (i1 : ∀ {a h Q}, law22_copied.M a h Q → c1 a h Q) (i2 : ∀ {a h Q}, law22_moved.M a h Q → c2 a h Q) (i3 : ∀ {a b h Q}, law22_back.M a b h Q → c3 a b h Q)
    {K : Sc → Heap → Prop}
    (hK : ∀ c h1 cls mk bs' xss', Scn h0 h1 c cls mk bs' xss' → bs.length = bs'.length → Like xss xss' → c.1 = s.1 → K c h1) :
    c1 s h0 fun c h1 => c2 c h1 fun _ h2 => K c h2 :=
  i1 (copied_spec r hs fun c h1 cls mk o e => i2 (moved_spec o hs fun h2 bs' xss' o' a b => hK c h2 cls mk bs' xss' o' a b e))

theorem Scn.small {h0 h c cls mk bs bs' xss xss'} (o : Scn h0 h c cls mk bs' xss') (hs : Small bs xss) (a : bs.length = bs'.length) (b : Like xss xss') : Small bs' xss' := by
  refine ⟨a ▸ hs.1, b.len ▸ hs.2.1, fun xs hx => ?_⟩
  obtain ⟨i, e⟩ := List.mem_iff_getElem?.1 hx
  have hi : i < xss.length := by rw [b.len]; exact (List.getElem?_eq_some_iff.1 e).1
  rw [← b.at (xs := xss[i]) (by simp) e]
  exact hs.at (i := i) (by simp)

theorem Scn.ext {h0 h h' c cls mk bs xss} (o : Scn h0 h c cls mk bs xss) {S : Nat → Prop} (e : Ext S h h') (d1 : ∀ x, fpS c cls x → ¬ S x) (d2 : ∀ x, blkOf c.2.2.1 x → ¬ S x) (d3 : ∀ x, blkOf mk x → ¬ S x) (f : ∀ x, S x → h0 x = none) : Scn h0 h' c cls mk bs xss :=
  ⟨o.beg.ext e (fun x q => d1 x (.inl q)) f, o.ls.ext e d2 f, o.lone.ext e d3 f, o.len, fun i sl xs a b => (o.row i sl xs a b).ext e (fun x q => d1 x (.inr ⟨sl, List.mem_of_getElem? a, q⟩)) f, o.sep⟩
theorem Scn.live {h0 h c cls mk bs xss} (o : Scn h0 h c cls mk bs xss) {x : Nat} (hx : fpS c cls x ∨ blkOf c.2.2.1 x ∨ blkOf mk x) : h x ≠ none := by
  rcases hx with (q | ⟨sl, hm, q⟩) | q | q
  · exact o.beg.own.live x q
  · obtain ⟨i, e⟩ := List.mem_iff_getElem?.1 hm
    have hi : i < xss.length := by rw [← o.len]; exact (List.getElem?_eq_some_iff.1 e).1
    exact (o.row i sl xss[i] e (by simp)).own.live x q
  · exact o.ls.own.live x q
  · exact o.lone.own.live x q
theorem Scn.fresh {h0 h c cls mk bs xss} (o : Scn h0 h c cls mk bs xss) {x : Nat} (hx : fpS c cls x) : h0 x = none := by
  rcases hx with q | ⟨sl, hm, q⟩
  · exact o.beg.new x q
  · obtain ⟨i, e⟩ := List.mem_iff_getElem?.1 hm
    have hi : i < xss.length := by rw [← o.len]; exact (List.getElem?_eq_some_iff.1 e).1
    exact (o.row i sl xss[i] e (by simp)).new x q

end Go.Mx
