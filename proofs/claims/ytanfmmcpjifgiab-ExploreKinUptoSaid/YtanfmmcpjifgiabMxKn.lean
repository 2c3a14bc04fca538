/-
  All scripts, in order: the reference's Scripts and Kin.
-/
import Derived.Test.YtanfmmcpjifgiabMxKm
set_option linter.unusedVariables false
set_option linter.unusedSimpArgs false
set_option linter.unusedSectionVars false
namespace Go.Mx

/-- One more row. -/
theorem Nest.snoc {h0 h : Heap} {k : Kd} {o t : Sl} {els : List Sl} {xss : List (List (Den k))} {ys : List (Den k)} (n : Nest h0 h k o els xss) (nt : New h0 h k t ys) (ap : ∀ x, blkOf t x → ¬ fpN o els x) (hb : (o.len + 1) * 24 ≤ 140737488355328) {K : Sl → Heap → Prop}
    (hK : ∀ o' h', Nest h0 h' k o' (els ++ [t]) (xss ++ [ys]) → Ext (blkOf o) h h' → (∀ b, blkOf o' b → blkOf o b ∨ h b = none) → K o' h') : Go.Mx.new h ([t].flatMap (Kd.cells .sl)) fun p h1 => appendM 1 24 h1 o ⟨some p, 1, 1⟩ K := by
  obtain ⟨s1, s2⟩ := List.pairwise_cons.1 n.sep
  refine n.out.app3 rfl rfl hb fun o' h' n2 x2 b2 => hK o' h' ⟨n2, by rw [List.length_append, List.length_append, n.len]; rfl, fun i sl xs a b => ?_, List.pairwise_cons.2 ⟨fun sl hs b hb1 hb2 => ?_, ?_⟩⟩ x2 b2
  · by_cases c : i < els.length
    · rw [List.getElem?_append_left c] at a
      rw [List.getElem?_append_left (by rw [← n.len]; exact c)] at b
      exact (n.row i sl xs a b).ext x2 (fun z u v => s1 sl (List.mem_of_getElem? a) z v u) n.out.new
    · rw [List.getElem?_append_right (by omega)] at a
      rw [List.getElem?_append_right (by rw [← n.len]; omega)] at b
      have a1 := List.mem_of_getElem? a
      have b1 := List.mem_of_getElem? b
      have a1 : sl = t := by simpa using a1
      have b1 : xs = ys := by simpa using b1
      subst a1; subst b1
      exact nt.ext x2 (fun z u v => ap z u (.inl v)) n.out.new
  · rcases List.mem_append.1 hs with hs | hs
    · rcases b2 b hb1 with d | d
      · exact s1 sl hs b d hb2
      · obtain ⟨xs, q⟩ := n.row' hs
        exact q.own.live b hb2 d
    · have : sl = t := by simpa using hs
      subst this
      rcases b2 b hb1 with d | d
      · exact ap b hb2 (.inl d)
      · exact nt.own.live b hb2 d
  · rw [List.pairwise_append]
    refine ⟨s2, by simp, fun a ha b hb' x hx hy => ?_⟩
    have : b = t := by simpa using hb'
    subst this
    exact ap x hy (.inr ⟨a, ha, hx⟩)
theorem Step.ofLe {S : Nat → Prop} {h h' : Heap} (l : Go.Mx.le h h') : Step S S h h' := ⟨l.toExt, fun _ q => .inl q⟩

/-! ### all scripts, in order -/
def allW (lens : List Nat) : Nat → List Int → List (List Int)
  | 0, u => [u]
  | n + 1, u => (List.range lens.length).flatMap fun w => if cnt u w < (lens[w]?).getD 0 then allW lens n (u ++ [(w : Int)]) else []
def allC (lens : List Nat) (n : Nat) (u : List Int) (w : Nat) : List (List Int) := if cnt u w < (lens[w]?).getD 0 then allW lens n (u ++ [(w : Int)]) else []
theorem allW_succ (lens : List Nat) (n : Nat) (u : List Int) : allW lens (n + 1) u = (List.range lens.length).flatMap (allC lens n u) := rfl
theorem flat_len_le {α β : Type} (f : α → List β) (c : Nat) (l : List α) (h : ∀ x ∈ l, (f x).length ≤ c) : (l.flatMap f).length ≤ l.length * c := by
  induction l with
  | nil => simp
  | cons a l ih =>
    rw [List.flatMap_cons, List.length_append, List.length_cons, Nat.succ_mul]
    have h1 := h a (by simp)
    have := ih fun x hx => h x (List.mem_cons_of_mem _ hx)
    omega
theorem allW_len (lens : List Nat) (h4 : lens.length ≤ 4) : ∀ (n : Nat) (u : List Int), (allW lens n u).length ≤ 4 ^ n
  | 0, _ => Nat.le_refl _
  | n + 1, u => by
    rw [allW_succ]
    have := flat_len_le (allC lens n u) (4 ^ n) (List.range lens.length) fun w _ => by
      unfold allC
      split
      · exact allW_len lens h4 n _
      · exact Nat.zero_le _
    rw [List.length_range] at this
    have h2 : lens.length * 4 ^ n ≤ 4 * 4 ^ n := Nat.mul_le_mul_right _ h4
    rw [Nat.pow_succ]
    omega
theorem allW_mem (lens : List Nat) : ∀ (n : Nat) (u q : List Int), (∀ w, cnt u w ≤ (lens[w]?).getD 0) → (q ∈ allW lens n u ↔ ∃ v, q = u ++ v ∧ v.length = n ∧ InR lens.length v ∧ ∀ w, cnt q w ≤ (lens[w]?).getD 0)
  | 0, u, q, hu => by
    show q ∈ [u] ↔ _
    rw [List.mem_singleton]
    constructor
    · rintro rfl
      exact ⟨[], by simp, rfl, fun p hp => (by cases hp), hu⟩
    · rintro ⟨v, h1, h2, _, _⟩
      have : v = [] := List.eq_nil_of_length_eq_zero h2
      rw [h1, this, List.append_nil]
  | n + 1, u, q, hu => by
    rw [allW_succ, List.mem_flatMap]
    constructor
    · rintro ⟨w, hw, hq⟩
      have hw := List.mem_range.1 hw
      unfold allC at hq
      by_cases z : cnt u w < (lens[w]?).getD 0
      · rw [if_pos z] at hq
        have hu2 : ∀ x, cnt (u ++ [(w : Int)]) x ≤ (lens[x]?).getD 0 := fun x => by
          rw [cnt_app, cnt_one]
          have := hu x
          by_cases y : (w : Int) = (x : Int)
          · have : w = x := by omega
            subst this
            rw [if_pos rfl]; omega
          · rw [if_neg y]; omega
        obtain ⟨v, h1, h2, h3, h4⟩ := (allW_mem lens n _ q hu2).1 hq
        refine ⟨(w : Int) :: v, by rw [h1]; simp, by rw [List.length_cons, h2], fun p hp => ?_, h4⟩
        rcases List.mem_cons.1 hp with rfl | hp
        · omega
        · exact h3 p hp
      · rw [if_neg z] at hq; cases hq
    · rintro ⟨v, h1, h2, h3, h4⟩
      cases v with
      | nil => cases h2
      | cons p v =>
        have hp := h3 p (by simp)
        obtain ⟨w, rfl⟩ : ∃ w : Nat, p = (w : Int) := ⟨p.toNat, by omega⟩
        refine ⟨w, List.mem_range.2 (by omega), ?_⟩
        have hcw : cnt u w < (lens[w]?).getD 0 := by
          have := h4 w
          rw [h1, cnt_app, cnt_cons, if_pos rfl] at this
          omega
        unfold allC
        rw [if_pos hcw]
        have hu2 : ∀ x, cnt (u ++ [(w : Int)]) x ≤ (lens[x]?).getD 0 := fun x => by
          rw [cnt_app, cnt_one]
          have := hu x
          by_cases y : (w : Int) = (x : Int)
          · have : w = x := by omega
            subst this
            rw [if_pos rfl]; omega
          · rw [if_neg y]; omega
        exact (allW_mem lens n _ q hu2).2 ⟨v, by rw [h1]; simp, by simpa using h2, fun p hp => h3 p (List.mem_cons_of_mem _ hp), h4⟩
theorem allW_nodup (lens : List Nat) : ∀ (n : Nat) (u : List Int), (∀ w, cnt u w ≤ (lens[w]?).getD 0) → (allW lens n u).Nodup
  | 0, u, _ => by simp [allW]
  | n + 1, u, hu => by
    have hu2 : ∀ w, cnt u w < (lens[w]?).getD 0 → ∀ x, cnt (u ++ [(w : Int)]) x ≤ (lens[x]?).getD 0 := fun w hw x => by
      rw [cnt_app, cnt_one]
      have := hu x
      by_cases y : (w : Int) = (x : Int)
      · have : w = x := by omega
        subst this
        rw [if_pos rfl]; omega
      · rw [if_neg y]; omega
    rw [allW_succ, List.Nodup, List.pairwise_flatMap]
    refine ⟨fun w _ => ?_, List.pairwise_lt_range.imp fun {a b} hab x hx y hy e => ?_⟩
    · unfold allC
      by_cases z : cnt u w < (lens[w]?).getD 0
      · rw [if_pos z]; exact allW_nodup lens n _ (hu2 w z)
      · rw [if_neg z]; exact .nil
    · have hd : ∀ {w : Nat} {x : List Int}, x ∈ allC lens n u w → ∃ v, x = u ++ (w : Int) :: v := fun {w x} hx => by
        unfold allC at hx
        by_cases z : cnt u w < (lens[w]?).getD 0
        · rw [if_pos z] at hx
          obtain ⟨v, h1, _⟩ := (allW_mem lens n _ x (hu2 w z)).1 hx
          exact ⟨v, by rw [h1]; simp⟩
        · rw [if_neg z] at hx; cases hx
      obtain ⟨v, h1⟩ := hd hx
      obtain ⟨v2, h2⟩ := hd hy
      rw [e, h2] at h1
      have := List.append_cancel_left h1
      have := (List.cons.inj this).1
      omega
theorem allW_script {lens : List Nat} {q : List Int} : q ∈ allW lens lens.sum [] ↔ ScriptP lens q := by
  have h0 : ∀ w, cnt [] w ≤ (lens[w]?).getD 0 := fun w => Nat.zero_le _
  rw [allW_mem lens _ _ _ h0]
  constructor
  · rintro ⟨v, h1, h2, h3, h4⟩
    rw [List.nil_append] at h1
    subst h1
    refine ⟨h3, fun i l hl => ?_⟩
    have hs := cnt_sum lens.length q h3
    have hls : ((List.range lens.length).map fun w => (lens[w]?).getD 0) = lens := by
      apply List.ext_getElem
      · simp
      · intro i _ hi
        simp [hi]
    have key : ∀ (L : List Nat) (f g : Nat → Nat), (∀ x ∈ L, f x ≤ g x) → (L.map f).sum = (L.map g).sum → ∀ x ∈ L, f x = g x := fun L f g => by
      induction L with
      | nil => intro _ _ x hx; cases hx
      | cons a L ih =>
        intro hle he x hx
        rw [List.map_cons, List.map_cons, List.sum_cons, List.sum_cons] at he
        have ha := hle a (by simp)
        have hsl : (L.map f).sum ≤ (L.map g).sum := by
          have : ∀ M : List Nat, (∀ x ∈ M, f x ≤ g x) → (M.map f).sum ≤ (M.map g).sum := fun M => by
            induction M with
            | nil => intro _; exact Nat.le_refl _
            | cons b M ihM =>
              intro h
              rw [List.map_cons, List.map_cons, List.sum_cons, List.sum_cons]
              have := ihM fun x hx => h x (List.mem_cons_of_mem _ hx)
              have := h b (by simp)
              omega
          exact this L fun x hx => hle x (List.mem_cons_of_mem _ hx)
        rcases List.mem_cons.1 hx with rfl | hx
        · omega
        · exact ih (fun x hx => hle x (List.mem_cons_of_mem _ hx)) (by omega) x hx
    have hil : i < lens.length := (List.getElem?_eq_some_iff.1 hl).1
    have := key (List.range lens.length) (cnt q) (fun w => (lens[w]?).getD 0) (fun x _ => h4 x) (by rw [hls, hs, h2]) i (List.mem_range.2 hil)
    rw [this, hl]; rfl
  · intro h
    refine ⟨q, by simp, h.len, h.1, fun w => ?_⟩
    by_cases z : w < lens.length
    · rw [h.2 w lens[w] (by simp)]; simp [z]
    · rw [cnt_none h.1 (by omega)]; exact Nat.zero_le _

theorem more_spec {h0 : Heap} {s : Sc} {bs : List Int} {xss : List (List Ac)} {lens : List Nat} (r : ScR h0 s bs xss) (hlens : xss.map List.length = lens) (h4 : xss.length ≤ 4) {total : Nat} (hT : total ≤ 10)
    {cA : Sc → Heap → (Int → Heap → Prop) → Prop} {F : Sc → Sl → Sl → Heap → (Sl → Heap → Prop) → Prop} (iA : ∀ {k : Heap} {Q : Int → Heap → Prop}, le h0 k → Q (total : Int) k → cA s k Q) (jF : ∀ {a b h Q}, ref22_more.M cA F s a b h Q → F s a b h Q) :
    ∀ (n : Nat) (u : List Int) (t l : Sl) (h : Heap) (els : List Sl) (yss : List (List Int)) (Q : Sl → Heap → Prop), u.length + n = total → Arr h ki t u → Live h t → (∀ x, blkOf t x → ¬ fpN l els x) → Nest h0 h ki l els yss → yss.length + 4 ^ n ≤ 2000000000 →
      (∀ l' els' h', Nest h0 h' ki l' els' (yss ++ allW lens n u) → Step (fpN l els) (fpN l' els') h h' → Q l' h') → F s t l h Q := by
  obtain ⟨size, bg, lsl, u0⟩ := s
  obtain ⟨r1, sls, r2, r3, r4⟩ := r
  dsimp only at r1 r2
  have hsl : lsl.len = xss.length := by rw [← r3, r2.1]
  have hln : lens.length = xss.length := by rw [← hlens]; simp
  intro n
  induction n with
  | zero =>
    intro u t l h els yss Q hn ht lt ap nst hb hQ
    have htl := ht.1
    have hol := nst.out.len
    have hel := nst.len
    refine jF (iA nst.le (dcs (fun e => ?_) (fun e => absurd (show (t.len : Int) = (total : Int) by omega) e)))
    refine New.mk0 (k := ki) fun p7 h8 n8 => n8.apps (k := ki) (ht.le n8.le) rfl rfl (show (0 + t.len) * 8 ≤ _ by omega) fun t9 h10 n10 => ?_
    rw [List.nil_append] at n10
    refine (nst.more n10.le).snoc (n10.base nst.le) (fun x hx hf => nst.live hf (n10.new x hx)) (by omega) fun o' h' n' x' b' => hQ o' _ h' n' ⟨(n10.le.toExt).trans (x'.mono fun x q => .inl q), fun x hx => ?_⟩
    rcases hx with hx | ⟨sl, hs, hx⟩
    · rcases b' x hx with z | z
      · exact .inl (.inl z)
      · exact .inr (n10.le.none z)
    · rcases List.mem_append.1 hs with hs | hs
      · exact .inl (.inr ⟨sl, hs, hx⟩)
      · have : sl = t9 := by simpa using hs
        subst this
        exact .inr (n10.new x hx)
  | succ n ih =>
    intro u t l h els yss Q hn ht lt ap nst hb hQ
    have htl := ht.1
    have hul : u.length < total := by omega
    refine jF (iA nst.le (dcs (fun e => absurd e (show ¬ (t.len : Int) = (total : Int) by omega)) (fun _ => ?_)))
    have hrange : ∀ w, (List.range (w + 1)).flatMap (allC lens n u) = (List.range w).flatMap (allC lens n u) ++ allC lens n u w := fun w => by
      rw [List.range_succ, List.flatMap_append, List.flatMap_cons, List.flatMap_nil, List.append_nil]
    have hClen : ∀ w, (allC lens n u w).length ≤ 4 ^ n := fun w => by
      unfold allC
      split
      · exact allW_len lens (by omega) n _
      · exact Nat.zero_le _
    refine Loop.up xss.length (fun s => s.2.1) (fun w st k => ∃ els', Nest h0 k ki st.1 els' (yss ++ (List.range w).flatMap (allC lens n u)) ∧ Step (fpN l els) (fpN st.1 els') h k) rfl
      ⟨els, by simpa using nst, .refl _ _⟩ ?_
    rintro w ⟨l2, w', u1⟩ k go hw hcw ⟨els2, n2, st2⟩ hgo
    dsimp only at hcw n2 st2; subst hcw
    refine dcs (fun e => ?_) (fun e => ?_)
    · have e : (w : Int) < (lsl.len : Int) := e
      have hwx : w < xss.length := by omega
      have htk := ht.ext st2.1 ap
      have htk1 := htk.1
      have apk := st2.off ap lt
      refine Loop.up u.length (fun s => s.2.1) (fun j st k' => k' = k ∧ st.1 = (cnt (u.take j) w : Int)) rfl ⟨rfl, by simp [cnt]⟩ ?_
      rintro j ⟨c, j', u2⟩ k' go2 hj hcj ⟨rfl, hcc⟩ hgo2
      dsimp only at hcj hcc; subst hcj; subst hcc
      have hcj := cnt_le u j w
      refine dcs (fun e2 => ?_) (fun e2 => ?_)
      · have e2 : (j : Int) < (t.len : Int) := e2
        have hju : j < u.length := by omega
        refine ⟨⟨Int.natCast_nonneg j, e2⟩, htk.at (Int.natCast_nonneg j) e2 rfl fun x hx => ?_⟩
        rw [Int.toNat_natCast, List.getElem?_eq_getElem hju] at hx
        obtain rfl := Option.some.inj hx
        have hct : cnt (u.take (j + 1)) w = cnt (u.take j) w + if u[j] = (w : Int) then 1 else 0 := by rw [take_succ' u hju, cnt_app, cnt_one]
        refine dcs (fun z => ?_) (fun z => ?_)
        · have z : u[j] = (w : Int) := z
          refine hgo2 hju _ _ (w64_up' (n := u.length) hju (by omega)) ⟨rfl, ?_⟩
          rw [hct, if_pos z]
          show w64 ((cnt (u.take j) w : Int) + 1) = _
          rw [w64_of (by omega) (by omega)]; rfl
        · have z : ¬ u[j] = (w : Int) := z
          refine hgo2 hju _ _ (w64_up' (n := u.length) hju (by omega)) ⟨rfl, ?_⟩
          rw [hct, if_neg z]; rfl
      · have e2 : ¬ (j : Int) < (t.len : Int) := e2
        obtain rfl : j = u.length := by omega
        have hsw : sls[w]? = some (sls[w]'(by omega)) := by simp
        have hxw : xss[w]? = some xss[w] := by simp
        have hrw := (r4 w _ _ hsw hxw).1
        have hlw : (lens[w]?).getD 0 = xss[w].length := by rw [← hlens, List.getElem?_map, hxw]; rfl
        refine ⟨⟨Int.natCast_nonneg w, e⟩, (r2.le n2.le).at (Int.natCast_nonneg w) e rfl fun sl hsl => ?_⟩
        rw [Int.toNat_natCast, hsw] at hsl
        obtain rfl := Option.some.inj hsl
        rw [List.take_length]
        refine dcs (fun z => ?_) (fun z => ?_)
        · have z : (cnt u w : Int) < (sls[w].len : Int) := z
          have hal : allC lens n u w = allW lens n (u ++ [(w : Int)]) := by unfold allC; rw [if_pos (by omega)]
          refine New.mk0 (k := ki) fun p29 h30 n30 => n30.apps (k := ki) (htk.le n30.le) rfl rfl (show (0 + t.len) * 8 ≤ _ by omega) fun t31 h32 n32 => ?_
          rw [List.nil_append] at n32
          have hl31 := n32.len
          refine n32.app3 (k := ki) (x := (w : Int)) rfl rfl (show (t31.len + 1) * 8 ≤ _ by omega) fun t35 h36 n36 _ _ => ?_
          have nk := n2.more n36.le
          have hflat := flat_len_le (allC lens n u) (4 ^ n) (List.range w) fun x _ => hClen x
          rw [List.length_range] at hflat
          have h3w : w * 4 ^ n ≤ 3 * 4 ^ n := Nat.mul_le_mul_right _ (by omega)
          have hpw : 4 ^ (n + 1) = 3 * 4 ^ n + 4 ^ n := by rw [Nat.pow_succ]; omega
          refine ih (u ++ [(w : Int)]) t35 l2 h36 els2 _ _ (by rw [List.length_append, List.length_singleton]; omega) n36.arr n36.own.live (fun x hx hf => n2.live hf (n36.new x hx)) nk (by rw [List.length_append]; omega) fun l' els' h' n' st' => ?_
          refine hgo hwx _ _ (w64_up' (n := xss.length) hwx (by omega)) ⟨els', ?_, (st2.trans (Step.ofLe n36.le)).trans st'⟩
          rw [hrange, hal, ← List.append_assoc]
          exact n'
        · have z : ¬ (cnt u w : Int) < (sls[w].len : Int) := z
          have hal : allC lens n u w = [] := by unfold allC; rw [if_neg (by omega)]
          refine hgo hwx _ _ (w64_up' (n := xss.length) hwx (by omega)) ⟨els2, ?_, st2⟩
          rw [hrange, hal, List.append_nil]
          exact n2
    · have e : ¬ (w : Int) < (lsl.len : Int) := e
      obtain rfl : w = xss.length := by omega
      refine hQ l2 els2 k ?_ st2
      rw [allW_succ, hln]
      exact n2
end Go.Mx
