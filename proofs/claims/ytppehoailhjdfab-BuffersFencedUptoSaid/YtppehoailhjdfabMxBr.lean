/-
  What BuffersFenced asks for.
-/
import Derived.Test.YtppehoailhjdfabMxBp
import Derived.Test.YtppehoailhjdfabMxBn
set_option linter.unusedVariables false
set_option linter.unusedSimpArgs false
set_option linter.unusedSectionVars false
namespace Go.Mx

def GuardC (c : Sl → Heap → (Sl → Heap → Prop) → Prop) : Prop := ∀ {s : Sl} {h : Heap} {ts : List AMv} {Q : Sl → Heap → Prop}, Arr h KMv s ts → ts.length ≤ 1000 → (∀ t h', New h h' KMv t (guardP ts) → Q t h') → c s h Q
theorem guard_snoc {l : List AMv} {i : Nat} (h : i < l.length) : guardP (l.take (i + 1)) = guardP (l.take i) ++ (l[i] :: (if l[i].2.1 = 1 then [fenceA] else [])) := by
  unfold guardP
  rw [take_succ' l h, List.flatMap_append]; simp
theorem guard_spec : GuardC law21_guarded.M := by
  intro s h ts Q ha hn hQ
  have hl := ha.1
  refine Loop.up ts.length (fun s => s.2.1) (fun i s g => New h g KMv s.1 (guardP (ts.take i))) rfl (New.nil h KMv) ?_
  rintro i ⟨m, i', u⟩ g go hi hc n hgo
  dsimp only at hc n; subst hc
  have nl := n.len
  have ul := guardP_len (ts.take i)
  have tl := List.length_take_le i ts
  rw [List.length_take] at ul
  have next : w64 ((i : Int) + 1) = ((i + 1 : Nat) : Int) := by rw [w64_of] <;> omega
  refine ⟨fun e => ?_, fun e => ⟨fun e => (by cases e), fun _ => ?_⟩⟩
  · have e : (i : Int) < (s.len : Int) := of_decide_eq_true e
    have hlt : i < ts.length := by omega
    have hb : 0 ≤ (i : Int) ∧ (i : Int) < (s.len : Int) := ⟨by omega, e⟩
    have hx : ts[i]? = some ts[i] := by simp [hlt]
    have sn := guard_snoc hlt
    generalize ts[i] = x at hx sn
    have hw : w64 ((m.len : Int) + 2) ≤ 4096 := by rw [w64_of] <;> omega
    show law21_guarded.j4 s Q go (m, ((i : Int), u)) (decide (w64 ((m.len : Int) + 2) ≤ 4096), ()) g
    rw [decide_eq_true hw]
    refine ⟨fun _ => ?_, fun e => (by cases e)⟩
    obtain ⟨a, an, ac⟩ := s
    cases a with
    | none => obtain ⟨a, e⟩ := ha.addr (by dsimp only at e ⊢; omega); cases e
    | some a =>
    obtain ⟨x1, x2, x3⟩ := x
    refine ⟨hb, (ha.le n.le).ldAt (i := i) rfl hx rfl ?_⟩
    refine n.app3 rfl rfl (by omega) fun t h2 n2 y2 b2 => ⟨hb, (ha.le n2.le).ldPart (i := i) (kp := ki) (y := x2) rfl hx ⟨[_], _, rfl, rfl⟩ rfl ⟨fun d => ?_, fun d => ?_⟩⟩
    · have d : x2 = 1 := of_decide_eq_true d
      have n2l := n2.len
      rw [List.length_append] at n2l
      refine n2.app3 (x := fenceA) rfl rfl (by simp at n2l; omega) fun t3 h3 n3 y3 b3 => hgo hlt _ _ next ?_
      rw [sn, if_pos d]
      rw [List.append_assoc] at n3
      exact n3
    · have d : ¬ x2 = 1 := of_decide_eq_false d
      refine hgo hlt _ _ next ?_
      rw [sn, if_neg d]
      exact n2
  · have e : ¬ (i : Int) < (s.len : Int) := of_decide_eq_false e
    rw [List.take_of_length_le (by omega)] at n
    exact hQ _ _ n


theorem few1_spec {cg : Sl → Heap → (Sl → Heap → Prop) → Prop} (iG : GuardC cg) {lists : Sl} {h : Heap} {ls : List (List AMv)} (hl : Arr2 h KMv lists ls) {Q : Sl → Heap → Prop} (hQ : ∀ t h', Arr2 h' KMv t (fewP guardP ls) → Go.Mx.le h h' → Q t h') : law21_few.M cg lists true h Q := by
  have hll := hl.len
  obtain ⟨sls, l1, l2, l3⟩ := hl
  refine Loop.up (min ls.length 8) (fun s => s.2.1) (fun i s g => ∃ els, New h g .sl s.1 els ∧ els.length = i ∧ (∀ (j : Nat) sl xs, els[j]? = some sl → (ls.map fun l => guardP (l.take 1000))[j]? = some xs → New h g KMv sl xs) ∧ ∀ sl ∈ els, ∀ x, blkOf sl x → ¬ blkOf s.1 x) rfl ⟨[], New.nil h .sl, rfl, fun j sl xs e => (by cases e), fun sl e => (by cases e)⟩ ?_
  rintro i ⟨m, i', u⟩ g go hi hc ⟨els, n, el, ea, ed⟩ hgo
  dsimp only at hc n ed; subst hc
  have ml := n.len
  have fin : ¬ i < min ls.length 8 → law21_few.j2 Q (m, ()) g := fun q => by
    obtain rfl : i = min ls.length 8 := by omega
    refine ⟨fun e => ?_, fun e => ?_⟩
    · have e : (m.len : Int) = 0 := of_decide_eq_true e
      have h0 : ls.length = 0 := by omega
      refine n.app3 rfl rfl (by omega) fun t h2 n2 x2 b2 => ?_
      have he : els = [] := List.length_eq_zero_iff.1 (by omega)
      subst he
      refine hQ t h2 ⟨[⟨none, 0, 0⟩], n2.arr, by unfold fewP; rw [if_pos h0]; rfl, fun j sl xs e1 e2 => ?_⟩ n2.le
      have e1' := List.mem_of_getElem? e1
      have e2' := List.mem_of_getElem? e2
      unfold fewP at e2'
      rw [if_pos h0] at e2'
      obtain rfl : sl = ⟨none, 0, 0⟩ := by simpa using e1'
      obtain rfl : xs = [] := by simpa using e2'
      exact ⟨rfl, Nat.le_refl _, rfl⟩
    · have e : ¬ (m.len : Int) = 0 := of_decide_eq_false e
      have h0 : ¬ ls.length = 0 := by omega
      refine hQ m g ⟨els, n.arr, by unfold fewP; rw [if_neg h0, List.length_map, List.length_take]; omega, fun j sl xs e1 e2 => ?_⟩ n.le
      have hj : j < min ls.length 8 := by have := (List.getElem?_eq_some_iff.1 e1).1; omega
      unfold fewP at e2
      rw [if_neg h0, List.map_take, List.getElem?_take, if_pos (by omega)] at e2
      exact (ea j sl xs e1 e2).arr
  refine ⟨fun e => ?_, fun e => ?_⟩
  · have e : (i : Int) < (lists.len : Int) := of_decide_eq_true e
    have hil : i < ls.length := by omega
    show law21_few.j7 cg lists true Q go (m, ((i : Int), u)) (decide ((i : Int) < 8), ()) g
    by_cases h8 : (i : Int) < 8
    · rw [decide_eq_true h8]
      refine ⟨fun _ => ?_, fun e => (by cases e)⟩
      refine ⟨⟨by dsimp only; omega, e⟩, (l1.le n.le).at (i := (i : Int)) (by omega) e rfl fun sl hsl => ?_⟩
      rw [Int.toNat_natCast] at hsl
      have hxi : ls[i]? = some ls[i] := by simp [hil]
      have lr := l3 i _ _ hsl hxi
      have last : ∀ sl', Arr h KMv sl' (ls[i].take 1000) → law21_few.j5 cg true go (m, ((i : Int), u)) (sl', ()) g := fun sl' a => by
        refine ⟨fun _ => iG (a.le n.le) (List.length_take_le ..) fun t h1 n1 => ?_, fun e => (by cases e)⟩
        have nm := n.more n1.le
        refine nm.app3 rfl rfl (by omega) fun t2 h2 n2 x2 b2 => ?_
        have tm : ∀ x, blkOf t x → ¬ blkOf m x := fun x p q => n.own.live x q (n1.new x p)
        refine hgo (by omega) _ _ (by show w64 ((i : Int) + 1) = _; rw [w64_of] <;> omega) ⟨els ++ [t], n2, by rw [List.length_append, el]; rfl, fun j s xs e1 e2 => ?_, fun s hs x p q => ?_⟩
        · by_cases hj : j < i
          · rw [List.getElem?_append_left (by omega)] at e1
            exact ((ea j s xs e1 e2).more n1.le).ext x2 (fun x p q => ed s (List.mem_of_getElem? e1) x p q) n.new
          · have := (List.getElem?_eq_some_iff.1 e1).1
            rw [List.length_append, el] at this
            obtain rfl : j = i := by simp at this; omega
            rw [List.getElem?_append_right (by omega), el, Nat.sub_self] at e1
            obtain rfl : t = s := by simpa using e1
            rw [List.getElem?_map, hxi] at e2
            cases e2
            exact (n1.base n.le).ext x2 tm n.new
        · rcases List.mem_append.1 hs with hs | hs
          · rcases b2 x q with q | q
            · exact ed s hs x p q
            · obtain ⟨j, hj⟩ := List.mem_iff_getElem?.1 hs
              have hjl := (List.getElem?_eq_some_iff.1 hj).1
              have hxj : (ls.map fun l => guardP (l.take 1000))[j]? = some (guardP ((ls[j]'(by omega)).take 1000)) := by
                rw [List.getElem?_map, List.getElem?_eq_getElem (by omega)]; rfl
              exact ((ea j s _ hj hxj).more n1.le).own.live x p q
          · obtain rfl : s = t := by simpa using hs
            rcases b2 x q with q | q
            · exact tm x p q
            · exact n1.own.live x p q
      have lrl := lr.1
      refine ⟨fun d => ?_, fun d => ?_⟩
      · have d : (1000 : Int) < (sl.len : Int) := of_decide_eq_true d
        have lc := lr.2.1
        exact ⟨⟨by omega, by omega⟩, last _ (lr.pre (by show 1000 ≤ sl.len; omega))⟩
      · have d : ¬ (1000 : Int) < (sl.len : Int) := of_decide_eq_false d
        exact last _ (by rw [List.take_of_length_le (by omega)]; exact lr)
    · rw [decide_eq_false h8]
      exact ⟨fun e => (by cases e), fun _ => fin (by omega)⟩
  · have e : ¬ (i : Int) < (lists.len : Int) := of_decide_eq_false e
    exact ⟨fun e => (by cases e), fun _ => fin (by omega)⟩


def ToldC (c : Int → AMv → Eff → Heap → (Acc → Heap → Prop) → Prop) : Prop := ∀ {w : Int} {t : AMv} {f : Eff} {h : Heap} {Q : Acc → Heap → Prop}, Q (toldP w t f) h → c w t f h Q
theorem told_spec : ToldC law21_told.M := by
  intro w t f h Q hQ
  obtain ⟨t0, t1, t2, t3, t4, tu⟩ := t
  obtain ⟨f0, f1, f2, fu⟩ := f
  change Int at t1
  unfold toldP at hQ
  dsimp only at hQ
  refine ⟨fun e => ?_, fun e => ?_⟩
  · have e : t1 = 0 := of_decide_eq_true e
    subst e
    exact hQ
  have n0 : ¬ t1 = 0 := of_decide_eq_false e
  refine ⟨fun e => ?_, fun e => ?_⟩
  · have e : t1 = 2 := of_decide_eq_true e
    subst e
    exact hQ
  have n2 : ¬ t1 = 2 := of_decide_eq_false e
  refine ⟨fun e => ?_, fun e => ?_⟩
  · have e : t1 = 3 := of_decide_eq_true e
    subst e
    exact hQ
  have n3 : ¬ t1 = 3 := of_decide_eq_false e
  refine ⟨fun e => ?_, fun e => ?_⟩
  · have e : t1 = 4 := of_decide_eq_true e
    subst e
    exact hQ
  have n4 : ¬ t1 = 4 := of_decide_eq_false e
  rw [if_neg n4, if_neg n0, if_neg n2, if_neg n3, if_neg n2] at hQ
  exact hQ
def AsActC (c : Sl → Heap → (Sl → Heap → Prop) → Prop) : Prop := ∀ {s : Sl} {h : Heap} {xs : List Acc} {Q : Sl → Heap → Prop}, Arr h KAcc s xs → xs.length ≤ 1000000 → (∀ t h', New h h' KMv t (xs.map asAct) → Q t h') → c s h Q
theorem asacts_spec : AsActC law21_asActs.M := by
  intro s h xs Q ha hn hQ
  have hl := ha.1
  refine Loop.up xs.length (fun s => s.2.1) (fun i s g => New h g KMv s.1 ((xs.take i).map asAct)) rfl (New.nil h KMv) ?_
  rintro i ⟨m, i', u⟩ g go hi hc n hgo
  dsimp only at hc n; subst hc
  have nl := n.len
  have tl := List.length_take_le i xs
  rw [List.length_map] at nl
  refine ⟨fun e => ?_, fun e => ?_⟩
  · have e : (i : Int) < (s.len : Int) := of_decide_eq_true e
    have hlt : i < xs.length := by omega
    have hb : 0 ≤ (i : Int) ∧ (i : Int) < (s.len : Int) := ⟨by omega, e⟩
    refine ⟨hb, (ha.le n.le).at (i := (i : Int)) (by omega) e rfl fun x hx => ?_⟩
    rw [Int.toNat_natCast] at hx
    obtain rfl : xs[i] = x := by simpa [hlt] using hx
    refine n.app3 (x := asAct xs[i]) rfl rfl (by omega) fun t h2 n2 x2' b2 => hgo hlt _ _ (by show w64 ((i : Int) + 1) = _; rw [w64_of] <;> omega) ?_
    rw [take_succ' xs hlt, List.map_append]; exact n2
  · have e : ¬ (i : Int) < (s.len : Int) := of_decide_eq_false e
    rw [List.take_of_length_le (by omega)] at n
    exact hQ _ _ n


def SameLC (c : Sl → Sl → Heap → (Bool → Heap → Prop) → Prop) : Prop := ∀ {a b : Sl} {h : Heap} {xs : List (Den KAcc)} {Q : Bool → Heap → Prop}, Arr h KAcc a xs → Arr h KAcc b xs → xs.length ≤ 1000000000 → Q true h → c a b h Q
theorem sameLog_spec : SameLC law21_sameLog.M := by
  intro a b h xs Q ha hb hn hQ
  have h1 := ha.1
  have h2 := hb.1
  refine ⟨fun e => absurd (of_decide_eq_true e) (by omega), fun _ => ?_⟩
  refine Loop.up xs.length (fun s => s.1) (fun i _ g => g = h) rfl rfl ?_
  rintro i ⟨i', u⟩ g go hi hc rfl hgo
  dsimp only at hc; subst hc
  refine ⟨fun e => ?_, fun _ => hQ⟩
  have e : (i : Int) < (a.len : Int) := of_decide_eq_true e
  have hlt : i < xs.length := by omega
  obtain ⟨aa, an, ac⟩ := a
  obtain ⟨ba, bn, bc⟩ := b
  dsimp only at h1 h2 e
  cases aa with
  | none => obtain ⟨a, e⟩ := ha.addr (by dsimp only; omega); cases e
  | some aa =>
  cases ba with
  | none => obtain ⟨a, e⟩ := hb.addr (by dsimp only; omega); cases e
  | some ba =>
  refine ⟨⟨by omega, by dsimp only; omega⟩, ⟨by omega, by dsimp only; omega⟩, ha.atA (i := (i : Int)) (by omega) (by omega) rfl fun x hx => hb.atA (i := (i : Int)) (by omega) (by omega) rfl fun y hy => ?_⟩
  rw [hx] at hy
  cases hy
  refine ⟨fun d => ?_, fun _ => hgo hlt _ _ (by show w64 ((i : Int) + 1) = _; rw [w64_of] <;> omega) rfl⟩
  rw [eqK_refl KAcc x rfl] at d
  cases d

def SameNC (c : Sl → Sl → Heap → (Bool → Heap → Prop) → Prop) : Prop := ∀ {a b : Sl} {h : Heap} {xs : List (Den ki)} {Q : Bool → Heap → Prop}, Arr h ki a xs → Arr h ki b xs → xs.length ≤ 1000000000 → Q true h → c a b h Q
theorem sameNumbers_spec : SameNC law21_sameNumbers.M := by
  intro a b h xs Q ha hb hn hQ
  have h1 := ha.1
  have h2 := hb.1
  refine ⟨fun e => absurd (of_decide_eq_true e) (by omega), fun _ => ?_⟩
  refine Loop.up xs.length (fun s => s.1) (fun i _ g => g = h) rfl rfl ?_
  rintro i ⟨i', u⟩ g go hi hc rfl hgo
  dsimp only at hc; subst hc
  refine ⟨fun e => ?_, fun _ => hQ⟩
  have e : (i : Int) < (a.len : Int) := of_decide_eq_true e
  have hlt : i < xs.length := by omega
  obtain ⟨aa, an, ac⟩ := a
  obtain ⟨ba, bn, bc⟩ := b
  dsimp only at h1 h2 e
  cases aa with
  | none => obtain ⟨a, e⟩ := ha.addr (by dsimp only; omega); cases e
  | some aa =>
  cases ba with
  | none => obtain ⟨a, e⟩ := hb.addr (by dsimp only; omega); cases e
  | some ba =>
  refine ⟨⟨by omega, by dsimp only; omega⟩, ⟨by omega, by dsimp only; omega⟩, ha.atA (i := (i : Int)) (by omega) (by omega) rfl fun x hx => hb.atA (i := (i : Int)) (by omega) (by omega) rfl fun y hy => ?_⟩
  rw [hx] at hy
  cases hy
  refine ⟨fun d => ?_, fun _ => hgo hlt _ _ (by show w64 ((i : Int) + 1) = _; rw [w64_of] <;> omega) rfl⟩
  exact absurd rfl (of_decide_eq_true d)


theorem crun_pre (sz : Int) (l0 : List Acc) : ∀ (ts : List AMv) (c : List Int) (l : List Acc) (e e' : List Eff), (CA.run sz ⟨c, l0 ++ l, e⟩ ts).cs = (CA.run sz ⟨c, l, e'⟩ ts).cs ∧ (CA.run sz ⟨c, l0 ++ l, e⟩ ts).lg = l0 ++ (CA.run sz ⟨c, l, e'⟩ ts).lg
  | [], _, _, _, _ => ⟨rfl, rfl⟩
  | t :: ts, c, l, e, e' => by
    have key : ∀ l2, (CA.run sz ⟨(cact sz c t).1, l0 ++ l2, e ++ [(cact sz c t).2]⟩ ts).cs = (CA.run sz ⟨(cact sz c t).1, l2, e' ++ [(cact sz c t).2]⟩ ts).cs ∧ (CA.run sz ⟨(cact sz c t).1, l0 ++ l2, e ++ [(cact sz c t).2]⟩ ts).lg = l0 ++ (CA.run sz ⟨(cact sz c t).1, l2, e' ++ [(cact sz c t).2]⟩ ts).lg := fun l2 => crun_pre sz l0 ts _ l2 _ _
    show (CA.run sz (CA.step sz ⟨c, l0 ++ l, e⟩ t) ts).cs = (CA.run sz (CA.step sz ⟨c, l, e'⟩ t) ts).cs ∧ (CA.run sz (CA.step sz ⟨c, l0 ++ l, e⟩ t) ts).lg = l0 ++ (CA.run sz (CA.step sz ⟨c, l, e'⟩ t) ts).lg
    unfold CA.step
    dsimp only
    by_cases q : (cact sz c t).2.2.2.1 = 0
    · rw [if_pos q, if_pos q, List.append_assoc]; exact key _
    · rw [if_neg q, if_neg q]; exact key _
def headL (u : Int) : List Acc := if 0 < u then [(0, (4, (0, (u, (0, (true, ()))))))] else []
theorem rep_opn {sz u : Int} (h0 : 0 ≤ u) (h1 : u ≤ sz) {cs : List Int} {lg : List Acc} (r : RepI sz (List.replicate u.toNat 0) cs lg) : (CA.run sz ⟨[], [], []⟩ (opn u (lg.map asAct))).cs = cs ∧ (CA.run sz ⟨[], [], []⟩ (opn u (lg.map asAct))).lg = headL u ++ lg := by
  unfold opn headL
  by_cases q : 0 < u
  · rw [if_pos q, if_pos q]
    have hc : cact sz [] (0, (4, (0, (u, (0, ()))))) = (List.replicate u.toNat 0, ef 0 0) := by
      unfold cact
      dsimp only
      rw [if_neg (by decide), if_neg (by decide), if_neg (by decide), if_neg (by decide), if_pos rfl, if_neg (show ¬ u < 1 by omega), if_neg (show ¬ sz - ((([] : List Int).length : Nat) : Int) < u by rw [List.length_nil]; omega)]
      rfl
    have e : CA.run sz ⟨[], [], []⟩ ([(0, (4, (0, (u, (0, ())))))] ++ lg.map asAct) = CA.run sz ⟨List.replicate u.toNat 0, [(0, (4, (0, (u, (0, (true, ()))))))] ++ [], [ef 0 0]⟩ (lg.map asAct) := by
      show CA.run sz (CA.step sz ⟨[], [], []⟩ (0, (4, (0, (u, (0, ())))))) _ = _
      unfold CA.step
      rw [hc]; rfl
    rw [e]
    obtain ⟨a, b⟩ := crun_pre sz [(0, (4, (0, (u, (0, (true, ()))))))] (lg.map asAct) (List.replicate u.toNat 0) [] [ef 0 0] []
    exact ⟨a.trans r.1, b.trans (by rw [r.2])⟩
  · rw [if_neg q, if_neg q]
    obtain rfl : u = 0 := by omega
    exact r

def WhoI (n : Nat) (M : BM) : Prop := ∀ a ∈ M.lg, ∃ k : Nat, a.1 = (k : Int) ∧ k < n
theorem WhoI.log {n : Nat} {M : BM} (r : WhoI n M) {k : Nat} (hk : k < n) (cs : List Int) (a : Acc) (ha : a.1 = (k : Int)) : WhoI n (BM.log { M with cs := cs } a) := by
  intro b hb
  have hb : b ∈ wl M.wt M.lg a := hb
  unfold wl at hb
  split at hb
  · rcases List.mem_append.1 hb with hb | hb
    · exact r b hb
    · obtain rfl : b = a := by simpa using hb
      exact ⟨k, ha, hk⟩
  · exact r b hb
theorem WhoI.flush {n L : Nat} {M : BM} (ok : M.Ok L) (hn : M.n = n) (r : WhoI n M) (k : Nat) : WhoI n (M.flush k) := by
  cases e : M.q k with
  | nil => rw [BM.flush_nil e]; exact r
  | cons w q =>
    rw [BM.flush_cons e]
    exact WhoI.log (M := M.setq k q) r (hn ▸ ok.lt (by rw [e]; exact fun q => by cases q)) _ _ rfl
theorem WhoI.drainN {n k : Nat} : ∀ (i : Nat) {M : BM} {L : Nat}, M.Ok L → M.n = n → WhoI n M → WhoI n (BM.drainN k i M)
  | 0, _, _, _, _, r => r
  | i + 1, M, L, ok, hn, r => WhoI.drainN i (ok.flush k) ((M.flush_same k).1.trans hn) (r.flush ok hn k)
theorem WhoI.act {n L k : Nat} {M : BM} (ok : M.Ok L) (hn : M.n = n) (r : WhoI n M) (hk : k < n) (t : AMv) : WhoI n (M.act k t).1 := by
  have rd : WhoI n (M.drain k) := WhoI.drainN _ ok hn r
  unfold BM.act
  split
  · unfold BM.load
    split
    · split
      · exact r
      · exact WhoI.log (M := M) r hk M.cs _ rfl
    · exact r
  split
  · unfold BM.store
    split
    · dsimp only
      split
      · exact r.flush ok hn k
      · exact r
    · exact r
  split
  · unfold BM.cas
    split
    · exact WhoI.log (M := M.drain k) rd hk _ _ rfl
    · exact r
  split
  · unfold BM.add
    split
    · exact WhoI.log (M := M.drain k) rd hk _ _ rfl
    · exact r
  split
  · unfold BM.reserve
    split
    · exact r
    split
    · exact r
    · exact WhoI.log (M := M.drain k) rd hk _ _ rfl
  split
  · exact rd
  · exact r
theorem WhoI.run {n : Nat} {ls : List (List AMv)} (hl : ls.length = n) : ∀ (ps : List Int) {s : PB} {L : Nat}, s.Ok ls L → WhoI n s.m → WhoI n (PB.run ls s ps).m
  | [], _, _, _, r => r
  | x :: ps, s, L, ok, r => by
    refine WhoI.run hl ps (ok.step x) ?_
    unfold PB.step
    dsimp only
    split
    · exact r.flush ok.m (ok.n.trans hl) _
    · split
      · exact r.act ok.m (ok.n.trans hl) (by omega) _
      · exact r

end Go.Mx
