/-
  ExploreAll: the reference's Explore.
  ExploreAll: both Explores.
-/
import Derived.Test.YtanfmmcpjifgiabMxKp
import Derived.Test.YtanfmmcpjifgiabMxKr
import Derived.Laws.Externs
set_option linter.unusedVariables false
set_option linter.unusedSimpArgs false
set_option linter.unusedSectionVars false
namespace Go.Mx

theorem toNat_range {x : Int} {n : Nat} (h : 0 ≤ x ∧ x < (n : Int)) : x.toNat < n ∧ ((x.toNat : Nat) : Int) = x := by omega
theorem no_neg {x : Int} {k : Nat} (h : x = (k : Int)) (z : x < 0) : False := by omega
theorem no_pos {x : Int} (h : x = -1) (z : ¬ x < 0) : False := by omega
theorem leastR_succ {bd : Rc → Rc → Bool} {nA n m : Nat} {l : List Rc} (hm : m = n + 1) {w k : Nat} (hw : (List.range nA).find? (fun w : Nat => (firstR bd (w : Int) l).isSome) = some w) (hk : firstR bd (w : Int) l = some k) : leastR bd nA m l = (w : Int) :: leastR bd nA n (l.eraseIdx k) := by
  subst hm
  show (match (List.range nA).find? fun w : Nat => (firstR bd (w : Int) l).isSome with
    | none => []
    | some w => (w : Int) :: leastR bd nA n (l.eraseIdx ((firstR bd (w : Int) l).getD 0))) = _
  rw [hw]
  show (w : Int) :: leastR bd nA n (l.eraseIdx ((firstR bd (w : Int) l).getD 0)) = _
  rw [hk]; rfl
theorem least_walk {h : Heap} {s : Sc} {t : Sl} {nA : Nat} {bd : Rc → Rc → Bool} {l0 : List Rc} (hl0 : l0.length ≤ 12) (h4 : nA ≤ 4) (hin : ∀ a ∈ l0, 0 ≤ a.1 ∧ a.1 < (nA : Int))
    {cR : Sc → Sl → Heap → (Sl → Heap → Prop) → Prop} {cF : Sc → Sl → Int → Heap → (Int → Heap → Prop) → Prop} {cW : Sl → Int → Heap → (Sl → Heap → Prop) → Prop}
    (iR : ∀ {Q : Sl → Heap → Prop}, (∀ l h', New h h' kref22Act l l0 → Q l h') → cR s t h Q)
    (iF : ∀ {h : Heap} {rl : Sl} {l : List Rc} {w : Int} {Q : Int → Heap → Prop}, Arr h kref22Act rl l → l.length ≤ 1000000 → Q (match firstR bd w l with | none => -1 | some k => (k : Int)) h → cF s rl w h Q)
    (iW : ∀ {h : Heap} {rl : Sl} {l : List Rc} {k : Nat} {Q : Sl → Heap → Prop}, Arr h kref22Act rl l → l.length ≤ 1000000 → (∀ t h', New h h' kref22Act t (l.eraseIdx k) → Q t h') → cW rl (k : Int) h Q)
    {Q : Sl → Heap → Prop} (hQ : ∀ m h', New h h' ki m (leastR bd nA l0.length l0) → Q m h') : ref22_least.M cR cF cW s t h Q := by
  refine iR fun l1 h1 n1 => ?_
  refine ⟨fun st k => ∃ l m, New h k kref22Act st.1 l ∧ New h k ki st.2.1 m ∧ Apart st.1 st.2.1 ∧ m ++ leastR bd nA l.length l = leastR bd nA l0.length l0 ∧ l.length ≤ 12 ∧ m.length + l.length ≤ 12 ∧ ∀ a ∈ l, 0 ≤ a.1 ∧ a.1 < (nA : Int),
    fun st _ => st.1.len, ⟨l0, [], n1, New.none n1.le _, fun b _ q => no_blk q, rfl, hl0, by simpa using hl0, hin⟩, ?_⟩
  rintro ⟨l, m, u⟩ k ⟨l', m', nl, nm, ap, heq, hl, hml, hr⟩
  dsimp only at nl nm ap
  have hll := nl.len
  have hmm := nm.len
  refine dcs (fun e => ?_) (fun e => ?_)
  · have e : (0 : Int) < (l.len : Int) := e
    refine iF nl.arr (by omega) ?_
    -- who comes
    obtain ⟨a0, l'', hl''⟩ : ∃ a0 l'', l' = a0 :: l'' := by
      cases l' with
      | nil => rw [List.length_nil] at hll; omega
      | cons a l => exact ⟨a, l, rfl⟩
    have ha0 := hr a0 (by rw [hl'']; simp)
    have hex : ∃ w, (List.range nA).find? (fun w : Nat => (firstR bd (w : Int) l').isSome) = some w := by
      cases hf : (List.range nA).find? (fun w : Nat => (firstR bd (w : Int) l').isSome) with
      | some w => exact ⟨w, rfl⟩
      | none =>
        exfalso
        rw [List.find?_eq_none] at hf
        have := hf a0.1.toNat (List.mem_range.2 (toNat_range ha0).1)
        apply this
        have e1 : ((a0.1.toNat : Nat) : Int) = a0.1 := (toNat_range ha0).2
        have h2 := firstR_at (bd := bd) (l1 := []) (l2 := l'') (a := a0) (fun b hb => by cases hb)
        rw [List.nil_append, ← hl''] at h2
        rw [e1, h2]; rfl
    obtain ⟨wm, hwm⟩ := hex
    obtain ⟨hs, hwr, hmin⟩ := List.find?_range_eq_some.1 hwm
    have hwr := List.mem_range.1 hwr
    refine ⟨fun st k2 => k2 = k ∧ ∃ w : Nat, st.1 = (w : Int) ∧ w ≤ wm ∧ st.2.1 = (match firstR bd (w : Int) l' with | none => -1 | some k => (k : Int)), fun st _ => wm - st.1.toNat, ⟨rfl, 0, rfl, Nat.zero_le _, rfl⟩, ?_⟩
    rintro ⟨w', at', u2⟩ k2 ⟨rfl, w, hw1, hw2, hw3⟩
    dsimp only at hw1 hw3
    subst hw1
    refine dcs (fun z => ?_) (fun z => ?_)
    · have z : at' < 0 := z
      have hno : firstR bd (w : Int) l' = none := by
        cases hf : firstR bd (w : Int) l' with
        | none => rfl
        | some k => rw [hf] at hw3; exact absurd z (fun z => no_neg hw3 z)
      have hlt : w < wm := by
        rcases Nat.lt_or_ge w wm with q | q
        · exact q
        · have : w = wm := by omega
          subst this
          rw [hno] at hs; cases hs
      have w1 : w64 ((w : Int) + 1) = ((w + 1 : Nat) : Int) := w64_up' (n := wm) hlt (by omega)
      show cF _ _ (w64 ((w : Int) + 1)) _ _
      rw [w1]
      refine iF nl.arr (by omega) ⟨⟨rfl, w + 1, rfl, hlt, rfl⟩, ?_⟩
      show wm - (((w + 1 : Nat) : Int)).toNat < wm - ((w : Int)).toNat
      rw [Int.toNat_natCast, Int.toNat_natCast]; omega
    · have z : ¬ at' < 0 := z
      obtain ⟨kk, hkk⟩ : ∃ kk, firstR bd (w : Int) l' = some kk := by
        cases hf : firstR bd (w : Int) l' with
        | none => rw [hf] at hw3; exact absurd z (fun z => no_pos hw3 z)
        | some kk => exact ⟨kk, rfl⟩
      have hat : at' = (kk : Int) := by rw [hkk] at hw3; exact hw3
      subst hat
      have hwe : w = wm := by
        rcases Nat.lt_or_ge w wm with q | q
        · have := hmin w q
          rw [hkk] at this; cases this
        · omega
      subst hwe
      refine nm.app3 (k := ki) (x := (w : Int)) rfl rfl (show (m.len + 1) * 8 ≤ _ by omega) fun m2 h2 n2 x2 b2 => ?_
      have nl2 := nl.ext x2 (fun b a c => ap b a c) nm.new
      refine iW nl2.arr (by omega) fun l2 h3 n3 => ?_
      have hkl : kk < l'.length := by
        unfold firstR at hkk
        split at hkk
        · cases hkk
        · rename_i k0 hk0
          have := (List.findIdx?_eq_some_iff_getElem.1 hk0).1
          split at hkk
          · cases hkk
          · split at hkk
            · cases hkk
            · cases hkk; exact this
      have hel : (l'.eraseIdx kk).length = l'.length - 1 := List.length_eraseIdx_of_lt hkl
      have hl1 : l'.length = (l'.length - 1) + 1 := by omega
      refine ⟨⟨l'.eraseIdx kk, m' ++ [(w : Int)], n3.base n2.le, n2.more n3.le, fun b a c => n2.own.live b c (n3.new b a), ?_, by omega, by rw [List.length_append, List.length_singleton]; omega, fun a ha => hr a ((List.eraseIdx_sublist ..).subset ha)⟩, ?_⟩
      · rw [← heq, List.append_assoc]
        congr 1
        rw [leastR_succ hl1 hwm hkk, hel]; rfl
      · have := n3.len
        show l2.len < l.len
        omega
  · have e : ¬ (0 : Int) < (l.len : Int) := e
    have : l' = [] := List.eq_nil_of_length_eq_zero (by omega)
    subst this
    have heq : m' ++ [] = leastR bd nA l0.length l0 := heq
    rw [List.append_nil] at heq
    rw [heq] at nm
    exact hQ m k nm
theorem Arr.two2 {h : Heap} {s t : Sl} {xs ys : List Int} (c : Arr h ki s xs) (d : Arr h ki t ys) {i j : Int} (i0 : 0 ≤ i) (i1 : i < (s.len : Int)) (j0 : 0 ≤ j) (j1 : j < (t.len : Int)) {K : Int → Int → Prop} (hK : ∀ x y, xs[i.toNat]? = some x → ys[j.toNat]? = some y → K x y) :
    (0 ≤ i ∧ i < (s.len : Int)) ∧ deref s.a fun a => (0 ≤ j ∧ j < (t.len : Int)) ∧ deref t.a fun b => ld ki h (a.add (i.toNat * 1)) fun x => ld ki h (b.add (j.toNat * 1)) fun y => K x y := by
  obtain ⟨a, ha⟩ := c.addr (by omega)
  obtain ⟨b, hb⟩ := d.addr (by omega)
  have hx : i.toNat < xs.length := by have := c.1; omega
  have hy : j.toNat < ys.length := by have := d.1; omega
  refine ⟨⟨i0, i1⟩, ?_⟩
  rw [ha, hb]
  refine ⟨⟨j0, j1⟩, c.ldAt (k := ki) ha (List.getElem?_eq_getElem hx) rfl (d.ldAt (k := ki) hb (List.getElem?_eq_getElem hy) rfl (hK _ _ (List.getElem?_eq_getElem hx) (List.getElem?_eq_getElem hy)))⟩
theorem requal_spec {h : Heap} {a b : Sl} {xs ys : List Int} (ha : Arr h ki a xs) (hb : Arr h ki b ys) (hn : xs.length ≤ 1000000) {Q : Bool → Heap → Prop} (hQ : Q (decide (xs = ys)) h) : ref22_equal.M a b h Q := by
  have hal := ha.1
  have hbl := hb.1
  refine dcs (fun e => ?_) (fun e => ?_)
  · have e : (a.len : Int) ≠ (b.len : Int) := e
    have : decide (xs = ys) = false := decide_eq_false fun q => e (by rw [← hal, ← hbl, q])
    rw [this] at hQ; exact hQ
  · have e : ¬ (a.len : Int) ≠ (b.len : Int) := e
    have hlen : xs.length = ys.length := by omega
    refine Loop.up xs.length (fun s => s.1) (fun i st k => k = h ∧ xs.take i = ys.take i) rfl ⟨rfl, rfl⟩ ?_
    rintro i ⟨i', u⟩ k go hi hc ⟨rfl, hI⟩ hgo
    dsimp only at hc; subst hc
    refine dcs (fun e2 => ?_) (fun e2 => ?_)
    · have e2 : (i : Int) < (a.len : Int) := e2
      have hia : i < xs.length := by omega
      have hib : i < ys.length := by omega
      refine ha.two2 hb (Int.natCast_nonneg i) e2 (Int.natCast_nonneg i) (by omega) fun x y hx hy => ?_
      rw [Int.toNat_natCast, List.getElem?_eq_getElem hia] at hx
      rw [Int.toNat_natCast, List.getElem?_eq_getElem hib] at hy
      obtain rfl := Option.some.inj hx
      obtain rfl := Option.some.inj hy
      refine dcs (fun z => ?_) (fun z => ?_)
      · have z : xs[i] ≠ ys[i] := z
        have : decide (xs = ys) = false := decide_eq_false fun q => z (by subst q; rfl)
        rw [this] at hQ; exact hQ
      · have z : xs[i] = ys[i] := Decidable.not_not.1 z
        refine hgo hia _ _ (w64_up' (n := xs.length) hia (by omega)) ⟨rfl, ?_⟩
        rw [take_succ' xs hia, take_succ' ys hib, hI, z]
    · have e2 : ¬ (i : Int) < (a.len : Int) := e2
      obtain rfl : i = xs.length := by omega
      have : decide (xs = ys) = true := decide_eq_true (by
        have h1 : xs.take xs.length = ys.take ys.length := by rw [hI, hlen]
        rwa [List.take_length, List.take_length] at h1)
      rw [this] at hQ; exact hQ
end Go.Mx

namespace Go.Mx

theorem run_mclone {P : Program} {w : World} {b : Nat} {es : Array MapEntry} {c : Nat} (ty : TypeId) (hb : w.heap[b]? = some (.map es c)) :
    (Extern.MapsClone.clone #[.iface ty (.map (some b))]).run P w = .ok (.iface ty (.map (some w.heap.size))) (w.alloc (.map es c)) := by
  have e : Extern.MapsClone.clone #[.iface ty (.map (some b))] = (getObj b >>= fun o => match o with
      | .map entries clock => (newObj (.map entries clock) >>= fun n => pure (.iface ty (.map (some n))))
      | _ => stuck "maps.clone: a map expected") := rfl
  rw [e]
  simp only [Sem.run_bind, run_getObj_some hb rfl, Result.andThen_ok, run_newObj, Sem.run_pure]
  rfl
theorem mcloneT {P : Program} {f : FuncId} {fn : Func} (hf : P.funcs[f]? = some fn) (hname : (fn.name == "runtime.NumGoroutine") = false) (hb : fn.body.isNone = true) (hn : Extern.findNext fn = none) (he : Extern.find fn = some Extern.MapsClone.clone)
    (ty : TypeId) {b : Nat} {h : Heap} {es : Array MapEntry} {c : Nat} {Q : Value → Heap → Prop} (hm : h b = some (.map es c)) (hK : ∀ b', h b' = none → Q (Value.iface ty (.map (some b'))) (upd h b' (.map es c))) :
    ExtT P f [Kd.val .iface (Value.iface ty (.map (some b)))] false .iface h Q := fun w hw => by
  refine ⟨Value.iface ty (.map (some w.heap.size)), _, w.alloc (.map es c), ?_, (Inv.refl hw).new (o := .map es c) (x := .map es c) rfl, hK _ (none_of_size hw)⟩
  rw [run_callFunc_extern hf hname hb hn he]
  show ((Extern.MapsClone.clone #[.iface ty (.map (some b))]).run P w).andThen _ = _
  rw [run_mclone ty (map_world hw hm)]
  rfl
def expP (sz len : Int) (xss : List (List Ac)) (e : Int) : List (List Int) := if e = 0 then expS sz len xss else []
theorem expS_small {sz : Int} {nb : Nat} {len : Int} {xss : List (List Ac)} (hs : xss.length ≤ 1048576) (h2 : ∀ xs ∈ xss, xs.length ≤ 1048576) {e : Int} (he : e = chkE sz nb xss) : (expP sz len xss e).length ≤ 1048576 ∧ ∀ z ∈ expP sz len xss e, z.length ≤ 1048576 := by
  unfold expP
  by_cases d : e = 0
  · rw [if_pos d]
    rw [d] at he
    obtain ⟨_, _, _, h4, ha, _⟩ := chkE_ok he.symm
    rw [actsE_sum hs h2] at ha
    have hl := allS_len h4 (by omega : (xss.map List.length).sum ≤ 10)
    refine ⟨Nat.le_trans (List.length_filter_le _ _) hl, fun z hz => ?_⟩
    have hS := allS_mem.1 (List.mem_filter.1 hz).1
    have := hS.len
    omega
  · rw [if_neg d]
    exact ⟨Nat.zero_le _, fun z hz => by cases hz⟩

theorem clonei_spec' {s : Sl} {h : Heap} {xs : List Int} (ha : Arr h ki s xs) (hn : s.len ≤ 2097152) {Q : Sl → Heap → Prop} (hQ : ∀ r h', New h h' ki r xs → Q r h') : slices_Clone_int_int.M s h Q := by
  refine ⟨fun e => ?_, fun e => ?_⟩
  · obtain ⟨a, n, c⟩ := s
    cases a with
    | some a => cases e
    | none =>
      have h1 : xs.length = n := ha.1
      have h2 : n = 0 := ha.2.2
      have : xs = [] := List.length_eq_zero_iff.1 (by omega)
      subst this
      exact hQ _ h (New.nil h ki)
  · refine New.mk0 fun p h4 n4 => ?_
    refine n4.apps (ha.le n4.le) rfl rfl (by show (0 + s.len) * 8 ≤ _; omega) fun t h6 n6 => ?_
    rw [List.nil_append] at n6
    exact hQ t h6 n6
theorem rowP_in {xss : List (List Ac)} {q : List Int} (hS : ScriptP (xss.map List.length) q) : ∀ a ∈ rowP xss q q.length, 0 ≤ a.1 ∧ a.1 < (xss.length : Int) := fun a ha => by
  have hin := hS.1
  rw [List.length_map] at hin
  unfold rowP at ha
  obtain ⟨j, hj, rfl⟩ := List.mem_map.1 ha
  have hj := List.mem_range.1 hj
  show 0 ≤ (q[j]?).getD 0 ∧ (q[j]?).getD 0 < _
  rw [List.getElem?_eq_getElem hj]
  exact hin _ (List.getElem_mem hj)
theorem rexplore_spec {s : Sc} {h : Heap} {bs : List Int} {xss : List (List Ac)} (r : ScR h s bs xss) (hs : Small bs xss)
    {c1 : Sc → Heap → (Int → Heap → Prop) → Prop} {c2 : Sc → Heap → (Sl → Heap → Prop) → Prop} {c3 : Sc → Sl → Heap → (Sl → Heap → Prop) → Prop} {c4 : Sl → Sl → Heap → (Bool → Heap → Prop) → Prop}
    (i1 : ∀ {Q : Int → Heap → Prop}, Q (chkE s.1 bs.length xss) h → c1 s h Q)
    (i2 : ∀ {Q : Sl → Heap → Prop}, chkE s.1 bs.length xss = 0 → (∀ o els h', Nest h h' ki o els (allS xss) → Q o h') → c2 s h Q)
    (i3 : ∀ {k : Heap} {u : Sl} {q : List Int} {Q : Sl → Heap → Prop}, le h k → chkE s.1 bs.length xss = 0 → ScriptP (xss.map List.length) q → Arr k ki u q → q.length ≤ 1000000 → (∀ m h', New k h' ki m (leastR (bdA s.1 bs.length) xss.length q.length (rowP xss q q.length)) → Q m h') → c3 s u k Q)
    (i4 : ∀ {k : Heap} {a b : Sl} {xs ys : List Int} {Q : Bool → Heap → Prop}, Arr k ki a xs → Arr k ki b ys → xs.length ≤ 1000000 → Q (decide (xs = ys)) k → c4 a b k Q)
    {Q : (Sl × (Int × Unit)) → Heap → Prop} (hQ : ∀ o h', FoR h h' o (expP s.1 bs.length xss (chkE s.1 bs.length xss)) → Q (o, (chkE s.1 bs.length xss, ())) h') : ref22_Explore.M c1 c2 c3 c4 s h Q := by
  refine i1 ⟨fun d => ?_, fun d => ?_⟩
  · have d : chkE s.1 bs.length xss ≠ 0 := of_decide_eq_true d
    refine hQ _ h ⟨[], ?_⟩
    unfold expP; rw [if_neg d]; exact Nest.nil h ki
  have d : ¬ chkE s.1 bs.length xss ≠ 0 := of_decide_eq_false d
  have hc : chkE s.1 bs.length xss = 0 := Decidable.not_not.1 d
  obtain ⟨_, _, _, hx4, ha, _⟩ := chkE_ok hc
  rw [actsE_sum hs.2.1 hs.2.2] at ha
  have hsum : (xss.map List.length).sum ≤ 10 := by omega
  have hall := allS_len hx4 hsum
  rw [hc] at hQ
  have hQ' : ∀ o h', FoR h h' o (expS s.1 bs.length xss) → Q (o, (0, ())) h' := fun o h' f => hQ o h' (by unfold expP; rw [if_pos rfl]; exact f)
  refine i2 hc fun o els h7 n => ?_
  have hol := n.out.len
  have hel := n.len
  let Z := els.zip (allS xss)
  have hZl : Z.length = (allS xss).length := by show (els.zip (allS xss)).length = _; rw [List.length_zip, hel, Nat.min_self]
  let g : Sl × List Int → Bool := fun p => isLst s.1 bs.length xss p.2
  have hrowZ : ∀ p ∈ Z, New h h7 ki p.1 p.2 := fun p hp => by
    obtain ⟨j, hj⟩ := List.mem_iff_getElem?.1 hp
    rw [List.getElem?_zip_eq_some] at hj
    exact n.row j _ _ hj.1 hj.2
  refine Loop.up (allS xss).length (fun s => s.2.1) (fun i st k => le h7 k ∧ New h7 k .sl st.1 (((Z.take i).filter g).map (·.1))) rfl ⟨.refl _, New.nil h7 _⟩ ?_
  rintro i ⟨l, i', u⟩ k go hi hcc ⟨lk, nl⟩ hgo
  dsimp only at hcc nl; subst hcc
  have hnl := nl.len
  have hfl : (((Z.take i).filter g).map (·.1)).length ≤ 1048576 := by
    rw [List.length_map]
    refine Nat.le_trans (List.length_filter_le _ _) ?_
    rw [List.length_take]; omega
  refine dcs (fun e => ?_) (fun e => ?_)
  · have e : (i : Int) < (o.len : Int) := e
    have hia : i < (allS xss).length := by omega
    have hie : i < els.length := by omega
    have hiZ : i < Z.length := by omega
    have hZi : Z[i] = (els[i], (allS xss)[i]) := List.getElem_zip ..
    have hq : ScriptP (xss.map List.length) (allS xss)[i] := allS_mem.1 (List.getElem_mem hia)
    have hq10 := hq.len
    have rd : ∀ {k' : Heap} {K : Sl → Prop}, le h7 k' → K els[i] → (0 ≤ (i : Int) ∧ (i : Int) < (o.len : Int)) ∧ deref o.a fun a => ld (.sl : Kd) k' (a.add ((i : Int).toNat * 1)) K := fun {k' K} l hK => by
      refine ⟨⟨Int.natCast_nonneg i, e⟩, (n.more l).out.arr.at (Int.natCast_nonneg i) e rfl fun sl hsl => ?_⟩
      rw [Int.toNat_natCast, List.getElem?_eq_getElem hie] at hsl
      obtain rfl := Option.some.inj hsl
      exact hK
    have hrow := fun {k' : Heap} (l : le h7 k') => ((n.more l).row i _ _ (List.getElem?_eq_getElem hie) (List.getElem?_eq_getElem hia)).arr
    refine rd lk (i3 (n.le.trans lk) hc hq (hrow lk) (by omega) fun m h15 n15 => ?_)
    have l15 := lk.trans n15.le
    have hml := n15.len
    have hmlen : (leastR (bdA s.1 bs.length) xss.length (allS xss)[i].length (rowP xss (allS xss)[i] (allS xss)[i].length)).length ≤ 1000000 := by
      have : ∀ (n : Nat) (l : List Rc), (leastR (bdA s.1 bs.length) xss.length n l).length ≤ n := fun n => by
        induction n with
        | zero => intro l; exact Nat.le_refl _
        | succ n ih =>
          intro l
          unfold leastR
          split
          · exact Nat.zero_le _
          · rw [List.length_cons]; have := ih (l.eraseIdx ((firstR (bdA s.1 bs.length) (((‹Nat› : Nat) : Int)) l).getD 0)); omega
      have := this (allS xss)[i].length (rowP xss (allS xss)[i] (allS xss)[i].length)
      omega
    have tk : (Z.take (i + 1)).filter g = (Z.take i).filter g ++ if g Z[i] = true then [Z[i]] else [] := by
      rw [take_succ' Z hiZ, List.filter_append]
      congr 1
      cases hg : g Z[i] <;> simp [List.filter, hg]
    refine rd l15 (i4 n15.arr (hrow l15) hmlen ?_)
    have hg : g Z[i] = decide (leastR (bdA s.1 bs.length) xss.length (allS xss)[i].length (rowP xss (allS xss)[i] (allS xss)[i].length) = (allS xss)[i]) := by
      show isLst s.1 bs.length xss Z[i].2 = _
      rw [hZi]; rfl
    have nl15 := nl.more n15.le
    refine bcs (fun z => ?_) (fun z => ?_)
    · rw [← hg] at z
      refine rd l15 (nl15.app3 (k := .sl) (x := els[i]) rfl rfl (show (l.len + 1) * 24 ≤ _ by omega) fun t h25 n25 x25 b25 => ?_)
      have l25 : le h7 h25 := n25.le
      refine hgo hia _ _ (w64_up' (n := (allS xss).length) hia (by omega)) ⟨l25, ?_⟩
      rw [tk, if_pos z, List.map_append]
      show New h7 h25 .sl t (_ ++ [Z[i].1])
      rw [hZi]; exact n25
    · rw [← hg] at z
      refine hgo hia _ _ (w64_up' (n := (allS xss).length) hia (by omega)) ⟨l15, ?_⟩
      rw [tk, z]
      simpa using nl15
  · have e : ¬ (i : Int) < (o.len : Int) := e
    obtain rfl : i = (allS xss).length := by omega
    rw [← hZl, List.take_length] at nl
    have hsnd : (Z.filter g).map (·.2) = expS s.1 bs.length xss := by
      unfold expS
      have h1 : Z.map (·.2) = allS xss := List.map_snd_zip (by omega)
      conv => rhs; rw [← h1, List.filter_map]
      rfl
    refine hQ' l k ⟨(Z.filter g).map (·.1), nl.base n.le, by rw [← hsnd, List.length_map, List.length_map], fun j sl xs a b => ?_, List.pairwise_cons.2 ⟨fun sl hsl b hb1 hb2 => ?_, ?_⟩⟩
    · rw [← hsnd] at b
      rw [List.getElem?_map] at a b
      cases hz : (Z.filter g)[j]? with
      | none => rw [hz] at a; cases a
      | some p =>
        rw [hz] at a b
        obtain rfl := Option.some.inj a
        obtain rfl := Option.some.inj b
        exact (hrowZ p (List.mem_filter.1 (List.mem_of_getElem? hz)).1).more lk
    · obtain ⟨p, hp, rfl⟩ := List.mem_map.1 hsl
      have := hrowZ p (List.mem_filter.1 hp).1
      exact this.own.live b hb2 (nl.new b hb1)
    · have h1 : Z.map (·.1) = els := List.map_fst_zip (by omega)
      have : ((Z.filter g).map (·.1)).Sublist els := by rw [← h1]; exact (List.filter_sublist ..).map _
      exact (List.pairwise_cons.1 n.sep).2.sublist this
theorem Own.sub {h h' : Heap} {k : Kd} {s : Sl} {ys : List (Den k)} (o : Own h k s ys) (e : ∀ b, blkOf s b → h' b = h b) : Own h' k s ys := by
  rcases o with o | ⟨b, ha, h1, h2, z, hz, hb⟩
  · exact .inl o
  · exact .inr ⟨b, ha, h1, h2, z, hz, by rw [e b ⟨_, ha, rfl⟩]; exact hb⟩
theorem Nest.sub {h0 h h' : Heap} {k : Kd} {o : Sl} {els : List Sl} {xss : List (List (Den k))} (n : Nest h0 h k o els xss) (e : ∀ x, fpN o els x → h' x = h x) (l : Go.Mx.le h0 h') : Nest h0 h' k o els xss :=
  ⟨⟨n.out.own.sub fun b q => e b (.inl q), n.out.len, l, n.out.new⟩, n.len, fun i sl xs a b => by
    have q := n.row i sl xs a b
    exact ⟨q.own.sub fun c hc => e c (.inr ⟨sl, List.mem_of_getElem? a, hc⟩), q.len, l, q.new⟩, n.sep⟩

section
variable {h : Heap} {s : Sc} {bs : List Int} {xss : List (List Ac)} (r : ScR h s bs xss) (hs : Small bs xss)
  {cK : Sc → Heap → (Int → Heap → Prop) → Prop} {cT : Sc → Heap → (Value → Heap → Prop) → Prop} {cR : Value → Value → Heap → (Unit → Heap → Prop) → Prop} {fv : Option Addr → Value}
  {cC : Option Nat → Heap → (Option Nat → Heap → Prop) → Prop} {cA : Option Addr → Int → Heap → (Ac → Heap → Prop) → Prop} {cD : Sc → Ac → Ac → Heap → (Bool → Heap → Prop) → Prop}
  {F : Option Addr → Option Nat → Value → Heap → (Bool → Heap → Prop) → Prop} {cS : Sl → Heap → (Sl → Heap → Prop) → Prop} {cY : Value → Sl → Heap → (Bool → Heap → Prop) → Prop}
  (i1 : ∀ {Q : Int → Heap → Prop}, Q (chkE s.1 bs.length xss) h → cK s h Q)
  (iT : ∀ {k : Heap} {Q : Value → Heap → Prop}, (∀ p k', k p = none → Obj k' p kapiScene s → le k k' → Q (fv (some (ptr p))) k') → cT s k Q)
  (iR : ∀ {p : Nat} {y : Value} {k : Heap} {Q : Unit → Heap → Prop}, explore_traces_1.M F y (some (ptr p)) k Q → cR (fv (some (ptr p))) y k Q)
  (iC : ∀ {m : Nat} {h : Heap} {l : List (Int × Int)} {Q : Option Nat → Heap → Prop}, MapIs h m ki ki l → (∀ m' h', h m' = none → MapIs h' m' ki ki l → le h h' → Q (some m') h') → cC (some m) h Q)
  (iA : ∀ {p i h Q}, explore_walk_act.M p i h Q → cA p i h Q)
  (iD : ∀ {x y : Ac} {h : Heap} {Q : Bool → Heap → Prop}, (∀ b : Bool, (b = true ↔ DepI s.1 (s.2.1.len : Int) x.2.1 x.2.2.1 x.2.2.2.1 y.2.1 y.2.2.1 y.2.2.2.1) → Q b h) → cD s x y h Q)
  (jF : ∀ {p m y h Q}, explore_walk_down.M cC cA cD F cS cY p m y h Q → F p m y h Q)
  (iS : ∀ {t : Sl} {h : Heap} {xs : List Int} {Q : Sl → Heap → Prop}, Arr h ki t xs → t.len ≤ 2097152 → (∀ r h', New h h' ki r xs → Q r h') → cS t h Q)
include r hs iC iA iD jF iS
/-- The scripts are told to someone. -/
theorem traces_spec {J : List (List Int) → (Nat → Prop) → Heap → Prop} (hJe : ∀ d S k T k', J d S k → Ext T k k' → (∀ x, S x → ¬ T x) → (∀ x, T x → h x = none) → J d S k') (hJl : ∀ d S h x, J d S h → S x → h x ≠ none) (hc : chkE s.1 bs.length xss = 0)
    {yv : Value} (hy : ∀ {d : List (List Int)} {S : Nat → Prop} {k : Heap} {sl : Sl} {q : List Int} {K : Bool → Heap → Prop}, J d S k → New h k ki sl q → (∀ x, blkOf sl x → ¬ S x) → (∀ x, S x → h x = none) → d.length ≤ 2000000 → ScriptP (xss.map List.length) q →
      (∀ S' h', J (d ++ [q]) S' h' → Step (fun x => S x ∨ blkOf sl x) S' k h' → K true h') → cY yv sl k K)
    {p : Nat} {k : Heap} {S : Nat → Prop} (ob : Obj k p kapiScene s) (l : le h k) (hJ : J [] S k) (sf : ∀ x, S x → h x = none) {Q : Unit → Heap → Prop}
    (hQ : ∀ S' h', J (expS s.1 bs.length xss) S' h' → le h h' → (∀ x, S' x → h x = none) → Q () h') : explore_traces_1.M F yv (some (ptr p)) k Q := by
  obtain ⟨_, _, _, hx4, ha, _⟩ := chkE_ok hc
  rw [actsE_sum hs.2.1 hs.2.2] at ha
  have hsum : (xss.map List.length).sum ≤ 10 := by omega
  have hls := r.lists
  have e0 : (ptr p).add 0 = ptr p := rfl
  refine (e0 ▸ ob.ld (k := kapiScene) (kf := kapiScene) (y := s) (off := 0) ⟨[], [], by simp, rfl⟩ ?_ : ld kapiScene k (ptr p) _)
  refine ob.ld (k := kapiScene) (kf := .sl) (y := s.2.2.1) (off := 2) ⟨(Kd.cells kapiScene s).take 2, [], rfl, rfl⟩ ?_
  refine make_new (k := ki) (by omega) (Int.le_refl _) (by show ((8 : Nat) : Int) * (s.2.2.1.len : Int) ≤ _; omega) (by omega) fun nx h9 n9 l9 _ _ => ?_
  rw [Int.toNat_natCast, hls] at n9
  have hcz : List.replicate xss.length (Kd.zero ki) = cntL xss.length [] := by
    apply List.ext_getElem
    · simp [cntL]
    · intro i _ _; simp [cntL, cnt, Kd.zero]
  rw [hcz] at n9
  refine Obj.new (k := kexplorewalk) (x := (s, (nx, (Sl.none, ())))) fun b h11 hb ob11 l11 => ?_
  refine fun m12 hm12 => ?_
  have l13 : le h11 (upd h11 m12 (.map #[] 0)) := le_upd hm12 _
  have lk : le k (upd h11 m12 (.map #[] 0)) := (n9.le.trans l11).trans l13
  have hbk : k b = none := n9.le.none hb
  have hSk : ∀ x, S x → k x ≠ none := fun x hx => hJl _ _ _ _ hJ hx
  have D : DW J h (upd h11 m12 (.map #[] 0)) s b nx ⟨none, 0, 0⟩ (cntL xss.length []) [] S [] :=
    ⟨ob11.le l13, ((n9.base l).more l11).more l13, New.none (l.trans lk) _, hJe _ _ _ (fun _ => False) _ hJ lk.toExt (fun _ _ => id) (fun _ q => q.elim), l.none hbk, sf, fun q => n9.own.live b q hb, no_blk, fun q => hSk b q hbk, fun x _ q => no_blk q, fun x q hx => hSk x hx (n9.new x q), fun x q => absurd q no_blk⟩
  have hm5 : MapIs (upd h11 m12 (.map #[] 0)) m12 ki ki [] := ⟨#[], 0, upd_same _ _ _, rfl, List.nodup_nil, fun x hx => (by cases hx)⟩
  refine down_spec hJe hJl r hx4 hsum iC iA iD jF iS hy (xss.map List.length).sum [] b nx ⟨none, 0, 0⟩ S [] m12 [] _ _ (by simp) (fun q hq => by cases hq) (fun w => Nat.zero_le _) trivial D hm5 (Slp.nil.congr fun o => ⟨fun q => q.elim, fun q => ?_⟩) (fun q => ?_) ?_ fun scr' S' h' D' st' => ?_
  · obtain ⟨_, u1, y, u2, q2, _⟩ := q
    cases u1 <;> cases q2
  · rcases q with q | q | q | q
    · rw [q] at hm12; rw [ob11] at hm12; cases hm12
    · exact (n9.more l11).own.live m12 q hm12
    · exact no_blk q
    · exact hSk m12 q ((n9.le.trans l11).none hm12)
  · have h2 : 4 ^ (xss.map List.length).sum ≤ 4 ^ 10 := Nat.pow_le_pow_right (by omega) (by omega)
    have h3 : (4 : Nat) ^ 10 = 1048576 := by decide
    rw [List.length_nil]; omega
  · exact hQ S' h' D'.con D'.base D'.sf
include i1 iT iR
theorem explore_spec {Q : (Sl × (Int × Unit)) → Heap → Prop} (hQ : ∀ o h', FoR h h' o (expP s.1 bs.length xss (chkE s.1 bs.length xss)) → Q (o, (chkE s.1 bs.length xss, ())) h') : explore_Explore.M cK cT cY cR s h Q := by
  refine i1 ⟨fun d => ?_, fun d => ?_⟩
  · have d : chkE s.1 bs.length xss ≠ 0 := of_decide_eq_true d
    refine hQ _ h ⟨[], ?_⟩
    unfold expP; rw [if_neg d]; exact Nest.nil h ki
  have d : ¬ chkE s.1 bs.length xss ≠ 0 := of_decide_eq_false d
  have hc : chkE s.1 bs.length xss = 0 := Decidable.not_not.1 d
  rw [hc] at hQ
  have hQ' : ∀ o h', FoR h h' o (expS s.1 bs.length xss) → Q (o, (0, ())) h' := fun o h' f => hQ o h' (by unfold expP; rw [if_pos rfl]; exact f)
  refine Obj.new (k := .sl) (x := (Kd.zero .sl)) fun b h6 hb ob6 l6 => ?_
  refine iT fun p h8 hp ob8 l8 => ?_
  intro l9 d10 L11 hl9 hd10 hne hround
  have hbl : h8 b ≠ none := (ob6.le l8).live
  have hbn9 : b ≠ l9 := fun q => hbl (by rw [q]; exact hl9)
  have hbn10 : b ≠ d10 := fun q => hbl (by rw [q]; exact hd10)
  have l68 := l6.trans l8
  have h09 : h l9 = none := l68.none hl9
  have h010 : h d10 = none := l68.none hd10
  let hE := upd (upd h8 d10 (.raw (.deferred (some [])))) l9 (.raw (L11 false))
  have lE : le h8 hE := (le_upd hd10 _).trans (le_upd (by rw [upd_ne _ _ hne]; exact hl9) _)
  let J : List (List Int) → (Nat → Prop) → Heap → Prop := fun dd S k => ∃ lst els, Obj k b .sl lst ∧ Nest h k ki lst els dd ∧ k l9 = some (.raw (L11 false)) ∧ k d10 = some (.raw (.deferred (some []))) ∧ (∀ x, S x ↔ (x = b ∨ x = l9 ∨ x = d10 ∨ fpN lst els x)) ∧ ∀ x, fpN lst els x → x ≠ b ∧ x ≠ l9 ∧ x ≠ d10
  refine iR (traces_spec (J := J) r hs iC iA iD jF iS ?_ ?_ hc ?_ (S := fun x => x = b ∨ x = l9 ∨ x = d10) (ob8.le lE) (l68.trans lE) ?_ ?_ ?_)
  · rintro dd S k T k' ⟨lst, els, j1, j2, j3, j4, j5, j6⟩ e n f
    exact ⟨lst, els, j1.ext e (n b ((j5 b).2 (.inl rfl))), j2.ext e (fun x hx => n x ((j5 x).2 (.inr (.inr (.inr hx))))) f, e.1 _ _ j3 (n l9 ((j5 l9).2 (.inr (.inl rfl)))), e.1 _ _ j4 (n d10 ((j5 d10).2 (.inr (.inr (.inl rfl))))), j5, j6⟩
  · rintro dd S k x ⟨lst, els, j1, j2, j3, j4, j5, j6⟩ hx
    rcases (j5 x).1 hx with rfl | rfl | rfl | hx
    · exact j1.live
    · rw [j3]; exact fun q => by cases q
    · rw [j4]; exact fun q => by cases q
    · exact j2.live hx
  · -- one more script
    rintro dd S k sl q K ⟨lst, els, j1, j2, j3, j4, j5, j6⟩ nsl ap sf hdl _ hK
    have hbs : ¬ blkOf sl b := fun q => ap b q ((j5 b).2 (.inl rfl))
    have hls : ¬ blkOf sl l9 := fun q => ap l9 q ((j5 l9).2 (.inr (.inl rfl)))
    have hds : ¬ blkOf sl d10 := fun q => ap d10 q ((j5 d10).2 (.inr (.inr (.inl rfl))))
    have hns : ∀ x, blkOf sl x → ¬ fpN lst els x := fun x q hx => ap x q ((j5 x).2 (.inr (.inr (.inr hx))))
    refine hround sl k K j3 ⟨j3, ?_⟩
    have xU : Ext (fun x => x = l9) k (upd k l9 (.raw (L11 true))) := ext_one (by rw [j3]; exact fun q => by cases q) (fun c hc => upd_ne _ _ hc) (by rw [upd_same]; exact fun q => by cases q)
    have jU := j1.ext xU hbn9
    have nU := j2.ext xU (fun x hx => (j6 x hx).2.1) (fun x hx => by rw [hx]; exact h09)
    have slU := nsl.ext xU (fun x hx q => hls (by rw [← q]; exact hx)) (fun x hx => by rw [hx]; exact h09)
    refine jU.ld (k := .sl) (kf := .sl) (y := lst) (off := 0) ⟨[], [], by simp, rfl⟩ ?_
    have hol := nU.out.len
    have hel := nU.len
    refine nU.snoc slU hns (by omega) fun lst' h19 n19 x19 b19 => ?_
    have hbl' : ¬ blkOf lst b := fun q => (j6 b (.inl q)).1 rfl
    have hll' : ¬ blkOf lst l9 := fun q => (j6 l9 (.inl q)).2.1 rfl
    have hdl' : ¬ blkOf lst d10 := fun q => (j6 d10 (.inl q)).2.2 rfl
    have j19 := jU.ext x19 hbl'
    refine j19.st (k := .sl) (kf := .sl) (x' := lst') (off := 0) rfl (by decide) rfl fun h20 ob20 x20 => ?_
    have dU : (upd k l9 (.raw (L11 true))) d10 = some (.raw (.deferred (some []))) := by rw [upd_ne _ _ (fun q => hne q.symm)]; exact j4
    have lU : (upd k l9 (.raw (L11 true))) l9 = some (.raw (L11 true)) := upd_same _ _ _
    have l20 : h20 l9 = some (.raw (L11 true)) := x20.1 _ _ (x19.1 _ _ lU hll') (fun q => hbn9 q.symm)
    have d20 : h20 d10 = some (.raw (.deferred (some []))) := x20.1 _ _ (x19.1 _ _ dU hdl') (fun q => hbn10 q.symm)
    have fp19 : ∀ x, fpN lst' (els ++ [sl]) x → x ≠ b ∧ x ≠ l9 ∧ x ≠ d10 := fun x hx => by
      rcases hx with hx | ⟨t, ht, hx⟩
      · rcases b19 x hx with q | q
        · exact j6 x (.inl q)
        · refine ⟨fun z => ?_, fun z => ?_, fun z => ?_⟩
          · rw [z] at q; exact jU.live q
          · rw [z, lU] at q; cases q
          · rw [z, dU] at q; cases q
      · rcases List.mem_append.1 ht with ht | ht
        · exact j6 x (.inr ⟨t, ht, hx⟩)
        · have : t = sl := by simpa using ht
          subst this
          exact ⟨fun z => hbs (by rw [← z]; exact hx), fun z => hls (by rw [← z]; exact hx), fun z => hds (by rw [← z]; exact hx)⟩
    have n20 := n19.ext x20 (fun x hx z => (fp19 x hx).1 z) (fun x z => by rw [z]; exact hb)
    refine ⟨l20, ?_⟩
    have xF : Ext (fun x => x = l9) h20 (upd h20 l9 (.raw (L11 false))) := ext_one (by rw [l20]; exact fun q => by cases q) (fun c hc => upd_ne _ _ hc) (by rw [upd_same]; exact fun q => by cases q)
    have nF := n20.ext xF (fun x hx => (fp19 x hx).2.1) (fun x hx => by rw [hx]; exact h09)
    refine hK (fun x => x = b ∨ x = l9 ∨ x = d10 ∨ fpN lst' (els ++ [sl]) x) _ ⟨lst', els ++ [sl], ob20.ext xF hbn9, nF, upd_same _ _ _, by rw [upd_ne _ _ (fun q => hne q.symm)]; exact d20, fun x => Iff.rfl, fp19⟩ ⟨?_, fun x hx => ?_⟩
    · refine (((xU.mono fun x q => ?_).trans (x19.mono fun x q => ?_)).trans (x20.mono fun x q => ?_)).trans (xF.mono fun x q => ?_)
      · exact .inl ((j5 x).2 (.inr (.inl q)))
      · exact .inl ((j5 x).2 (.inr (.inr (.inr (.inl q)))))
      · exact .inl ((j5 x).2 (.inl q))
      · exact .inl ((j5 x).2 (.inr (.inl q)))
    · rcases hx with hx | hx | hx | hx
      · exact .inl (.inl ((j5 x).2 (.inl hx)))
      · exact .inl (.inl ((j5 x).2 (.inr (.inl hx))))
      · exact .inl (.inl ((j5 x).2 (.inr (.inr (.inl hx)))))
      · rcases hx with hx | ⟨t, ht, hx⟩
        · rcases b19 x hx with q | q
          · exact .inl (.inl ((j5 x).2 (.inr (.inr (.inr (.inl q))))))
          · exact .inr (xU.2 x q)
        · rcases List.mem_append.1 ht with ht | ht
          · exact .inl (.inl ((j5 x).2 (.inr (.inr (.inr (.inr ⟨t, ht, hx⟩))))))
          · have : t = sl := by simpa using ht
            subst this
            exact .inl (.inr hx)
  · have nE := (Nest.nil h ki).more (l68.trans lE)
    exact ⟨⟨none, 0, 0⟩, [], ob6.le (l8.trans lE), nE, upd_same _ _ _, by show upd (upd h8 d10 _) l9 _ d10 = _; rw [upd_ne _ _ (fun q => hne q.symm)]; exact upd_same _ _ _, fun x => ⟨fun q => by
      rcases q with q | q | q
      · exact .inl q
      · exact .inr (.inl q)
      · exact .inr (.inr (.inl q)), fun q => by
      rcases q with q | q | q | q
      · exact .inl q
      · exact .inr (.inl q)
      · exact .inr (.inr q)
      · rcases q with q | ⟨t, ht, _⟩
        · exact absurd q no_blk
        · cases ht⟩, fun x hx => by
      rcases hx with q | ⟨t, ht, _⟩
      · exact absurd q no_blk
      · cases ht⟩
  · rintro x (rfl | rfl | rfl)
    · exact hb
    · exact h09
    · exact h010
  · rintro S' h21 ⟨lst, els, j1, j2, j3, j4, j5, j6⟩ l21 sf
    refine ⟨j3, j4, ?_⟩
    have obD : Obj (drop2 h21 l9 d10) b .sl lst := by show drop2 h21 l9 d10 b = _; rw [drop2_ne hbn9 hbn10]; exact j1
    have lD : le h (drop2 h21 l9 d10) := fun x o ho => by
      rw [drop2_ne (fun q => by rw [q, h09] at ho; cases ho) (fun q => by rw [q, h010] at ho; cases ho)]
      exact l21 x o ho
    refine obD.ld (k := .sl) (kf := .sl) (y := lst) (off := 0) ⟨[], [], by simp, rfl⟩ ?_
    exact hQ' lst _ ⟨els, j2.sub (fun x hx => drop2_ne (j6 x hx).2.1 (j6 x hx).2.2) lD⟩
end
theorem exploreAll_spec {s : Sc} {h0 : Heap} {bs : List Int} {xss : List (List Ac)} (r : ScR h0 s bs xss) (hs : Small bs xss) {Q : Bool → Heap → Prop} (hQ : ∀ h', le h0 h' → Q true h')
    {c1 : Sc → Heap → (Sc → Heap → Prop) → Prop} {c2 : Sc → Heap → (Unit → Heap → Prop) → Prop} {c3 c6 : Sc → Heap → ((Sl × (Int × Unit)) → Heap → Prop) → Prop} {c4 : Sc → Sc → Heap → (Unit → Heap → Prop) → Prop}
    {c5 : Sl → Heap → (Int → Heap → Prop) → Prop} {c7 : Sl → Sl → Heap → (Bool → Heap → Prop) → Prop} {c8 : Sc → Sc → Heap → (Bool → Heap → Prop) → Prop} {c9 : Sl → Heap → (Bool → Heap → Prop) → Prop}
    (i1 : ∀ {a h Q}, law22_copied.M a h Q → c1 a h Q) (i2 : ∀ {a h Q}, law22_moved.M a h Q → c2 a h Q)
    (i3 : ∀ {s : Sc} {h : Heap} {bs : List Int} {xss : List (List Ac)} {Q : (Sl × (Int × Unit)) → Heap → Prop}, ScR h s bs xss → Small bs xss → (∀ o h', FoR h h' o (expP s.1 bs.length xss (chkE s.1 bs.length xss)) → Q (o, (chkE s.1 bs.length xss, ())) h') → c3 s h Q)
    (i4 : ∀ {a b h Q}, law22_back.M a b h Q → c4 a b h Q)
    (i5 : ∀ {h0 h : Heap} {o : Sl} {els : List Sl} {xss : List (List (Den ki))} {Q : Int → Heap → Prop}, Nest h0 h ki o els xss → xss.length ≤ 1048576 → (∀ xs ∈ xss, xs.length ≤ 1048576) → (∀ (n : Int) h', (xss.length : Int) ≤ n → Ext (fpN o els) h h' → Q n h') → c5 o h Q)
    (i6 : ∀ {s : Sc} {h : Heap} {bs : List Int} {xss : List (List Ac)} {Q : (Sl × (Int × Unit)) → Heap → Prop}, ScR h s bs xss → Small bs xss → (∀ o h', FoR h h' o (expP s.1 bs.length xss (chkE s.1 bs.length xss)) → Q (o, (chkE s.1 bs.length xss, ())) h') → c6 s h Q)
    (i7 : ∀ {h h1 h2 : Heap} {a b : Sl} {ea eb : List Sl} {xss : List (List Int)} {Q : Bool → Heap → Prop}, Nest h1 h ki a ea xss → Nest h2 h ki b eb xss → xss.length ≤ 1048576 → (∀ xs ∈ xss, xs.length ≤ 1048576) → Q true h → c7 a b h Q)
    (i8 : ∀ {h : Heap} {a b : Sc} {cls : List Sl} {mk : Sl} {bs : List Int} {xss : List (List Ac)} {Q}, Scn h0 h a cls mk bs xss → ScR h0 b bs xss → Small bs xss → a.1 = b.1 → Q true h → c8 a b h Q)
    (i9 : ∀ {h0 h : Heap} {o : Sl} {els : List Sl} {xss : List (List (Den ki))} {Q : Bool → Heap → Prop}, Nest h0 h ki o els xss → xss.length ≤ 1048576 → (∀ xs ∈ xss, xs.length ≤ 1048576) → (∀ h', Ext (fpN o els) h h' → Q true h') → c9 o h Q) :
    law22_ExploreAll.M c1 c2 c3 c4 c5 c6 c7 c8 c9 s h0 Q := by
  refine i1 (copied_spec r hs fun c hA cls mk oA eA => i2 (moved_spec oA hs fun h2 bs' xss' o2 el ek => ?_))
  refine i3 o2.read (o2.small hs el ek) fun en0 h4 en0R => ?_
  obtain ⟨els0, n0⟩ := en0R
  have o4 := o2.more n0.le
  refine i4 (back_spec2 o4 r hs el ek fun h5 o5 x5 => ?_)
  refine i3 o5.read hs fun en h6 enR => ?_
  obtain ⟨els, n6⟩ := enR
  have o6 := o5.more n6.le
  refine i3 o6.read hs fun ag h7 agR => ?_
  obtain ⟨els7, n7⟩ := agR
  have sm := expS_small (sz := c.1) (nb := bs.length) (len := bs.length) hs.2.1 hs.2.2 (e := chkE c.1 bs.length xss) rfl
  refine i5 n7 sm.1 sm.2 fun sp hB hsp xB => ?_
  have lB : le h6 hB := le_ext n7.le xB (fun x q => n7.fresh q)
  have nB := n6.more lB
  have oB := o6.more lB
  refine i6 (r.le oB.base) hs fun wa hE waR => ?_
  have ec : c.1 = s.1 := eA
  rw [← ec] at waR
  obtain ⟨elsE, nE⟩ := waR
  have nB2 := nB.more nE.le
  have oE := oB.more nE.le
  have waL : (wa.len : Int) = ((expP c.1 bs.length xss (chkE c.1 bs.length xss)).length : Int) := by rw [← nE.out.len, nE.len]
  refine ⟨fun d => absurd (show chkE c.1 bs.length xss = chkE s.1 bs.length xss by rw [ec]) (of_decide_eq_true d), fun _ => i7 nB2 nE sm.1 sm.2 ⟨fun d => (by cases d), fun _ => ⟨fun d => ?_, fun _ => ?_⟩⟩⟩
  · have d : sp < (wa.len : Int) := of_decide_eq_true d
    have hsp : ((expP c.1 bs.length xss (chkE c.1 bs.length xss)).length : Int) ≤ sp := hsp
    omega
  refine i8 oE r hs ec ⟨fun d => (by cases d), fun _ => ?_⟩
  exact i9 nB2 sm.1 sm.2 fun hF xF => hQ _ (le_ext oE.base xF (fun x q => o5.base.none (n6.fresh q)))
end Go.Mx
