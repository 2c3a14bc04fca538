/-
  A play's lists spoilt, compared.
-/
import Derived.Test.YtppehoailhjdfabMxVf
import Derived.Test.YtppehoailhjdfabMxBk
set_option linter.unusedVariables false
set_option linter.unusedSimpArgs false
set_option linter.unusedSectionVars false
namespace Go.Mx

/-- Rows that may be read. -/
structure ArrN (h : Heap) (k : Kd) (o : Sl) (els : List Sl) (xss : List (List (Den k))) : Prop where
  out : Arr h .sl o els
  len : els.length = xss.length
  row : ∀ (i : Nat) sl xs, els[i]? = some sl → xss[i]? = some xs → Arr h k sl xs
theorem ArrN.arr2 {h k o els xss} (a : ArrN h k o els xss) : Arr2 h k o xss := ⟨els, a.out, a.len, a.row⟩
theorem ArrN.ext {h h' : Heap} {k o els xss} (a : ArrN h k o els xss) {S : Nat → Prop} (e : Ext S h h') (d : ∀ x, fpN o els x → ¬ S x) : ArrN h' k o els xss :=
  ⟨Arr.ext e a.out (fun b hb => d b (.inl hb)), a.len, fun i sl xs p q => Arr.ext e (a.row i sl xs p q) fun b hb => d b (.inr ⟨sl, List.mem_of_getElem? p, hb⟩)⟩
theorem ArrN.le {h h' : Heap} {k o els xss} (a : ArrN h k o els xss) (l : Go.Mx.le h h') : ArrN h' k o els xss := ⟨a.out.le l, a.len, fun i sl xs p q => (a.row i sl xs p q).le l⟩
theorem Nest.arrN {h0 h k o els xss} (n : Nest h0 h k o els xss) : ArrN h k o els xss := ⟨n.out.arr, n.len, fun i sl xs p q => (n.row i sl xs p q).arr⟩

def appO (k : Kd) (sz bytes : Nat) (o : Sl) (x : Den k) (cont : Heap → Prop) (go39 : (Int × Unit) → Heap → Prop) (s37 : (Int × Unit)) (h38 : Heap) : Prop :=
    (((decide (s37.1 < (o.len : Int))) = true →
    (0 ≤ s37.1 ∧ s37.1 < (o.len : Int)) ∧
    deref o.a fun a40 =>
    ld (.sl : Kd) h38 (a40.add ((s37.1 : Int).toNat * 1)) fun t41 =>
    Loop (appB k sz bytes x go39 s37) (t41, 0, ()) h38) ∧
    ((decide (s37.1 < (o.len : Int))) = false →
    cont h38))
theorem app_spec {k : Kd} {sz bytes : Nat} (hsz : sz = k.size) (hone : k.flat = true) (hbt : bytes ≤ 64) {h0 h : Heap} {o : Sl} {els : List Sl} {xss : List (List (Den k))} (n : Nest h0 h k o els xss) (h8 : xss.length ≤ 1000000000) (hr : ∀ xs ∈ xss, xs.length ≤ 1000000000) {x : Den k} {cont : Heap → Prop}
    (hQ : ∀ h', ArrN h' k o els xss → Ext (fpN o els) h h' → cont h') : Loop (appO k sz bytes o x cont) (0, ()) h := by
  have oln := n.out.len
  have eln := n.len
  obtain ⟨s1, s2⟩ := List.pairwise_cons.1 n.sep
  refine Loop.up xss.length (fun s => s.1) (fun i _ g => New h0 g .sl o els ∧ (∀ (j : Nat) sl xs, els[j]? = some sl → xss[j]? = some xs → Arr g k sl xs) ∧ (∀ (j : Nat) sl xs, i ≤ j → els[j]? = some sl → xss[j]? = some xs → New h0 g k sl xs) ∧ Ext (fpN o els) h g) rfl ⟨n.out, n.arrN.row, fun j sl xs _ => n.row j sl xs, Ext.refl _ _⟩ ?_
  rintro i ⟨i', u⟩ g go hi hc ⟨no, ar, nr, xg⟩ hgo
  dsimp only at hc; subst hc
  refine ⟨fun d => ?_, fun d => hQ g ⟨no.arr, eln, ar⟩ xg⟩
  have d : (i : Int) < (o.len : Int) := of_decide_eq_true d
  have hil : i < xss.length := by omega
  obtain ⟨sl, hsl⟩ : ∃ sl, els[i]? = some sl := ⟨els[i]'(by omega), by simp⟩
  obtain ⟨X, hxi⟩ : ∃ X, xss[i]? = some X := ⟨xss[i], by simp⟩
  have hX := hr _ (List.mem_of_getElem? hxi)
  have hb : 0 ≤ (i : Int) ∧ (i : Int) < (o.len : Int) := ⟨by omega, d⟩
  have hm := List.mem_of_getElem? hsl
  have row := nr i sl X (Nat.le_refl _) hsl hxi
  have ap : ∀ (j : Nat) sj, els[j]? = some sj → j ≠ i → ∀ b, blkOf sj b → ¬ blkOf sl b := by
    intro j sj hj c b p q
    obtain ⟨hj', rfl⟩ := List.getElem?_eq_some_iff.1 hj
    obtain ⟨hi', rfl⟩ := List.getElem?_eq_some_iff.1 hsl
    rw [List.pairwise_iff_getElem] at s2
    rcases Nat.lt_or_gt_of_ne c with c | c
    · exact s2 j i hj' hi' c b p q
    · exact s2 i j hi' hj' c b q p
  refine ⟨hb, no.arr.at (i := (i : Int)) (by omega) d rfl fun y hy => ?_⟩
  rw [Int.toNat_natCast, hsl] at hy
  cases hy
  refine app_row hsz hone hbt row hX fun g2 x2 a2 => ?_
  refine hgo hil _ _ (by show w64 ((i : Int) + 1) = _; rw [w64_of] <;> omega) ⟨no.ext x2 (fun b p q => s1 sl hm b p q) row.new, fun j sj xs p q => ?_, fun j sj xs hj p q => ?_, xg.trans (x2.mono fun b q => .inr ⟨sl, hm, q⟩)⟩
  · by_cases c : j = i
    · subst c
      rw [hsl] at p; cases p
      rw [hxi] at q; cases q
      exact a2
    · exact Arr.ext x2 (ar j sj xs p q) (ap j sj p c)
  · exact (nr j sj xs (by omega) p q).ext x2 (ap j sj p (by omega)) row.new

def chkB (k : Kd) (sz : Nat) (o : Sl) (m : Int → Den k) (Q : Bool → Heap → Prop) (go74 : (Int × Unit) → Heap → Prop) (s72 : (Int × Unit)) (go77 : (Int × Unit) → Heap → Prop) (s75 : (Int × Unit)) (h76 : Heap) : Prop :=
    (0 ≤ s72.1 ∧ s72.1 < (o.len : Int)) ∧
    deref o.a fun a78 =>
    ld (.sl : Kd) h76 (a78.add ((s72.1 : Int).toNat * 1)) fun t79 =>
    (((decide (s75.1 < (t79.len : Int))) = true →
    (0 ≤ s72.1 ∧ s72.1 < (o.len : Int)) ∧
    deref o.a fun a80 =>
    ld (.sl : Kd) h76 (a80.add ((s72.1 : Int).toNat * 1)) fun t81 =>
    (0 ≤ s75.1 ∧ s75.1 < (t81.len : Int)) ∧
    deref t81.a fun a82 =>
    ld k h76 (a82.add ((s75.1 : Int).toNat * sz)) fun t83 =>
    (((!(eqK k t83 (m s72.1))) = true →
    Q false h76) ∧
    ((!(eqK k t83 (m s72.1))) = false →
    go77 ((w64 (s75.1 + 1)), ()) h76))) ∧
    ((decide (s75.1 < (t79.len : Int))) = false →
    go74 ((w64 (s72.1 + 1)), ()) h76))
def chkO (k : Kd) (sz : Nat) (o : Sl) (m : Int → Den k) (Q : Bool → Heap → Prop) (cont : Heap → Prop) (go74 : (Int × Unit) → Heap → Prop) (s72 : (Int × Unit)) (h73 : Heap) : Prop :=
    (((decide (s72.1 < (o.len : Int))) = true →
    Loop (chkB k sz o m Q go74 s72) (0, ()) h73) ∧
    ((decide (s72.1 < (o.len : Int))) = false →
    cont h73))
theorem chk_spec {k : Kd} {sz : Nat} (hsz : sz = k.size) (hrf : ∀ x : Den k, eqK k x x = true) {h : Heap} {o : Sl} {els : List Sl} {xss : List (List (Den k))} {m : Int → Den k} (n : ArrN h k o els (markedP m xss)) (h8 : xss.length ≤ 1000000000) (hr : ∀ xs ∈ xss, xs.length ≤ 1000000000) {Q : Bool → Heap → Prop} {cont : Heap → Prop} (hQ : cont h) : Loop (chkO k sz o m Q cont) (0, ()) h := by
  have oln := n.out.1
  have eln := n.len
  rw [markedP_len] at eln
  refine Loop.up xss.length (fun s => s.1) (fun i _ g => g = h) rfl rfl ?_
  rintro i ⟨i', u⟩ g go hi hc rfl hgo
  dsimp only at hc; subst hc
  refine ⟨fun d => ?_, fun d => hQ⟩
  have d : (i : Int) < (o.len : Int) := of_decide_eq_true d
  have hil : i < xss.length := by omega
  obtain ⟨sl, hsl⟩ : ∃ sl, els[i]? = some sl := ⟨els[i]'(by omega), by simp⟩
  have hxi : xss[i]? = some (xss.getD i []) := by rw [List.getD_eq_getElem?_getD]; simp [hil]
  have hX := hr _ (List.mem_of_getElem? hxi)
  have row := n.row i sl _ hsl (markedP_get m hil)
  have rl := row.1
  rw [List.length_replicate] at rl
  have hb : 0 ≤ (i : Int) ∧ (i : Int) < (o.len : Int) := ⟨by omega, d⟩
  have rE : ∀ {K : Sl → Prop}, K sl → deref o.a fun a => ld .sl g (a.add ((i : Int).toNat * 1)) K := fun h => n.out.at (i := (i : Int)) (by omega) d rfl fun y hy => by
    rw [Int.toNat_natCast, hsl] at hy
    cases hy; exact h
  refine Loop.up (xss.getD i []).length (fun s => s.1) (fun j _ g' => g' = g) rfl rfl ?_
  rintro j ⟨j', u2⟩ g1 go2 hj hc rfl hgo2
  dsimp only at hc; subst hc
  refine ⟨hb, rE ⟨fun q => ⟨hb, rE ?_⟩, fun q => hgo hil _ _ (by show w64 ((i : Int) + 1) = _; rw [w64_of] <;> omega) rfl⟩⟩
  have q : (j : Int) < (sl.len : Int) := of_decide_eq_true q
  have hbj : 0 ≤ (j : Int) ∧ (j : Int) < (sl.len : Int) := ⟨by omega, q⟩
  refine ⟨hbj, row.at (i := (j : Int)) (by omega) q hsz fun y hy => ?_⟩
  rw [Int.toNat_natCast, List.getElem?_replicate, if_pos (by omega)] at hy
  cases hy
  refine ⟨fun e => ?_, fun _ => hgo2 (by omega) _ _ (by show w64 ((j : Int) + 1) = _; rw [w64_of] <;> omega) rfl⟩
  have e : (!(eqK k (m (i : Int)) (m (i : Int)))) = true := e
  rw [hrf] at e; cases e

/-! ### a play -/
structure RunN (h0 h : Heap) (r : Den KRun) (els wls : List Sl) (E : List (List Eff)) (W : List (List Wait)) (C : List Int) (L : List Acc) (dn : Bool) : Prop where
  e : Nest h0 h KEf r.1 els E
  w : Nest h0 h KWt r.2.1 wls W
  c : New h0 h ki r.2.2.1 C
  l : New h0 h KAcc r.2.2.2.1 L
  dn : r.2.2.2.2.1 = dn
  ew : ∀ x, fpN r.1 els x → ¬ fpN r.2.1 wls x
  cx : ∀ x, blkOf r.2.2.1 x → ¬ fpN r.1 els x ∧ ¬ fpN r.2.1 wls x
  lx : ∀ x, blkOf r.2.2.2.1 x → ¬ fpN r.1 els x ∧ ¬ fpN r.2.1 wls x ∧ ¬ blkOf r.2.2.1 x
def fpRun (r : Den KRun) (els wls : List Sl) : Nat → Prop := fun x => fpN r.1 els x ∨ fpN r.2.1 wls x ∨ blkOf r.2.2.1 x ∨ blkOf r.2.2.2.1 x
/-- A play's lists may be read. -/
structure RunA (h : Heap) (r : Den KRun) (els wls : List Sl) (E : List (List Eff)) (W : List (List Wait)) (C : List Int) (L : List Acc) (dn : Bool) : Prop where
  e : ArrN h KEf r.1 els E
  w : ArrN h KWt r.2.1 wls W
  c : Arr h ki r.2.2.1 C
  l : Arr h KAcc r.2.2.2.1 L
  dn : r.2.2.2.2.1 = dn
theorem RunN.a {h0 h r els wls E W C L dn} (n : RunN h0 h r els wls E W C L dn) : RunA h r els wls E W C L dn := ⟨n.e.arrN, n.w.arrN, n.c.arr, n.l.arr, n.dn⟩
theorem RunA.ext {h h' : Heap} {r els wls E W C L dn} (n : RunA h r els wls E W C L dn) {S : Nat → Prop} (e : Ext S h h') (d : ∀ x, fpRun r els wls x → ¬ S x) : RunA h' r els wls E W C L dn :=
  ⟨n.e.ext e fun x hx => d x (.inl hx), n.w.ext e fun x hx => d x (.inr (.inl hx)), Arr.ext e n.c fun x hx => d x (.inr (.inr (.inl hx))), Arr.ext e n.l fun x hx => d x (.inr (.inr (.inr hx))), n.dn⟩
theorem RunA.le {h h' : Heap} {r els wls E W C L dn} (n : RunA h r els wls E W C L dn) (l : Go.Mx.le h h') : RunA h' r els wls E W C L dn := ⟨n.e.le l, n.w.le l, n.c.le l, n.l.le l, n.dn⟩
theorem RunN.live {h0 h r els wls E W C L dn} (n : RunN h0 h r els wls E W C L dn) {x : Nat} (hx : fpRun r els wls x) : h x ≠ none := by
  rcases hx with q | q | q | q
  · exact n.e.live q
  · exact n.w.live q
  · exact n.c.own.live x q
  · exact n.l.own.live x q
theorem RunN.fresh {h0 h r els wls E W C L dn} (n : RunN h0 h r els wls E W C L dn) {x : Nat} (hx : fpRun r els wls x) : h0 x = none := by
  rcases hx with q | q | q | q
  · exact n.e.fresh q
  · exact n.w.fresh q
  · exact n.c.new x q
  · exact n.l.new x q
theorem RunN.le {h0 h r els wls E W C L dn} (n : RunN h0 h r els wls E W C L dn) : Go.Mx.le h0 h := n.c.le
/-- A slice of one's own is filled. -/
theorem fill_spec {k : Kd} {sz : Nat} (hsz : sz = k.size) (hone : k.flat = true) {h0 h : Heap} {s : Sl} {xs : List (Den k)} (n : New h0 h k s xs) (hl : xs.length ≤ 1000000000) {y : Den k} {cont : Heap → Prop} {body : ((Int × Unit) → Heap → Prop) → (Int × Unit) → Heap → Prop}
    (hbody : ∀ go s3 h28, body go s3 h28 = (((decide (s3.1 < (s.len : Int))) = true → (0 ≤ s3.1 ∧ s3.1 < (s.len : Int)) ∧ deref s.a fun a30 => st k h28 (a30.add ((s3.1 : Int).toNat * sz)) y fun h31 => go ((w64 (s3.1 + 1)), ()) h31) ∧ ((decide (s3.1 < (s.len : Int))) = false → cont h28)))
    (hQ : ∀ h', New h0 h' k s (List.replicate xs.length y) → Ext (blkOf s) h h' → cont h') : Loop body (0, ()) h := by
  have sl := n.len
  refine Loop.up xs.length (fun t => t.1) (fun j _ g => New h0 g k s (mix j (List.replicate xs.length y) xs) ∧ Ext (blkOf s) h g) rfl ⟨n, Ext.refl _ _⟩ ?_
  rintro j ⟨j', u⟩ g go hj hc ⟨nj, xj⟩ hgo
  dsimp only at hc; subst hc
  rw [hbody]
  refine ⟨fun d => ?_, fun d => ?_⟩
  · have d : (j : Int) < (s.len : Int) := of_decide_eq_true d
    have hb : 0 ≤ (j : Int) ∧ (j : Int) < (s.len : Int) := ⟨by omega, d⟩
    refine ⟨hb, nj.set (i := (j : Int)) (by omega) d hone hsz fun g2 n2 x2 => ?_⟩
    rw [Int.toNat_natCast, mix_set (List.length_replicate ..) (x := y) (by rw [List.getElem?_replicate, if_pos (by omega)])] at n2
    exact hgo (by omega) _ _ (by show w64 ((j : Int) + 1) = _; rw [w64_of] <;> omega) ⟨n2, xj.trans x2⟩
  · have d : ¬ (j : Int) < (s.len : Int) := of_decide_eq_false d
    obtain rfl : j = xs.length := by omega
    have hma : mix xs.length (List.replicate xs.length y) xs = List.replicate xs.length y := mix_all (List.length_replicate ..) (List.length_replicate ..)
    rw [hma] at nj
    exact hQ g nj xj
structure RunB (E : List (List Eff)) (W : List (List Wait)) (C : List Int) (L : List Acc) : Prop where
  e8 : E.length ≤ 1000000000
  er : ∀ x ∈ E, x.length ≤ 1000000000
  w8 : W.length ≤ 1000000000
  wr : ∀ x ∈ W, x.length ≤ 1000000000
  c : C.length ≤ 1000000000
  l : L.length ≤ 1000000000
theorem markedP_le {k : Kd} (m : Int → Den k) {xss : List (List (Den k))} {n : Nat} (hr : ∀ xs ∈ xss, xs.length ≤ n) : ∀ xs ∈ markedP m xss, xs.length ≤ n := by
  intro xs hx
  unfold markedP at hx
  obtain ⟨i, hi, rfl⟩ := List.mem_map.1 hx
  rw [List.length_replicate]
  exact getD_le hr i
def SpoilC (c : Den KRun → Heap → (Bool → Heap → Prop) → Prop) : Prop := ∀ {h0 h : Heap} {r : Den KRun} {els wls : List Sl} {E : List (List Eff)} {W : List (List Wait)} {C : List Int} {L : List Acc} {dn : Bool} {Q : Bool → Heap → Prop}, RunN h0 h r els wls E W C L dn → RunB E W C L → (∀ h', Ext (fpRun r els wls) h h' → Q true h') → c r h Q

end Go.Mx
