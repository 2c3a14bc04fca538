/-
  Lists written over, grown, compared.
-/
import Derived.Test.YtjkecefbbijajaaMxUf
set_option linter.unusedVariables false
set_option linter.unusedSimpArgs false
set_option linter.unusedSectionVars false
namespace Go.Mx

theorem Own.addr3 {h : Heap} {k : Kd} {s : Sl} {ys : List (Den k)} (o : Own h k s ys) {x : Nat} (hx : blkOf s x) : s.a = some ⟨x, 0, none⟩ := by
  rcases o with ⟨rfl, _⟩ | ⟨b, e, _⟩
  · exact absurd hx no_blk3
  · obtain ⟨a, q, rfl⟩ := hx
    rw [e] at q; cases q
    exact e
theorem Arr.pre3 {h : Heap} {k : Kd} {s t : Sl} {xs ys : List (Den k)} (c : Arr h k t (xs ++ ys)) (e : s.a = t.a) (hl : xs.length = s.len) (hc : s.len ≤ s.cap) : Arr h k s xs := by
  obtain ⟨sa, sn, sc⟩ := s
  obtain ⟨ta, tn, tc⟩ := t
  obtain rfl : sa = ta := e
  obtain ⟨c1, c2, c3⟩ := c
  cases sa with
  | none =>
    refine ⟨hl, hc, ?_⟩
    have c3 : tn = 0 := c3
    rw [List.length_append] at c1
    dsimp only at c1 hl ⊢
    omega
  | some a =>
    refine ⟨hl, hc, ?_⟩
    have c3 : cellsAt h a ((xs ++ ys).flatMap k.cells) := c3
    rw [List.flatMap_append] at c3
    exact (cellsAt_append c3).1
/-- A slice that grows again and again; what it was stays. -/
structure App3 (h0 h g : Heap) (k : Kd) (s : Sl) (xs : List (Den k)) (x : Den k) (j : Nat) (t : Sl) : Prop where
  n : New h0 g k t (xs ++ List.replicate j x)
  a : Arr g k s xs
  s0 : New h0 h k s xs
  b : ∀ b, blkOf t b → blkOf s b ∨ h b = none
  le : ∀ b, g b = none → h b = none
theorem App3.start {h0 h : Heap} {k : Kd} {s : Sl} {xs : List (Den k)} {x : Den k} (n : New h0 h k s xs) : App3 h0 h h k s xs x 0 s := ⟨by simpa using n, n.arr, n, fun b q => .inl q, fun b q => q⟩
theorem App3.ext {h0 h g g' : Heap} {k : Kd} {s t : Sl} {xs : List (Den k)} {x : Den k} {j : Nat} (A : App3 h0 h g k s xs x j t) {S : Nat → Prop} (e : Ext S g g') (d : ∀ b, (blkOf s b ∨ blkOf t b) → ¬ S b) (f : ∀ b, S b → h0 b = none) : App3 h0 h g' k s xs x j t :=
  ⟨A.n.ext e (fun b q => d b (.inr q)) f, Arr.ext e A.a (fun b q => d b (.inl q)), A.s0, A.b, fun b q => A.le b (e.2 b q)⟩
theorem App3.one {h0 h g : Heap} {k : Kd} {s t : Sl} {xs : List (Den k)} {x : Den k} {j : Nat} (A : App3 h0 h g k s xs x j t) {sz bytes : Nat} (hsz : sz = k.size) (hone : k.flat = true) (hbt : bytes ≤ 64) (hl : xs.length ≤ 1000000000) (hj : j ≤ 64) {K : Sl → Heap → Prop}
    (hK : ∀ t' g', App3 h0 h g' k s xs x (j + 1) t' → Ext (blkOf t) g g' → (∀ b, blkOf t' b → blkOf t b ∨ g b = none) → K t' g') : new g ([x].flatMap (Kd.cells k)) fun p h1 => appendM sz bytes h1 t ⟨some p, 1, 1⟩ K := by
  obtain ⟨n, ar, n0, bg, le0⟩ := A
  have sc := n0.arr.2.1
  have sl := n0.len
  have tl := n.len
  rw [List.length_append, List.length_replicate] at tl
  have hbb : (t.len + 1) * bytes ≤ 140737488355328 := by
    have : (t.len + 1) * bytes ≤ (t.len + 1) * 64 := Nat.mul_le_mul_left _ hbt
    omega
  refine n.own.app4 n.len hone hsz hbb fun t2 g2 o2 tl2 x2 b2 z2 => ?_
  have n2 : New h0 g2 k t2 (xs ++ List.replicate (j + 1) x) := by
    refine ⟨?_, ?_, le_ext n.le x2 n.new, fun b hb => ?_⟩
    · rw [List.replicate_succ', ← List.append_assoc]; exact o2
    · rw [List.length_append, List.length_replicate]; omega
    · rcases b2 b hb with c | c
      · exact n.new b c
      · exact n.le.none c
  have ar2 : Arr g2 k s xs := by
    rcases z2 with z | z
    · by_cases e : t.a = s.a
      · exact n2.arr.pre3 (e.symm.trans z.symm) sl sc
      · refine Arr.ext x2 ar fun b hb hb2 => e ?_
        rw [n.own.addr3 hb2]
        by_cases hbs : blkOf s b
        · exact (n0.own.addr3 hbs).symm
        · exact absurd hb hbs
    · exact ar.le z
  refine hK t2 g2 ⟨n2, ar2, n0, fun b hb => ?_, fun b q => le0 b (x2.2 b q)⟩ x2 b2
  rcases b2 b hb with c | c
  · exact bg b c
  · exact .inr (le0 b c)

/-- Two lists are compared. -/
theorem cmpL3 {k : Kd} {sz : Nat} (hsz : sz = k.size) {tst : Den k → Den k → Bool} (ht : ∀ x, tst x x = false) {a b : Sl} {m : Nat} {h : Heap} {xs : List (Den k)} {Q : Bool → Heap → Prop} (ha : Arr h k a xs) (hb : Arr h k b xs) (hm : m = xs.length) (hn : xs.length ≤ 1000000000) {cont : Heap → Prop} (hQ : cont h) {body : ((Int × Unit) → Heap → Prop) → (Int × Unit) → Heap → Prop}
    (hbody : ∀ go6 s4 h5, body go6 s4 h5 = (((decide (s4.1 < (m : Int))) = true → (0 ≤ s4.1 ∧ s4.1 < (a.len : Int)) ∧ deref a.a fun a7 => (0 ≤ s4.1 ∧ s4.1 < (b.len : Int)) ∧ deref b.a fun a8 => ld k h5 (a7.add ((s4.1 : Int).toNat * sz)) fun t9 => ld k h5 (a8.add ((s4.1 : Int).toNat * sz)) fun t10 => (((tst t9 t10) = true → Q false h5) ∧ ((tst t9 t10) = false → go6 ((w64 (s4.1 + 1)), ()) h5))) ∧ ((decide (s4.1 < (m : Int))) = false → cont h5))) : Loop body (0, ()) h := by
  have h1 := ha.1
  have h2 := hb.1
  refine Loop.up xs.length (fun s => s.1) (fun i _ g => g = h) rfl rfl ?_
  rintro i ⟨i', u⟩ g go hi hc ⟨⟩ hgo
  dsimp only at hc; subst hc
  rw [hbody]
  refine ⟨fun e => ?_, fun _ => hQ⟩
  have e : (i : Int) < (m : Int) := of_decide_eq_true e
  have hlt : i < xs.length := by omega
  have hx : xs[i]? = some xs[i] := by simp [hlt]
  generalize xs[i] = x at hx
  obtain ⟨p, hp⟩ := ha.addr (by omega)
  obtain ⟨q, hq⟩ := hb.addr (by omega)
  rw [hp, hq]
  have hba : 0 ≤ (i : Int) ∧ (i : Int) < (a.len : Int) := ⟨by omega, by omega⟩
  have hbb : 0 ≤ (i : Int) ∧ (i : Int) < (b.len : Int) := ⟨by omega, by omega⟩
  refine ⟨hba, deref_some3 ⟨hbb, deref_some3 ?_⟩⟩
  rw [Int.toNat_natCast]
  refine ha.ldAt (i := i) hp hx hsz (hb.ldAt (i := i) hq hx hsz ⟨fun d => ?_, fun _ => hgo hlt _ _ (by show w64 ((i : Int) + 1) = _; rw [w64_of] <;> omega) rfl⟩)
  rw [ht] at d
  cases d
def Same3 (k : Kd) (c : Sl → Sl → Heap → (Bool → Heap → Prop) → Prop) : Prop := ∀ {a b : Sl} {h : Heap} {xs : List (Den k)} {Q : Bool → Heap → Prop}, Arr h k a xs → Arr h k b xs → xs.length ≤ 1000000000 → Q true h → c a b h Q
theorem sameC3_spec : Same3 KCl law3_sameCalls.M := by
  intro a b h xs Q ha hb hn hQ
  have h1 := ha.1
  have h2 := hb.1
  exact ⟨fun e => absurd (of_decide_eq_true e) (by omega), fun _ => cmpL3 (sz := 7) rfl (tst := fun x y => !(eqK KCl x y)) (fun x => by rw [eqK_refl KCl x rfl]; rfl) (m := a.len) ha hb h1.symm hn (cont := fun h => Q true h) hQ (fun go s h => rfl)⟩
theorem sameL3_spec : Same3 KAcc law3_sameLog.M := by
  intro a b h xs Q ha hb hn hQ
  have h1 := ha.1
  have h2 := hb.1
  exact ⟨fun e => absurd (of_decide_eq_true e) (by omega), fun _ => cmpL3 (sz := 6) rfl (tst := fun x y => !(eqK KAcc x y)) (fun x => by rw [eqK_refl KAcc x rfl]; rfl) (m := a.len) ha hb h1.symm hn (cont := fun h => Q true h) hQ (fun go s h => rfl)⟩
theorem sameI3_spec : Same3 ki law3_sameInts.M := by
  intro a b h xs Q ha hb hn hQ
  have h1 := ha.1
  have h2 := hb.1
  exact ⟨fun e => absurd (of_decide_eq_true e) (by omega), fun _ => cmpL3 (k := ki) (sz := 1) rfl (tst := fun x y => decide ((x : Int) ≠ y)) (fun x => decide_eq_false (fun z => z rfl)) (m := a.len) ha hb h1.symm hn (cont := fun h => Q true h) hQ (fun go s h => rfl)⟩
/-- A field of each element is written. -/
theorem fill3 {k kp : Kd} {sz off : Nat} (hsz : sz = k.size) (hone : kp.flat = true) (ho : off + kp.size ≤ k.size) {h0 h : Heap} {s : Sl} {xs : List (Den k)} (n : New h0 h k s xs) (hl : xs.length ≤ 1000000000) {v : Den kp} {f : Den k → Den k} (hf : ∀ y, k.cells (f y) = splice (k.cells y) off (kp.cells v)) {cont : Heap → Prop}
    (hQ : ∀ g, New h0 g k s (xs.map f) → Ext (blkOf s) h g → cont g) {body : ((Int × Unit) → Heap → Prop) → (Int × Unit) → Heap → Prop}
    (hbody : ∀ go s3 g, body go s3 g = (((decide (s3.1 < (s.len : Int))) = true → (0 ≤ s3.1 ∧ s3.1 < (s.len : Int)) ∧ deref s.a fun a64 => st kp g ((a64.add ((s3.1 : Int).toNat * sz)).add off) v fun h65 => go ((w64 (s3.1 + 1)), ()) h65) ∧ ((decide (s3.1 < (s.len : Int))) = false → cont g))) : Loop body (0, ()) h := by
  have sl := n.len
  refine Loop.up xs.length (fun t => t.1) (fun j _ g => New h0 g k s (mix j (xs.map f) xs) ∧ Ext (blkOf s) h g) rfl ⟨n, Ext.refl _ _⟩ ?_
  rintro j ⟨j', u⟩ g go hj hc ⟨nj, xj⟩ hgo
  dsimp only at hc; subst hc
  rw [hbody]
  have hmm : (xs.map f).length = xs.length := List.length_map ..
  refine ⟨fun d => ?_, fun d => ?_⟩
  · have d : (j : Int) < (s.len : Int) := of_decide_eq_true d
    have hb : 0 ≤ (j : Int) ∧ (j : Int) < (s.len : Int) := ⟨by omega, d⟩
    obtain ⟨p, hp⟩ := n.own.addr (by omega)
    have hlt : j < xs.length := by omega
    have hx : (mix j (xs.map f) xs)[j]? = some xs[j] := by
      unfold mix
      rw [List.getElem?_append_right (by simp; omega)]
      simp [Nat.min_eq_left (Nat.le_of_lt hlt), hlt]
    refine ⟨hb, ?_⟩
    rw [hp]
    refine deref_some3 ?_
    rw [Int.toNat_natCast]
    refine nj.stPart (k := k) (kp := kp) (y' := f xs[j]) (off := off) hp hx (hf _) ho hone hsz fun g2 n2 x2 => ?_
    rw [mix_set hmm (x := f xs[j]) (by rw [List.getElem?_map]; simp [hlt])] at n2
    exact hgo hlt _ _ (by show w64 ((j : Int) + 1) = _; rw [w64_of] <;> omega) ⟨n2, xj.trans x2⟩
  · have d : ¬ (j : Int) < (s.len : Int) := of_decide_eq_false d
    obtain rfl : j = xs.length := by omega
    have hma : mix xs.length (xs.map f) xs = xs.map f := mix_all hmm hmm
    rw [hma] at nj
    exact hQ g nj xj
/-- A field of each element is looked at. -/
theorem chk3 {k : Kd} {sz off : Nat} (hsz : sz = k.size) {h : Heap} {s : Sl} {ys : List (Den k)} (a : Arr h k s ys) (hl : ys.length ≤ 1000000000) {v : Int} (hv : ∀ y ∈ ys, PartAt k ki off y v) {Q : Bool → Heap → Prop} {cont : Heap → Prop} (hQ : cont h) {body : ((Int × Unit) → Heap → Prop) → (Int × Unit) → Heap → Prop}
    (hbody : ∀ go s3 g, body go s3 g = (((decide (s3.1 < (s.len : Int))) = true → (0 ≤ s3.1 ∧ s3.1 < (s.len : Int)) ∧ deref s.a fun a64 => ld ki g ((a64.add ((s3.1 : Int).toNat * sz)).add off) fun t => (((decide (t ≠ v)) = true → Q false g) ∧ ((decide (t ≠ v)) = false → go ((w64 (s3.1 + 1)), ()) g))) ∧ ((decide (s3.1 < (s.len : Int))) = false → cont g))) : Loop body (0, ()) h := by
  have sl := a.1
  refine Loop.up ys.length (fun t => t.1) (fun j _ g => g = h) rfl rfl ?_
  rintro j ⟨j', u⟩ g go hj hc ⟨⟩ hgo
  dsimp only at hc; subst hc
  rw [hbody]
  refine ⟨fun d => ?_, fun d => hQ⟩
  have d : (j : Int) < (s.len : Int) := of_decide_eq_true d
  have hb : 0 ≤ (j : Int) ∧ (j : Int) < (s.len : Int) := ⟨by omega, d⟩
  obtain ⟨p, hp⟩ := a.addr (by omega)
  have hlt : j < ys.length := by omega
  have hx : ys[j]? = some ys[j] := by simp [hlt]
  refine ⟨hb, ?_⟩
  rw [hp]
  refine deref_some3 ?_
  rw [Int.toNat_natCast]
  refine a.ldPart (kp := ki) (y := v) hp hx (hv _ (List.getElem_mem hlt)) hsz ⟨fun e => absurd rfl (of_decide_eq_true e), fun _ => hgo hlt _ _ (by show w64 ((j : Int) + 1) = _; rw [w64_of] <;> omega) rfl⟩
/-- A list is turned round where it lies. -/
theorem turn3 {k : Kd} {sz : Nat} (hsz : sz = k.size) (hone : k.flat = true) {h0 h : Heap} {s : Sl} {xs : List (Den k)} (n : New h0 h k s xs) (hl : xs.length ≤ 1000000000) {cont : Heap → Prop} (hQ : ∀ g xs', New h0 g k s xs' → xs'.length = xs.length → Ext (blkOf s) h g → cont g) {body : ((Int × Unit) → Heap → Prop) → (Int × Unit) → Heap → Prop}
    (hbody : ∀ go s1 g, body go s1 g = ((2 : Int) ≠ 0 ∧ (((decide (s1.1 < (w64 (Int.tdiv (s.len : Int) 2)))) = true → (0 ≤ s1.1 ∧ s1.1 < (s.len : Int)) ∧ deref s.a fun a117 => ld k g (a117.add ((s1.1 : Int).toNat * sz)) fun t118 => (0 ≤ (w64 ((w64 ((s.len : Int) - 1)) - s1.1)) ∧ (w64 ((w64 ((s.len : Int) - 1)) - s1.1)) < (s.len : Int)) ∧ deref s.a fun a119 => ld k g (a119.add (((w64 ((w64 ((s.len : Int) - 1)) - s1.1)) : Int).toNat * sz)) fun t120 =>
      (0 ≤ s1.1 ∧ s1.1 < (s.len : Int)) ∧ deref s.a fun a121 => st k g (a121.add ((s1.1 : Int).toNat * sz)) t120 fun h122 => (0 ≤ (w64 ((w64 ((s.len : Int) - 1)) - s1.1)) ∧ (w64 ((w64 ((s.len : Int) - 1)) - s1.1)) < (s.len : Int)) ∧ deref s.a fun a123 => st k h122 (a123.add (((w64 ((w64 ((s.len : Int) - 1)) - s1.1)) : Int).toNat * sz)) t118 fun h124 => go ((w64 (s1.1 + 1)), ()) h124) ∧ ((decide (s1.1 < (w64 (Int.tdiv (s.len : Int) 2)))) = false → cont g)))) : Loop body (0, ()) h := by
  have sl := n.len
  have hd : w64 (Int.tdiv (s.len : Int) 2) = ((s.len / 2 : Nat) : Int) := by
    rw [Int.tdiv_eq_ediv_of_nonneg (by omega), w64_of] <;> omega
  refine Loop.up (s.len / 2) (fun t => t.1) (fun j _ g => ∃ xs', New h0 g k s xs' ∧ xs'.length = xs.length ∧ Ext (blkOf s) h g) rfl ⟨xs, n, rfl, Ext.refl _ _⟩ ?_
  rintro j ⟨j', u⟩ g go hj hc ⟨xs', nj, lj, xj⟩ hgo
  dsimp only at hc; subst hc
  rw [hbody, hd]
  refine ⟨by decide, fun d => ?_, fun d => hQ g xs' nj lj xj⟩
  have d : (j : Int) < ((s.len / 2 : Nat) : Int) := of_decide_eq_true d
  have hw : w64 (w64 ((s.len : Int) - 1) - (j : Int)) = ((s.len - 1 - j : Nat) : Int) := by
    rw [w64_of (x := (s.len : Int) - 1) (by omega) (by omega), w64_of (by omega) (by omega)]; omega
  show (0 ≤ (j : Int) ∧ (j : Int) < (s.len : Int)) ∧ deref s.a fun a117 => ld k g (a117.add (((j : Nat) : Int).toNat * sz)) fun t118 => (0 ≤ (w64 ((w64 ((s.len : Int) - 1)) - (j : Int))) ∧ (w64 ((w64 ((s.len : Int) - 1)) - (j : Int))) < (s.len : Int)) ∧ deref s.a fun a119 => ld k g (a119.add (((w64 ((w64 ((s.len : Int) - 1)) - (j : Int))) : Int).toNat * sz)) fun t120 =>
      (0 ≤ (j : Int) ∧ (j : Int) < (s.len : Int)) ∧ deref s.a fun a121 => st k g (a121.add (((j : Nat) : Int).toNat * sz)) t120 fun h122 => (0 ≤ (w64 ((w64 ((s.len : Int) - 1)) - (j : Int))) ∧ (w64 ((w64 ((s.len : Int) - 1)) - (j : Int))) < (s.len : Int)) ∧ deref s.a fun a123 => st k h122 (a123.add (((w64 ((w64 ((s.len : Int) - 1)) - (j : Int))) : Int).toNat * sz)) t118 fun h124 => go ((w64 ((j : Int) + 1)), ()) h124
  rw [hw]
  have b1 : 0 ≤ (j : Int) ∧ (j : Int) < (s.len : Int) := ⟨by omega, by omega⟩
  have b2 : 0 ≤ ((s.len - 1 - j : Nat) : Int) ∧ ((s.len - 1 - j : Nat) : Int) < (s.len : Int) := ⟨by omega, by omega⟩
  refine ⟨b1, nj.arr.at (i := (j : Int)) b1.1 b1.2 hsz fun x hx => ⟨b2, nj.arr.at (i := ((s.len - 1 - j : Nat) : Int)) b2.1 b2.2 hsz fun y hy => ⟨b1, nj.set (i := (j : Int)) b1.1 b1.2 hone hsz fun g2 n2 x2 => ⟨b2, n2.set (i := ((s.len - 1 - j : Nat) : Int)) b2.1 b2.2 hone hsz fun g3 n3 x3 => ?_⟩⟩⟩⟩
  exact hgo (by omega) _ _ (by show w64 ((j : Int) + 1) = _; rw [w64_of] <;> omega) ⟨_, n3, by rw [List.length_set, List.length_set]; exact lj, xj.trans (x2.trans x3)⟩
end Go.Mx
