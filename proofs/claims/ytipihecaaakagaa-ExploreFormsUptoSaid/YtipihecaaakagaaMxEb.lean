/-
  Scenes in memory of their own; parts of elements; what moved, back, marked and alike come to.
-/
import Derived.Test.YtipihecaaakagaaMxEa
import Derived.Test.YtipihecaaakagaaMxOb
set_option linter.unusedVariables false
set_option linter.unusedSimpArgs false
namespace Go.Mx

/-! ### slices with a hidden element behind them -/
/-- A slice of xs, with one hidden element behind it. -/
structure BayK (h0 h : Heap) (k : Kd) (s : Sl) (xs : List (Den k)) (m : Den k) : Prop where
  own : Own h k s (xs ++ [m])
  len : xs.length = s.len
  cap : s.len + 1 ≤ s.cap
  le : le h0 h
  new : ∀ b, blkOf s b → h0 b = none
theorem cut_zero (s : Sl) (n sz : Nat) : s.cut 0 n sz = ⟨s.a, n, s.cap⟩ := by
  unfold Sl.cut
  have : (if s.cap = 0 then s.a else s.a.map (·.add (0 * sz))) = s.a := by
    split
    · rfl
    · rw [Nat.zero_mul]
      cases s.a <;> rfl
  rw [this]; rfl
theorem New.bay {h0 h : Heap} {k : Kd} {t : Sl} {xs : List (Den k)} {m : Den k} (o : New h0 h k t (xs ++ [m])) {n sz : Nat} (e : xs.length = n) : BayK h0 h k (t.cut 0 n sz) xs m := by
  rw [cut_zero]
  have hl := o.len
  rw [List.length_append, e] at hl
  rcases o.own with ⟨_, e⟩ | ⟨b, e1, e2, e3, e4⟩
  · simp at e
  · rw [List.length_append, e] at e3
    exact ⟨.inr ⟨b, e1, by simp; omega, by simpa [e] using e3, e4⟩, e, e3, o.le, fun q hq => o.new q hq⟩
theorem BayK.arr {h0 h : Heap} {k : Kd} {s : Sl} {xs : List (Den k)} {m : Den k} (o : BayK h0 h k s xs m) : Arr h k s xs := by
  have := o.own.arr
  rwa [← o.len, List.take_left' rfl] at this
theorem BayK.ext {h0 h h' : Heap} {k : Kd} {s : Sl} {xs : List (Den k)} {m : Den k} (o : BayK h0 h k s xs m) {S : Nat → Prop} (e : Ext S h h') (n : ∀ b, blkOf s b → ¬ S b) (f : ∀ b, S b → h0 b = none) : BayK h0 h' k s xs m :=
  ⟨o.own.ext e n, o.len, o.cap, le_ext o.le e f, o.new⟩
theorem BayK.more {h0 h h' : Heap} {k : Kd} {s : Sl} {xs : List (Den k)} {m : Den k} (o : BayK h0 h k s xs m) (l : Go.Mx.le h h') : BayK h0 h' k s xs m := ⟨o.own.le l, o.len, o.cap, o.le.trans l, o.new⟩
theorem BayK.room {h0 h : Heap} {k : Kd} {s : Sl} {xs : List (Den k)} {m : Den k} (o : BayK h0 h k s xs m) {sz : Nat} : Arr h k (s.cut 0 (s.len + 1) sz) (xs ++ [m]) := by
  rw [cut_zero]
  have ho : Own h k ⟨s.a, s.len + 1, s.cap⟩ (xs ++ [m]) := by
    rcases o.own with ⟨_, e⟩ | ⟨b, e1, e2, e3, e4⟩
    · simp at e
    · exact .inr ⟨b, e1, by simp [o.len], e3, e4⟩
  exact ho.full (by simp [o.len])
theorem BayK.base {h0 h1 h : Heap} {k : Kd} {s : Sl} {xs : List (Den k)} {m : Den k} (o : BayK h1 h k s xs m) (l : Go.Mx.le h0 h1) : BayK h0 h k s xs m := ⟨o.own, o.len, o.cap, l.trans o.le, fun b hb => l.none (o.new b hb)⟩
/-! ### parts of elements -/
theorem splice_in (p c r l : List Value) (off : Nat) (h : off + l.length ≤ c.length) : splice (p ++ c ++ r) (p.length + off) l = p ++ splice c off l ++ r := by
  unfold splice
  rw [List.append_assoc p c r, List.take_length_add_append, show p.length + off + l.length = p.length + (off + l.length) from Nat.add_assoc .., List.drop_length_add_append,
    List.take_append_of_le_length (by omega), List.drop_append_of_le_length (by omega)]
  simp only [List.append_assoc]

/-- A part of an element of one's own slice is written. -/
theorem Own.setPart {h : Heap} {k kp : Kd} {s : Sl} {ys : List (Den k)} (o : Own h k s ys) {i : Int} (h0 : 0 ≤ i) (h1 : i < (s.len : Int)) {y y' : Den k} (hy : ys[i.toNat]? = some y) {v : Den kp} {off : Nat}
    (hc : k.cells y' = splice (k.cells y) off (kp.cells v)) (ho : off + kp.size ≤ k.size) (hone : kp.flat = true) {sz : Nat} (hsz : sz = k.size) {K : Heap → Prop}
    (hK : ∀ h', Own h' k s (ys.set i.toNat y') → Ext (blkOf s) h h' → K h') : deref s.a fun a => st kp h ((a.add (i.toNat * sz)).add off) v K := by
  subst hsz
  rcases o with ⟨rfl, rfl⟩ | ⟨b, e1, e2, e3, z, e4, e5⟩
  · dsimp only at h1; omega
  · have hlt : i.toNat < ys.length := by omega
    have hle : i.toNat * k.size + k.size ≤ ys.length * k.size := by
      have : (i.toNat + 1) * k.size ≤ ys.length * k.size := Nat.mul_le_mul_right _ hlt
      rwa [Nat.succ_mul] at this
    rw [e1]
    show st kp h (((⟨b, 0, none⟩ : Addr).add (i.toNat * k.size)).add off) v K
    rw [add_none, Nat.zero_add, add_none]
    refine ⟨⟨rfl, _, e5, by rw [List.length_append, flat_len]; dsimp only; omega⟩, ?_⟩
    unfold flatOr
    rw [hone]
    obtain rfl : ys[i.toNat] = y := by simpa [hlt] using hy
    have hw : write h ⟨b, i.toNat * k.size + off, none⟩ (kp.cells v) = upd h b (.cells ((ys.set i.toNat y').flatMap k.cells ++ z) false) := by
      rw [write_eq (a := ⟨b, i.toNat * k.size + off, none⟩) e5]
      dsimp only
      obtain ⟨p, r, hp, hlen⟩ := flatMap_at k.cells k.size k.cells_len ys i.toNat ys[i.toNat] (by simp [hlt])
      have hset := splice_at (k := k) (ys := ys) (i := i.toNat) (y := y') hlt z
      rw [← hset]
      congr 2
      rw [hp, ← hlen, List.append_assoc (p ++ k.cells ys[i.toNat]) r z, splice_in _ _ _ _ _ (by rw [Kd.cells_len, Kd.cells_len]; exact ho), ← hc]
      have := splice_in p (k.cells ys[i.toNat]) (r ++ z) (k.cells y') 0 (by rw [Kd.cells_len, Kd.cells_len]; omega)
      rw [Nat.add_zero] at this
      rw [this]
      unfold splice
      rw [List.take_zero, List.nil_append, Nat.zero_add, List.drop_of_length_le (by rw [Kd.cells_len, Kd.cells_len]; exact Nat.le_refl _), List.append_nil]
    rw [hw]
    refine hK _ (.inr ⟨b, e1, by simp; exact e2, by simp; exact e3, z, by simp; exact e4, upd_same _ _ _⟩) ⟨fun c x hx hc => ?_, fun c hc => ?_⟩
    · rw [upd_ne _ _ (fun e => hc ⟨_, e1, e.symm⟩)]; exact hx
    · exact upd_none hc

theorem BayK.set {h0 h : Heap} {k : Kd} {s : Sl} {xs : List (Den k)} {m : Den k} (o : BayK h0 h k s xs m) {i : Int} (q0 : 0 ≤ i) (q1 : i < (s.len : Int)) {y : Den k} (hone : k.flat = true) {sz : Nat} (hsz : sz = k.size) {K : Heap → Prop}
    (hK : ∀ h', BayK h0 h' k s (xs.set i.toNat y) m → Ext (blkOf s) h h' → K h') : deref s.a fun a => st k h (a.add (i.toNat * sz)) y K := by
  refine o.own.set q0 q1 hone hsz fun h' a b => hK h' ⟨?_, by rw [List.length_set]; exact o.len, o.cap, le_ext o.le b o.new, o.new⟩ b
  rwa [List.set_append_left _ _ (by rw [o.len]; omega)] at a
theorem BayK.setPart {h0 h : Heap} {k kp : Kd} {s : Sl} {xs : List (Den k)} {m : Den k} (o : BayK h0 h k s xs m) {i : Int} (q0 : 0 ≤ i) (q1 : i < (s.len : Int)) {y y' : Den k} (hy : xs[i.toNat]? = some y) {v : Den kp} {off : Nat}
    (hc : k.cells y' = splice (k.cells y) off (kp.cells v)) (ho : off + kp.size ≤ k.size) (hone : kp.flat = true) {sz : Nat} (hsz : sz = k.size) {K : Heap → Prop}
    (hK : ∀ h', BayK h0 h' k s (xs.set i.toNat y') m → Ext (blkOf s) h h' → K h') : deref s.a fun a => st kp h ((a.add (i.toNat * sz)).add off) v K := by
  have hl : i.toNat < xs.length := by rw [o.len]; omega
  refine o.own.setPart q0 q1 (by rw [List.getElem?_append_left hl]; exact hy) hc ho hone hsz fun h' a b => hK h' ⟨?_, by rw [List.length_set]; exact o.len, o.cap, le_ext o.le b o.new, o.new⟩ b
  rwa [List.set_append_left _ _ hl] at a

/-! ### scenes -/
/-- A scene that may be read. -/
def ScR (h : Heap) (s : Sc) (bs : List Int) (xss : List (List Ac)) : Prop :=
  Arr h ki s.2.1 bs ∧ ∃ sls : List Sl, Arr h .sl s.2.2.1 sls ∧ sls.length = xss.length ∧ ∀ (i : Nat) sl xs, sls[i]? = some sl → xss[i]? = some xs → Arr h kapiAct sl xs
theorem ScR.le {h h' : Heap} (l : le h h') {s : Sc} {bs : List Int} {xss : List (List Ac)} (r : ScR h s bs xss) : ScR h' s bs xss := by
  obtain ⟨a, sls, b, c, d⟩ := r
  exact ⟨a.le l, sls, b.le l, c, fun i sl xs e f => (d i sl xs e f).le l⟩
abbrev amark : Ac := (0, ((-77), (0, (0, (0, ())))))

/-- A scene in memory of its own, made since h0. -/
structure Scn (h0 h : Heap) (c : Sc) (cls : List Sl) (mk : Sl) (bs : List Int) (xss : List (List Ac)) : Prop where
  beg : BayK h0 h ki c.2.1 bs (-77)
  ls : BayK h0 h .sl c.2.2.1 cls mk
  lone : New h0 h kapiAct mk [amark]
  len : cls.length = xss.length
  row : ∀ (i : Nat) sl xs, cls[i]? = some sl → xss[i]? = some xs → BayK h0 h kapiAct sl xs amark
  sep : List.Pairwise Apart (c.2.1 :: c.2.2.1 :: mk :: cls)
theorem Scn.read {h0 h c cls mk bs xss} (o : Scn h0 h c cls mk bs xss) : ScR h c bs xss :=
  ⟨o.beg.arr, cls, o.ls.arr, o.len, fun i sl xs a b => (o.row i sl xs a b).arr⟩
theorem Scn.more {h0 h h' c cls mk bs xss} (o : Scn h0 h c cls mk bs xss) (l : Go.Mx.le h h') : Scn h0 h' c cls mk bs xss :=
  ⟨o.beg.more l, o.ls.more l, o.lone.more l, o.len, fun i sl xs a b => (o.row i sl xs a b).more l, o.sep⟩
theorem Scn.base {h0 h c cls mk bs xss} (o : Scn h0 h c cls mk bs xss) : le h0 h := o.beg.le
theorem Scn.begin {h0 h h' c cls mk bs xss} (o : Scn h0 h c cls mk bs xss) {bs' : List Int} (b : BayK h0 h' ki c.2.1 bs' (-77)) (e : Ext (blkOf c.2.1) h h') : Scn h0 h' c cls mk bs' xss := by
  have hs := List.pairwise_cons.1 o.sep
  have hn : ∀ t ∈ c.2.2.1 :: mk :: cls, ∀ b, blkOf t b → ¬ blkOf c.2.1 b := fun t ht b x y => hs.1 t ht b y x
  exact ⟨b, o.ls.ext e (hn _ (by simp)) o.beg.new, o.lone.ext e (hn _ (by simp)) o.beg.new, o.len, fun i sl xs x y => (o.row i sl xs x y).ext e (hn _ (by simp [List.mem_of_getElem? x])) o.beg.new, o.sep⟩
theorem Scn.rowed {h0 h h' c cls mk bs xss} (o : Scn h0 h c cls mk bs xss) {i : Nat} {sl : Sl} {xs' : List Ac} (hi : cls[i]? = some sl) (b : BayK h0 h' kapiAct sl xs' amark) (e : Ext (blkOf sl) h h') :
    Scn h0 h' c cls mk bs (xss.set i xs') := by
  obtain ⟨s1, s2⟩ := List.pairwise_cons.1 o.sep
  obtain ⟨s2, s3⟩ := List.pairwise_cons.1 s2
  obtain ⟨s3, s4⟩ := List.pairwise_cons.1 s3
  have hm : sl ∈ cls := List.mem_of_getElem? hi
  refine ⟨o.beg.ext e (fun b x y => s1 sl (by simp [hm]) b x y) b.new, o.ls.ext e (fun b x y => s2 sl (by simp [hm]) b x y) b.new, o.lone.ext e (fun b x y => s3 sl hm b x y) b.new, by rw [List.length_set]; exact o.len, fun j tl ys x y => ?_, o.sep⟩
  by_cases c : j = i
  · subst c
    rw [hi] at x; cases x
    rw [List.getElem?_set_self (by rw [← o.len]; exact (List.getElem?_eq_some_iff.1 hi).1)] at y
    cases y
    exact b
  · rw [List.getElem?_set_ne (fun e => c e.symm)] at y
    refine (o.row j tl ys x y).ext e (fun z p q => ?_) b.new
    obtain ⟨hj, rfl⟩ := List.getElem?_eq_some_iff.1 x
    obtain ⟨hi', rfl⟩ := List.getElem?_eq_some_iff.1 hi
    rw [List.pairwise_iff_getElem] at s4
    rcases Nat.lt_or_gt_of_ne c with c | c
    · exact s4 j i hj hi' c z p q
    · exact s4 i j hi' hj c z q p

theorem ac_kind (x : Ac) : ∃ pre post, Kd.cells kapiAct x = pre ++ Kd.cells ki x.2.1 ++ post ∧ pre.length = 1 := ⟨[.int .i64 x.1], _, rfl, rfl⟩
theorem ac_val (x : Ac) : ∃ pre post, Kd.cells kapiAct x = pre ++ Kd.cells ki x.2.2.2.1 ++ post ∧ pre.length = 3 := ⟨[.int .i64 x.1, .int .i64 x.2.1, .int .i64 x.2.2.1], _, rfl, rfl⟩

end Go.Mx
