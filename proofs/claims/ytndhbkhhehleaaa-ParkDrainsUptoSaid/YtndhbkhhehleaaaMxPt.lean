/-
  Parts of elements of one's own slices: read and written.
-/
import Derived.Test.YtndhbkhhehleaaaMxOb
set_option linter.unusedVariables false
set_option linter.unusedSimpArgs false
namespace Go.Mx

theorem splice_mid (p c r l : List Value) (off : Nat) (h : off + l.length ≤ c.length) : splice (p ++ c ++ r) (p.length + off) l = p ++ splice c off l ++ r := by
  unfold splice
  rw [List.append_assoc p c r, List.take_length_add_append, show p.length + off + l.length = p.length + (off + l.length) from Nat.add_assoc .., List.drop_length_add_append,
    List.take_append_of_le_length (by omega), List.drop_append_of_le_length (by omega)]
  simp only [List.append_assoc]
theorem Own.stPart {h : Heap} {k kp : Kd} {s : Sl} {ys : List (Den k)} (o : Own h k s ys) {a : Addr} (ha : s.a = some a) {i : Nat} (h1 : i < s.len) {y y' : Den k} (hy : ys[i]? = some y) {v : Den kp} {off : Nat}
    (hc : k.cells y' = splice (k.cells y) off (kp.cells v)) (ho : off + kp.size ≤ k.size) (hone : kp.flat = true) {sz : Nat} (hsz : sz = k.size) {K : Heap → Prop}
    (hK : ∀ h', Own h' k s (ys.set i y') → Ext (blkOf s) h h' → K h') : st kp h ((a.add (i * sz)).add off) v K := by
  subst hsz
  rcases o with ⟨rfl, rfl⟩ | ⟨b, e1, e2, e3, z, e4, e5⟩
  · dsimp only at h1; omega
  · have hlt : i < ys.length := by omega
    have hle : i * k.size + k.size ≤ ys.length * k.size := by
      have : (i + 1) * k.size ≤ ys.length * k.size := Nat.mul_le_mul_right _ hlt
      rwa [Nat.succ_mul] at this
    rw [e1] at ha
    cases ha
    rw [add_none, Nat.zero_add, add_none]
    refine ⟨⟨rfl, _, e5, by rw [List.length_append, flat_len]; dsimp only; omega⟩, ?_⟩
    unfold flatOr
    rw [hone]
    obtain rfl : ys[i] = y := by simpa [hlt] using hy
    have hw : write h ⟨b, i * k.size + off, none⟩ (kp.cells v) = upd h b (.cells ((ys.set i y').flatMap k.cells ++ z) false) := by
      rw [write_eq (a := ⟨b, i * k.size + off, none⟩) e5]
      dsimp only
      obtain ⟨p, r, hp, hlen⟩ := flatMap_at k.cells k.size k.cells_len ys i ys[i] (by simp [hlt])
      have hset := splice_at (k := k) (ys := ys) (i := i) (y := y') hlt z
      rw [← hset]
      congr 2
      rw [hp, ← hlen, List.append_assoc (p ++ k.cells ys[i]) r z, splice_mid _ _ _ _ _ (by rw [Kd.cells_len, Kd.cells_len]; exact ho), ← hc]
      have := splice_mid p (k.cells ys[i]) (r ++ z) (k.cells y') 0 (by rw [Kd.cells_len, Kd.cells_len]; omega)
      rw [Nat.add_zero] at this
      rw [this]
      unfold splice
      rw [List.take_zero, List.nil_append, Nat.zero_add, List.drop_of_length_le (by rw [Kd.cells_len, Kd.cells_len]; exact Nat.le_refl _), List.append_nil]
    rw [hw]
    refine hK _ (.inr ⟨b, e1, by simp; exact e2, by simp; exact e3, z, by simp; exact e4, upd_same _ _ _⟩) ⟨fun c x hx hc => ?_, fun c hc => ?_⟩
    · rw [upd_ne _ _ (fun e => hc ⟨_, e1, e.symm⟩)]; exact hx
    · exact upd_none hc
theorem New.stPart {h0 h : Heap} {k kp : Kd} {s : Sl} {xs : List (Den k)} (o : New h0 h k s xs) {a : Addr} (ha : s.a = some a) {i : Nat} {y y' : Den k} (hy : xs[i]? = some y) {v : Den kp} {off : Nat}
    (hc : k.cells y' = splice (k.cells y) off (kp.cells v)) (ho : off + kp.size ≤ k.size) (hone : kp.flat = true) {sz : Nat} (hsz : sz = k.size) {K : Heap → Prop}
    (hK : ∀ h', New h0 h' k s (xs.set i y') → Ext (blkOf s) h h' → K h') : Go.Mx.st kp h ((a.add (i * sz)).add off) v K :=
  o.own.stPart ha (by have := o.len; have := (List.getElem?_eq_some_iff.1 hy).1; omega) hy hc ho hone hsz fun h' o' e => hK h' ⟨o', by rw [List.length_set]; exact o.len, le_ext o.le e o.new, o.new⟩ e
theorem New.stAt {h0 h : Heap} {k : Kd} {s : Sl} {xs : List (Den k)} (o : New h0 h k s xs) {a : Addr} (ha : s.a = some a) {i : Nat} (hi : i < xs.length) {y' : Den k} (hone : k.flat = true) {sz : Nat} (hsz : sz = k.size) {K : Heap → Prop}
    (hK : ∀ h', New h0 h' k s (xs.set i y') → Ext (blkOf s) h h' → K h') : Go.Mx.st k h (a.add (i * sz)) y' K := by
  have hl := o.len
  have := o.set (i := (i : Int)) (by omega) (by omega) (y := y') hone hsz (K := K) (by rw [Int.toNat_natCast]; exact hK)
  rw [ha, Int.toNat_natCast] at this
  exact this
theorem Arr.ldPart {h : Heap} {k kp : Kd} {s : Sl} {xs : List (Den k)} (c : Arr h k s xs) {a : Addr} (ha : s.a = some a) {i : Nat} {x : Den k} (hx : xs[i]? = some x) {y : Den kp} {off : Nat} (hp : PartAt k kp off x y) {sz : Nat} (hsz : sz = k.size) {K : Den kp → Prop} (hK : K y) : ld kp h ((a.add (i * sz)).add off) K := by
  obtain ⟨b, n, m⟩ := s
  cases ha
  obtain ⟨pre, post, e1, e2⟩ := hp
  refine ⟨y, ?_, hK⟩
  have := cellsAt_el c.2.2 hx
  rw [e1] at this
  rw [hsz]
  exact cellsAt_part this e2
theorem Arr.ldAt {h : Heap} {k : Kd} {s : Sl} {xs : List (Den k)} (c : Arr h k s xs) {a : Addr} (ha : s.a = some a) {i : Nat} {x : Den k} (hx : xs[i]? = some x) {sz : Nat} (hsz : sz = k.size) {K : Den k → Prop} (hK : K x) : ld k h (a.add (i * sz)) K := by
  obtain ⟨b, n, m⟩ := s
  cases ha
  exact ⟨x, by rw [hsz]; exact cellsAt_el c.2.2 hx, hK⟩
theorem Own.addr {h : Heap} {k : Kd} {s : Sl} {xs : List (Den k)} (o : Own h k s xs) (hl : 0 < s.len) : ∃ a, s.a = some a := by
  rcases o with ⟨rfl, _⟩ | ⟨b, e1, _⟩
  · exact absurd hl (Nat.lt_irrefl 0)
  · exact ⟨_, e1⟩
theorem Arr.addr {h : Heap} {k : Kd} {s : Sl} {xs : List (Den k)} (c : Arr h k s xs) (hl : 0 < s.len) : ∃ a, s.a = some a := by
  obtain ⟨b, n, m⟩ := s
  cases b with
  | none => have := c.2.2; dsimp only at this hl; omega
  | some a => exact ⟨a, rfl⟩
end Go.Mx
