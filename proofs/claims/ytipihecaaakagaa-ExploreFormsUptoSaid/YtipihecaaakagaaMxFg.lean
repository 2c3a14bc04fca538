/-
  Slices that are made longer while their beginnings may still be read.
-/
import Derived.Test.YtipihecaaakagaaMxNe
import Derived.Test.YtipihecaaakagaaMxEc
set_option linter.unusedVariables false
set_option linter.unusedSimpArgs false
namespace Go.Mx

theorem Own.addrB {h : Heap} {k : Kd} {s : Sl} {ys : List (Den k)} (o : Own h k s ys) {x : Nat} (hx : blkOf s x) : s.a = some ⟨x, 0, none⟩ := by
  rcases o with ⟨rfl, _⟩ | ⟨b, e, _⟩
  · exact absurd hx no_blk
  · obtain ⟨a, q, rfl⟩ := hx
    rw [e] at q; cases q
    exact e
theorem Arr.pre' {h : Heap} {k : Kd} {s t : Sl} {xs ys : List (Den k)} (c : Arr h k t (xs ++ ys)) (e : s.a = t.a) (hl : xs.length = s.len) (hc : s.len ≤ s.cap) : Arr h k s xs := by
  obtain ⟨sa, sn, sc⟩ := s
  obtain ⟨ta, tn, tc⟩ := t
  obtain rfl : sa = ta := e
  obtain ⟨c1, c2, c3⟩ := c
  cases sa with
  | none =>
    refine ⟨hl, hc, ?_⟩
    have c3 : tn = 0 := c3
    rw [List.length_append] at c1
    dsimp only at c1 hl ⊢
    omega
  | some a =>
    refine ⟨hl, hc, ?_⟩
    have c3 : cellsAt h a ((xs ++ ys).flatMap k.cells) := c3
    rw [List.flatMap_append] at c3
    exact (cellsAt_append c3).1

/-- sl may be read; t is it made longer, one's own. -/
structure Long (h0 h : Heap) (k : Kd) (sl t : Sl) (row ext : List (Den k)) : Prop where
  rd : Arr h k sl row
  own : New h0 h k t (row ++ ext)
  fr : ∀ x, blkOf sl x → h0 x = none
  lv : ∀ x, blkOf sl x → h x ≠ none
  al : sl.a = t.a ∨ ∀ x, blkOf sl x → ¬ blkOf t x
def fpR (sl t : Sl) : Nat → Prop := fun x => blkOf sl x ∨ blkOf t x
theorem Long.of {h0 h k sl row} (n : New h0 h k sl row) : Long h0 h k sl sl row [] := ⟨n.arr, by rw [List.append_nil]; exact n, n.new, n.own.live, .inl rfl⟩
theorem Long.ext {h0 h h' k sl t row ext} (p : Long h0 h k sl t row ext) {S : Nat → Prop} (e : Ext S h h') (d : ∀ x, fpR sl t x → ¬ S x) (f : ∀ x, S x → h0 x = none) : Long h0 h' k sl t row ext :=
  ⟨p.rd.ext e (fun x q => d x (.inl q)), p.own.ext e (fun x q => d x (.inr q)) f, p.fr, fun x q c => p.lv x q (e.2 x c), p.al⟩
theorem Long.fresh {h0 h k sl t row ext} (p : Long h0 h k sl t row ext) {x : Nat} (hx : fpR sl t x) : h0 x = none := by
  rcases hx with q | q
  · exact p.fr x q
  · exact p.own.new x q
theorem Long.live {h0 h k sl t row ext} (p : Long h0 h k sl t row ext) {x : Nat} (hx : fpR sl t x) : h x ≠ none := by
  rcases hx with q | q
  · exact p.lv x q
  · exact p.own.own.live x q
theorem Long.app {h0 h k sl t row ext} (p : Long h0 h k sl t row ext) {x : Den k} (hone : k.flat = true) {sz bytes : Nat} (hsz : sz = k.size) (hb : (t.len + 1) * bytes ≤ 140737488355328) {K : Sl → Heap → Prop}
    (hK : ∀ t' h', Long h0 h' k sl t' row (ext ++ [x]) → Step (fpR sl t) (fpR sl t') h h' → K t' h') : Go.Mx.new h ([x].flatMap k.cells) fun p h1 => appendM sz bytes h1 t ⟨some p, 1, 1⟩ K := by
  refine p.own.own.app4 p.own.len hone hsz hb fun t' h' o' l' x' b' d' => ?_
  have hl : ((row ++ ext) ++ [x]).length = t'.len := by rw [List.length_append, l', p.own.len]; rfl
  have n' : New h0 h' k t' (row ++ (ext ++ [x])) := by
    rw [← List.append_assoc]
    exact ⟨o', hl, le_ext p.own.le x' p.own.new, fun b hb => by
      rcases b' b hb with c | c
      · exact p.own.new b c
      · exact p.own.le.none c⟩
  have st : Step (fpR sl t) (fpR sl t') h h' := by
    refine ⟨x'.mono (fun x q => .inr q), fun x q => ?_⟩
    rcases q with q | q
    · exact .inl (.inl q)
    · rcases b' x q with c | c
      · exact .inl (.inr c)
      · exact .inr c
  have lv' : ∀ x, blkOf sl x → h' x ≠ none := fun x q c => p.lv x q (x'.2 x c)
  by_cases hta : t'.a = t.a
  · rcases p.al with c | c
    · refine hK t' h' ⟨n'.arr.pre' (c.trans hta.symm) p.rd.1 p.rd.2.1, n', p.fr, lv', .inl (c.trans hta.symm)⟩ st
    · refine hK t' h' ⟨p.rd.ext x' c, n', p.fr, lv', .inr fun x q r => c x q ?_⟩ st
      obtain ⟨a, e, f⟩ := r
      exact ⟨a, hta ▸ e, f⟩
  · refine hK t' h' ⟨p.rd.le (d'.resolve_left hta), n', p.fr, lv', .inr fun x q r => ?_⟩ st
    rcases b' x r with c | c
    · exact hta ((o'.addrB r).trans (p.own.own.addrB c).symm)
    · exact p.lv x q c

structure Longs (h0 h : Heap) (k : Kd) (els ts : List Sl) (rows exts : List (List (Den k))) : Prop where
  l1 : ts.length = els.length
  l2 : rows.length = els.length
  l3 : exts.length = els.length
  row : ∀ (i : Nat) sl t row ext, els[i]? = some sl → ts[i]? = some t → rows[i]? = some row → exts[i]? = some ext → Long h0 h k sl t row ext
  sep : ∀ (i j : Nat) a b c d, i ≠ j → els[i]? = some a → ts[i]? = some b → els[j]? = some c → ts[j]? = some d → ∀ x, fpR a b x → ¬ fpR c d x
def fpP (els ts : List Sl) : Nat → Prop := fun x => ∃ (i : Nat) (a b : Sl), els[i]? = some a ∧ ts[i]? = some b ∧ fpR a b x

theorem Longs.row' {h0 h k els ts rows exts} (p : Longs h0 h k els ts rows exts) {i : Nat} {a b : Sl} (ha : els[i]? = some a) (hb : ts[i]? = some b) : ∃ row ext, rows[i]? = some row ∧ exts[i]? = some ext ∧ Long h0 h k a b row ext := by
  have hi := (List.getElem?_eq_some_iff.1 ha).1
  have e1 : rows[i]? = some (rows[i]'(by rw [p.l2]; exact hi)) := by simp
  have e2 : exts[i]? = some (exts[i]'(by rw [p.l3]; exact hi)) := by simp
  exact ⟨_, _, e1, e2, p.row i a b _ _ ha hb e1 e2⟩
theorem Longs.fresh {h0 h k els ts rows exts} (p : Longs h0 h k els ts rows exts) {x : Nat} (hx : fpP els ts x) : h0 x = none := by
  obtain ⟨i, a, b, ha, hb, q⟩ := hx
  obtain ⟨_, _, _, _, r⟩ := p.row' ha hb
  exact r.fresh q
theorem Longs.live {h0 h k els ts rows exts} (p : Longs h0 h k els ts rows exts) {x : Nat} (hx : fpP els ts x) : h x ≠ none := by
  obtain ⟨i, a, b, ha, hb, q⟩ := hx
  obtain ⟨_, _, _, _, r⟩ := p.row' ha hb
  exact r.live q
theorem Longs.ext {h0 h h' k els ts rows exts} (p : Longs h0 h k els ts rows exts) {S : Nat → Prop} (e : Ext S h h') (d : ∀ x, fpP els ts x → ¬ S x) (f : ∀ x, S x → h0 x = none) : Longs h0 h' k els ts rows exts :=
  ⟨p.l1, p.l2, p.l3, fun i sl t row ext a b c g => (p.row i sl t row ext a b c g).ext e (fun x q => d x ⟨i, sl, t, a, b, q⟩) f, p.sep⟩
theorem Longs.of {h0 h k o els rows} (n : Nest h0 h k o els rows) : Longs h0 h k els els rows (List.replicate els.length []) := by
  refine ⟨rfl, n.len.symm, by simp, fun i sl t row ext a b c d => ?_, fun i j a b c d hij ha hb hc hd x q r => ?_⟩
  · rw [a] at b; cases b
    rw [List.eq_of_mem_replicate (List.mem_of_getElem? d)]
    exact .of (n.row i sl row a c)
  · rw [ha] at hb; cases hb
    rw [hc] at hd; cases hd
    have q : blkOf a x := q.elim id id
    have r : blkOf c x := r.elim id id
    obtain ⟨_, s2⟩ := List.pairwise_cons.1 n.sep
    obtain ⟨hi, rfl⟩ := List.getElem?_eq_some_iff.1 ha
    obtain ⟨hj, rfl⟩ := List.getElem?_eq_some_iff.1 hc
    rw [List.pairwise_iff_getElem] at s2
    rcases Nat.lt_or_gt_of_ne hij with c | c
    · exact s2 i j hi hj c x q r
    · exact s2 j i hj hi c x r q
/-- One of them is made longer. -/
theorem Longs.put {h0 h h' k els ts rows exts} (p : Longs h0 h k els ts rows exts) {i : Nat} {sl t t' : Sl} {row ext' : List (Den k)} (ha : els[i]? = some sl) (hb : ts[i]? = some t) (hr : rows[i]? = some row)
    (q : Long h0 h' k sl t' row ext') (s : Step (fpR sl t) (fpR sl t') h h') : Longs h0 h' k els (ts.set i t') rows (exts.set i ext') ∧ Step (fpP els ts) (fpP els (ts.set i t')) h h' := by
  have hi := (List.getElem?_eq_some_iff.1 hb).1
  have fr : ∀ x, fpR sl t x → h0 x = none := fun x c => p.fresh ⟨i, sl, t, ha, hb, c⟩
  have at' : ∀ (j : Nat) d, (ts.set i t')[j]? = some d → (j = i ∧ d = t') ∨ (j ≠ i ∧ ts[j]? = some d) := fun j d e => by
    by_cases c : i = j
    · subst c; rw [List.getElem?_set_self hi] at e; cases e; exact .inl ⟨rfl, rfl⟩
    · rw [List.getElem?_set_ne c] at e; exact .inr ⟨fun q => c q.symm, e⟩
  have off : ∀ (j : Nat) a d, j ≠ i → els[j]? = some a → ts[j]? = some d → ∀ x, fpR a d x → ¬ fpR sl t' x := fun j a d hj e1 e2 =>
    s.off (fun x u v => p.sep j i a d sl t hj e1 e2 ha hb x u v) (fun x u => p.live ⟨j, a, d, e1, e2, u⟩)
  refine ⟨⟨by rw [List.length_set]; exact p.l1, p.l2, by rw [List.length_set]; exact p.l3, fun j a d r e h1 h2 h3 h4 => ?_, fun j m a b c d hij h1 h2 h3 h4 => ?_⟩, s.1.mono (fun x c => ⟨i, sl, t, ha, hb, c⟩), fun x c => ?_⟩
  · rcases at' j d h2 with ⟨rfl, rfl⟩ | ⟨hj, h2⟩
    · rw [ha] at h1; cases h1
      rw [hr] at h3; cases h3
      rw [List.getElem?_set_self (by rw [p.l3, ← p.l1]; exact hi)] at h4; cases h4
      exact q
    · rw [List.getElem?_set_ne (fun e => hj e.symm)] at h4
      exact (p.row j a d r e h1 h2 h3 h4).ext s.1 (fun x u v => p.sep j i a d sl t hj h1 h2 ha hb x u v) fr
  · rcases at' j b h2 with ⟨e1, e2⟩ | ⟨hj, h2'⟩
    · rcases at' m d h4 with ⟨e3, e4⟩ | ⟨hm, h4'⟩
      · exact absurd (e1.trans e3.symm) hij
      · rw [e1, ha] at h1; cases h1
        rw [e2]
        exact fun x u v => off m c d hm h3 h4' x v u
    · rcases at' m d h4 with ⟨e3, e4⟩ | ⟨hm, h4'⟩
      · rw [e3, ha] at h3; cases h3
        rw [e4]
        exact off j a b hj h1 h2'
      · exact p.sep j m a b c d hij h1 h2' h3 h4'
  · obtain ⟨j, a, d, h1, h2, u⟩ := c
    rcases at' j d h2 with ⟨rfl, rfl⟩ | ⟨hj, h2⟩
    · rw [ha] at h1; cases h1
      rcases s.2 x u with v | v
      · exact .inl ⟨j, _, t, ha, hb, v⟩
      · exact .inr v
    · exact .inl ⟨j, a, d, h1, h2, u⟩

/-- An element of a row is written. -/
theorem Nest.setEl {h0 h : Heap} {k : Kd} {o : Sl} {els : List Sl} {xss : List (List (Den k))} (n : Nest h0 h k o els xss) {i : Nat} {sl : Sl} {row : List (Den k)} (hs : els[i]? = some sl) (hr : xss[i]? = some row) {j : Int} (q0 : 0 ≤ j) (q1 : j < (sl.len : Int)) {y : Den k} (hone : k.flat = true)
    {sz : Nat} (hsz : sz = k.size) {K : Heap → Prop} (hK : ∀ h', Nest h0 h' k o els (xss.set i (row.set j.toNat y)) → Ext (fpN o els) h h' → K h') : deref sl.a fun a => Go.Mx.st k h (a.add (j.toNat * sz)) y K := by
  obtain ⟨s1, s2⟩ := List.pairwise_cons.1 n.sep
  have hm : sl ∈ els := List.mem_of_getElem? hs
  have r0 := n.row i sl row hs hr
  refine r0.set q0 q1 hone hsz fun h2 r2 x2 => hK h2 ⟨n.out.ext x2 (fun b x y => s1 sl hm b x y) r0.new, by rw [List.length_set]; exact n.len, fun m a b u v => ?_, n.sep⟩ (x2.mono (fun x q => .inr ⟨sl, hm, q⟩))
  by_cases c : i = m
  · subst c
    rw [hs] at u; cases u
    rw [List.getElem?_set_self (by rw [← n.len]; exact (List.getElem?_eq_some_iff.1 hs).1)] at v; cases v
    exact r2
  · rw [List.getElem?_set_ne c] at v
    refine (n.row m a b u v).ext x2 (fun z p q => ?_) r0.new
    obtain ⟨hi, rfl⟩ := List.getElem?_eq_some_iff.1 hs
    obtain ⟨hj, rfl⟩ := List.getElem?_eq_some_iff.1 u
    rw [List.pairwise_iff_getElem] at s2
    rcases Nat.lt_or_gt_of_ne c with d | d
    · exact s2 i m hi hj d z q p
    · exact s2 m i hj hi d z p q

/-- The first n rows hold what they are to hold. -/
def Fil {α : Type} (F : Nat → Nat → α) (n : Nat) (yss : List (List α)) : Prop := ∀ (i : Nat) row (j : Nat) x, i < n → yss[i]? = some row → row[j]? = some x → x = F i j

theorem take_set_succ {α : Type} (l : List α) {i : Nat} (h : i < l.length) (x : α) : (l.set i x).take (i + 1) = l.take i ++ [x] := by
  rw [take_succ' _ (by simpa using h), List.getElem_set_self, List.take_set_of_le (Nat.le_refl i)]

/-- The rows, some of them made longer, and the list of what they were made. -/
structure Ph (h0 h k : Heap) (kd : Kd) (o : Sl) (els ts : List Sl) (yss exts : List (List (Den kd))) (m : Sl) (ms : List Sl) : Prop where
  lg : Longs h0 k kd els ts yss exts
  out : New h0 k .sl o els
  mo : New h0 k .sl m ms
  d1 : ∀ x, blkOf o x → ¬ fpP els ts x
  d2 : ∀ x, blkOf m x → ¬ fpP els ts x
  d3 : ∀ x, blkOf m x → ¬ blkOf o x
  st : Step (fpN o els) (fun x => fpP els ts x ∨ blkOf m x) h k
theorem Ph.of {h0 h k kd o els yss} (n : Nest h0 k kd o els yss) (x : Ext (fpN o els) h k) : Ph h0 h k kd o els els yss (List.replicate els.length []) ⟨none, 0, 0⟩ [] := by
  have hf : ∀ x, fpP els els x → fpN o els x := fun x q => by
    obtain ⟨i, a, b, ha, hb, q⟩ := q
    rw [ha] at hb; cases hb
    exact .inr ⟨a, List.mem_of_getElem? ha, q.elim id id⟩
  refine ⟨.of n, n.out, New.none n.le .sl, fun x p q => ?_, fun x p => absurd p no_blk, fun x p => absurd p no_blk, x, fun x q => ?_⟩
  · obtain ⟨i, a, b, ha, hb, q⟩ := q
    rw [ha] at hb; cases hb
    exact (List.pairwise_cons.1 n.sep).1 a (List.mem_of_getElem? ha) x p (q.elim id id)
  · rcases q with q | q
    · exact .inl (hf x q)
    · exact absurd q no_blk
theorem Ph.grow {h0 h k kd o els ts yss exts m ms} (p : Ph h0 h k kd o els ts yss exts m ms) {i : Nat} {sl t : Sl} {e : List (Den kd)} (ha : els[i]? = some sl) (hb : ts[i]? = some t) (he : exts[i]? = some e) {x : Den kd} (hone : kd.flat = true) {sz bytes : Nat} (hsz : sz = kd.size) (hbt : (t.len + 1) * bytes ≤ 140737488355328) {K : Sl → Heap → Prop}
    (hK : ∀ t' k', Ph h0 h k' kd o els (ts.set i t') yss (exts.set i (e ++ [x])) m ms → K t' k') : Go.Mx.new k ([x].flatMap kd.cells) fun p h1 => appendM sz bytes h1 t ⟨some p, 1, 1⟩ K := by
  obtain ⟨row, e', hr, he', q⟩ := p.lg.row' ha hb
  rw [he] at he'; cases he'
  refine q.app hone hsz hbt fun t' k' q' s' => ?_
  obtain ⟨lg, s⟩ := p.lg.put ha hb hr q' s'
  have fr : ∀ x, fpP els ts x → h0 x = none := fun x c => p.lg.fresh c
  refine hK t' k' ⟨lg, p.out.ext s.1 p.d1 fr, p.mo.ext s.1 p.d2 fr, s.off p.d1 p.out.own.live, s.off p.d2 p.mo.own.live, p.d3, (p.st.on s (fun x c => .inl (.inl c))).weak fun x c => ?_⟩
  rcases c with c | c
  · exact .inr c
  · exact .inl (.inr c)
theorem Ph.note {h0 h k kd o els ts yss exts m ms} (p : Ph h0 h k kd o els ts yss exts m ms) {t : Sl} {sz bytes : Nat} (hsz : sz = Kd.size .sl) (hbt : (m.len + 1) * bytes ≤ 140737488355328) {K : Sl → Heap → Prop}
    (hK : ∀ m' k', Ph h0 h k' kd o els ts yss exts m' (ms ++ [t]) → K m' k') : Go.Mx.new k ([t].flatMap (Kd.cells .sl)) fun p h1 => appendM sz bytes h1 m ⟨some p, 1, 1⟩ K := by
  refine p.mo.app3 rfl hsz hbt fun m' k' n x b => ?_
  have s : Step (blkOf m) (blkOf m') k k' := ⟨x, b⟩
  refine hK m' k' ⟨p.lg.ext x (fun x c d => p.d2 x d c) p.mo.new, p.out.ext x (fun x c d => p.d3 x d c) p.mo.new, n, p.d1, fun x c d => ?_, fun x c d => ?_, (p.st.on s (fun x c => .inl (.inr c))).weak fun x c => ?_⟩
  · exact s.off (fun x u v => p.d2 x v u) (fun x u => p.lg.live u) x d c
  · exact s.off (fun x u v => p.d3 x v u) p.out.own.live x d c
  · rcases c with c | c
    · exact .inl (.inl c)
    · exact .inr c

end Go.Mx
