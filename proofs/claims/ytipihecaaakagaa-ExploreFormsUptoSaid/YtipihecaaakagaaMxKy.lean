/-
  ExploreFinals: the walks of what puts one more into a list of lists (slices.Insert, the reference's put).
-/
import Derived.Test.YtipihecaaakagaaMxKw
set_option linter.unusedVariables false
set_option linter.unusedSimpArgs false
set_option linter.unusedSectionVars false
namespace Go.Mx

theorem splice_mid3 {A B C l : List Value} (h : l.length = B.length) : splice (A ++ (B ++ C)) A.length l = A ++ (l ++ C) := by
  unfold splice
  rw [List.take_left' rfl, h, ← List.drop_drop, List.drop_left' rfl, List.drop_left' rfl, List.append_assoc]
theorem cut_zero3 (s : Sl) (m sz : Nat) : s.cut 0 m sz = ⟨s.a, m, s.cap⟩ := by
  unfold Sl.cut
  rw [Nat.sub_zero, Nat.sub_zero]
  split
  · rfl
  · rw [Nat.zero_mul]
    cases s.a <;> rfl
theorem cut_a {s : Sl} {b lo hi sz : Nat} (h : s.a = some (ptr b)) : ∃ off, (s.cut lo hi sz).a = some ⟨b, off, none⟩ ∧ (off = lo * sz ∨ (s.cap = lo ∧ off = 0)) := by
  unfold Sl.cut
  dsimp only
  split
  · rename_i e
    exact ⟨0, h, .inr ⟨e, rfl⟩⟩
  · exact ⟨lo * sz, by rw [h]; show some ((⟨b, 0, none⟩ : Addr).add (lo * sz)) = _; rw [add_none, Nat.zero_add], .inl rfl⟩

/-- append to a slice of one's own. -/
theorem newApps3 {h0 h : Heap} {k : Kd} {s x : Sl} {xs ys : List (Den k)} (o : New h0 h k s xs) (hx : Arr h k x ys) (hone : k.flat = true) {sz bytes : Nat} (hsz : sz = k.size) (hb : (s.len + x.len) * bytes ≤ 140737488355328) {K : Sl → Heap → Prop}
    (hK : ∀ t h', New h0 h' k t (xs ++ ys) → Ext (blkOf s) h h' → (∀ b, blkOf t b → blkOf s b ∨ h b = none) → K t h') : appendM sz bytes h s x K := by
  subst hsz
  obtain ⟨hO, hl, hle, hnew⟩ := o
  have hyl : (ys.flatMap k.cells).length = x.len * k.size := by rw [flat_len, hx.1]
  have hlen : (xs ++ ys).length = s.len + x.len := by rw [List.length_append, hl, hx.1]
  refine ⟨hb, ys.flatMap k.cells, ⟨hyl, ?_⟩, ?_, ?_, ?_⟩
  · have := hx.2.2
    revert this
    cases x.a with
    | none => intro e; show x.len * k.size = 0; rw [show x.len = 0 from e, Nat.zero_mul]
    | some a => exact id
  · intro v hv
    obtain ⟨y, _, hy⟩ := List.mem_flatMap.1 hv
    exact k.flat_one y hone v hy
  · intro hc
    rcases hO with ⟨rfl, rfl⟩ | ⟨b, e1, e2, e3, z, e4, e5⟩
    · have hc : 0 + x.len ≤ 0 := hc
      have hy : ys = [] := List.eq_nil_of_length_eq_zero (by rw [hx.1]; omega)
      subst hy
      refine hK _ _ ⟨.inl ⟨?_, rfl⟩, hlen, hle, ?_⟩ (.refl _ _) ?_
      · show (⟨none, 0 + x.len, 0⟩ : Sl) = _
        rw [show 0 + x.len = 0 from by omega]
      · rintro q ⟨a, e, _⟩; cases e
      · rintro q ⟨a, e, _⟩; cases e
    · rw [e1]
      have hz : x.len * k.size ≤ z.length := by rw [e4]; exact Nat.mul_le_mul_right _ (by omega)
      show canWrite _ ((⟨b, 0, none⟩ : Addr).add (s.len * k.size)) (x.len * k.size) ∧ K ⟨some ⟨b, 0, none⟩, s.len + x.len, s.cap⟩ (write _ ((⟨b, 0, none⟩ : Addr).add (s.len * k.size)) (ys.flatMap k.cells))
      rw [add_none, Nat.zero_add]
      refine ⟨⟨rfl, _, e5, by rw [List.length_append, flat_len, hl]; dsimp only; omega⟩, ?_⟩
      have hw : write h ⟨b, s.len * k.size, none⟩ (ys.flatMap k.cells) = upd h b (.cells ((xs ++ ys).flatMap k.cells ++ z.drop (x.len * k.size)) false) := by
        rw [write_eq (a := ⟨b, s.len * k.size, none⟩) e5]
        dsimp only
        congr 2
        unfold splice
        have l1 : (xs.flatMap k.cells).length = s.len * k.size := by rw [flat_len, hl]
        rw [List.take_left' l1, ← List.drop_drop, List.drop_left' l1, hyl, List.flatMap_append]
      rw [hw]
      have hext : Ext (blkOf s) h (upd h b (.cells ((xs ++ ys).flatMap k.cells ++ z.drop (x.len * k.size)) false)) :=
        ⟨fun c y hy hcb => by rw [upd_ne _ _ (fun e => hcb ⟨_, e1, e.symm⟩)]; exact hy, fun c hc => upd_none hc⟩
      refine hK _ _ ⟨.inr ⟨b, rfl, by rw [hlen]; exact Nat.le_refl _, by rw [hlen]; exact hc, z.drop (x.len * k.size), ?_, upd_same _ _ _⟩, hlen, le_ext hle hext hnew, ?_⟩ hext ?_
      · rw [List.length_drop, e4, hlen, hl]
        show _ = (s.cap - (s.len + x.len)) * k.size
        rw [show s.cap - (s.len + x.len) = (s.cap - s.len) - x.len from by omega, Nat.sub_mul (s.cap - s.len)]
      · rintro q ⟨a, ea, rfl⟩
        cases ea
        exact hnew _ ⟨_, e1, rfl⟩
      · rintro q ⟨a, ea, rfl⟩
        cases ea
        exact .inl ⟨_, e1, rfl⟩
  · intro hc
    refine ⟨xs.flatMap k.cells, ⟨by rw [flat_len, hl], ?_⟩, ?_⟩
    · rcases hO with ⟨rfl, rfl⟩ | ⟨b, e1, e2, e3, z, e4, e5⟩
      · exact Nat.zero_mul _
      · rw [e1]; exact cellsAt_blk e5
    · intro c z hcn hz b hbn
      have hlu := le_upd hbn (.cells (xs.flatMap k.cells ++ ys.flatMap k.cells ++ z) false)
      refine hK _ _ ⟨.inr ⟨b, rfl, by rw [hlen]; exact Nat.le_refl _, by rw [hlen]; exact hcn, z, ?_, ?_⟩, hlen, fun q y hy => hlu q y (hle q y hy), ?_⟩ (le.toExt hlu) ?_
      · rw [hz, hlen]
      · rw [upd_same, List.flatMap_append]
      · rintro q ⟨a, ea, rfl⟩
        cases ea
        exact hle.none hbn
      · rintro q ⟨a, ea, rfl⟩
        cases ea
        exact .inr hbn

/-- append of so many zero elements for which there is no room. -/
theorem appendZ_new {h : Heap} {k : Kd} {s : Sl} {xs : List (Den k)} (a : Arr h k s xs) {n : Int} (hn : 0 ≤ n) (hone : k.flat = true) {bytes : Nat} (hb : (s.len + n.toNat) * bytes ≤ 140737488355328) (hc : s.cap < s.len + n.toNat) {K : Sl → Heap → Prop}
    (hK : ∀ t h', New h h' k t (xs ++ List.replicate n.toNat k.zero) → K t h') : appendZM k bytes h s n K := by
  unfold appendZM
  rw [flatten_replicate]
  generalize hys : List.replicate n.toNat k.zero = ys at hK ⊢
  have hy : ys.length = n.toNat := by rw [← hys]; simp
  generalize n.toNat = m at hb hc hy ⊢
  have hlen : (xs ++ ys).length = s.len + m := by rw [List.length_append, a.1, hy]
  refine ⟨hn, hb, fun v hv => k.flat_one k.zero hone v hv, fun q => absurd hc (by omega), fun _ => ⟨xs.flatMap k.cells, ⟨by rw [flat_len, a.1], ?_⟩, fun c z hcn hz b hbn => ?_⟩⟩
  · have := a.2.2
    revert this
    cases s.a with
    | none => intro e; show s.len * k.size = 0; rw [show s.len = 0 from e, Nat.zero_mul]
    | some a => exact id
  · refine hK _ _ ⟨.inr ⟨b, rfl, by rw [hlen]; exact Nat.le_refl _, by rw [hlen]; exact hcn, z, ?_, ?_⟩, hlen, le_upd hbn _, ?_⟩
    · rw [hz, hlen]
    · rw [upd_same, List.flatMap_append]
    · rintro q ⟨a, ea, rfl⟩
      cases ea
      exact hbn

/-- copy into a part of one's own slice. -/
theorem newCopyAt {h0 h : Heap} {k : Kd} {t s : Sl} {ys xs : List (Den k)} (nt : New h0 h k t ys) (a : Arr h k s xs) {j : Nat} (hj : j + s.len ≤ t.len) (hone : k.flat = true) {sz : Nat} (hsz : sz = k.size) {K : Int → Heap → Prop}
    (hK : ∀ n h', New h0 h' k t (ys.take j ++ xs ++ ys.drop (j + xs.length)) → Ext (blkOf t) h h' → K n h') : copyM sz h (t.cut j t.len sz) s K := by
  subst hsz
  have hm : min s.len (t.cut j t.len k.size).len = s.len := by show min s.len (t.len - j) = _; omega
  have hlen : (ys.take j ++ xs ++ ys.drop (j + xs.length)).length = t.len := by
    rw [List.length_append, List.length_append, List.length_take, List.length_drop, nt.len, a.1]; omega
  unfold copyM
  rw [hm]
  refine ⟨xs.flatMap k.cells, ⟨by rw [flat_len, a.1], ?_⟩, fun v hv => ?_, ?_⟩
  · have := a.2.2
    revert this
    cases s.a with
    | none => intro e; show s.len * k.size = 0; rw [show s.len = 0 from e, Nat.zero_mul]
    | some a => exact id
  · obtain ⟨x, _, hx⟩ := List.mem_flatMap.1 hv
    exact k.flat_one x hone v hx
  · obtain ⟨hO, hl, hle, hnew⟩ := nt
    rcases hO with ⟨rfl, rfl⟩ | ⟨b, e1, e2, e3, z, e4, e5⟩
    · have hj : j + s.len ≤ 0 := hj
      have hx : xs = [] := List.eq_nil_of_length_eq_zero (by rw [a.1]; omega)
      subst hx
      have : (Sl.cut ⟨none, 0, 0⟩ j 0 k.size).a = none := by unfold Sl.cut; split <;> rfl
      dsimp only at this ⊢
      rw [this]
      refine hK _ _ ⟨.inl ⟨rfl, by simp⟩, by simp, hle, hnew⟩ (.refl _ _)
    · obtain ⟨off, c1, c2⟩ := cut_a (lo := j) (hi := t.len) (sz := k.size) e1
      rw [c1]
      have hx0 : off = j * k.size ∨ xs = [] ∧ off = 0 := by
        rcases c2 with c2 | ⟨c2, c3⟩
        · exact .inl c2
        · exact .inr ⟨List.eq_nil_of_length_eq_zero (by rw [a.1]; omega), c3⟩
      have hblk : ys.flatMap k.cells ++ z = (ys.take j).flatMap k.cells ++ (((ys.drop j).take xs.length).flatMap k.cells ++ ((ys.drop (j + xs.length)).flatMap k.cells ++ z)) := by
        rw [← List.append_assoc, ← List.append_assoc, ← List.flatMap_append, ← List.flatMap_append, List.append_assoc, ← List.drop_drop, List.take_append_drop, List.take_append_drop]
      have hA : ((ys.take j).flatMap k.cells).length = j * k.size := by rw [flat_len, List.length_take, Nat.min_eq_left (by omega)]
      have hB : (xs.flatMap k.cells).length = (((ys.drop j).take xs.length).flatMap k.cells).length := by
        rw [flat_len, flat_len, List.length_take, List.length_drop, a.1]; congr 1; omega
      have hle2 : j * k.size + s.len * k.size ≤ ys.length * k.size := by rw [← Nat.add_mul]; exact Nat.mul_le_mul_right _ (by omega)
      refine ⟨⟨rfl, _, e5, ?_⟩, ?_⟩
      · rw [List.length_append, flat_len]
        dsimp only
        rcases hx0 with q | ⟨q, q2⟩
        · rw [q]; omega
        · rw [← a.1, q, q2]; simp
      · have hw : write h ⟨b, off, none⟩ (xs.flatMap k.cells) = upd h b (.cells ((ys.take j ++ xs ++ ys.drop (j + xs.length)).flatMap k.cells ++ z) false) := by
          rw [write_eq (a := ⟨b, off, none⟩) e5]
          dsimp only
          congr 2
          rcases hx0 with q | ⟨q, q2⟩
          · rw [q, hblk, ← hA, splice_mid3 hB, List.flatMap_append, List.flatMap_append, List.append_assoc, List.append_assoc]
          · rw [q, q2]
            have : splice (ys.flatMap k.cells ++ z) 0 (([] : List (Den k)).flatMap k.cells) = ys.flatMap k.cells ++ z := by unfold splice; simp
            rw [this, List.length_nil, Nat.add_zero, List.append_nil, List.take_append_drop]
        rw [hw]
        have hext : Ext (blkOf t) h (upd h b (.cells ((ys.take j ++ xs ++ ys.drop (j + xs.length)).flatMap k.cells ++ z) false)) :=
          ⟨fun c y hy hcb => by rw [upd_ne _ _ (fun e => hcb ⟨_, e1, e.symm⟩)]; exact hy, fun c hc => upd_none hc⟩
        refine hK _ _ ⟨.inr ⟨b, e1, by omega, by omega, z, by rw [hlen, e4, hl], upd_same _ _ _⟩, hlen, le_ext hle hext hnew, hnew⟩ hext

/-- What is behind a place moves up by one. -/
theorem newShift {h0 h : Heap} {k : Kd} {t : Sl} {ys : List (Den k)} (nt : New h0 h k t ys) {j : Nat} (hj : j < t.len) (hc : t.len + 1 ≤ t.cap) (hone : k.flat = true) {sz : Nat} (hsz : sz = k.size) {K : Int → Heap → Prop}
    (hK : ∀ n h', New h0 h' k ⟨t.a, t.len + 1, t.cap⟩ (ys.take (j + 1) ++ ys.drop j) → Ext (blkOf t) h h' → K n h') : copyM sz h (Sl.cut ⟨t.a, t.len + 1, t.cap⟩ (j + 1) (t.len + 1) sz) (Sl.cut ⟨t.a, t.len + 1, t.cap⟩ j (t.len + 1) sz) K := by
  subst hsz
  have hm : min (Sl.cut ⟨t.a, t.len + 1, t.cap⟩ j (t.len + 1) k.size).len (Sl.cut ⟨t.a, t.len + 1, t.cap⟩ (j + 1) (t.len + 1) k.size).len = t.len - j := by show min (t.len + 1 - j) (t.len + 1 - (j + 1)) = _; omega
  obtain ⟨hO, hl, hle, hnew⟩ := nt
  have hlen : (ys.take (j + 1) ++ ys.drop j).length = t.len + 1 := by rw [List.length_append, List.length_take, List.length_drop, hl]; omega
  unfold copyM
  rw [hm]
  rcases hO with ⟨rfl, rfl⟩ | ⟨b, e1, e2, e3, z, e4, e5⟩
  · exact absurd hj (Nat.not_lt_zero _)
  · have hdl : ((ys.drop j).flatMap k.cells).length = (t.len - j) * k.size := by rw [flat_len, List.length_drop, hl]
    obtain ⟨off, c1, c2⟩ := cut_a (s := ⟨t.a, t.len + 1, t.cap⟩) (lo := j) (hi := t.len + 1) (sz := k.size) e1
    obtain ⟨off2, d1, d2⟩ := cut_a (s := ⟨t.a, t.len + 1, t.cap⟩) (lo := j + 1) (hi := t.len + 1) (sz := k.size) e1
    have c2 : off = j * k.size := by
      rcases c2 with c2 | ⟨c2, c3⟩
      · exact c2
      · have c2 : t.cap = j := c2; omega
    have d2 : off2 = (j + 1) * k.size := by
      rcases d2 with d2 | ⟨d2, c3⟩
      · exact d2
      · have d2 : t.cap = j + 1 := d2; omega
    refine ⟨(ys.drop j).flatMap k.cells, ⟨hdl, ?_⟩, fun v hv => ?_, ?_⟩
    · rw [c1, c2]
      show cellsAt h ⟨b, j * k.size, none⟩ _
      have := cellsAt_blk e5
      rw [← List.take_append_drop j ys, List.flatMap_append] at this
      have := (cellsAt_append this).2
      rw [flat_len, List.length_take, Nat.min_eq_left (by omega), add_none, Nat.zero_add] at this
      exact this
    · obtain ⟨x, _, hx⟩ := List.mem_flatMap.1 hv
      exact k.flat_one x hone v hx
    · rw [d1, d2]
      have hz1 : k.size ≤ z.length := by
        rw [e4, hl]
        have h1 : 1 * k.size ≤ (t.cap - t.len) * k.size := Nat.mul_le_mul_right _ (by omega)
        rwa [Nat.one_mul] at h1
      have hblk : ys.flatMap k.cells ++ z = (ys.take (j + 1)).flatMap k.cells ++ (((ys.drop (j + 1)).flatMap k.cells ++ z.take k.size) ++ z.drop k.size) := by
        rw [List.append_assoc, List.take_append_drop, ← List.append_assoc, ← List.flatMap_append, List.take_append_drop]
      have hA : ((ys.take (j + 1)).flatMap k.cells).length = (j + 1) * k.size := by rw [flat_len, List.length_take, Nat.min_eq_left (by omega)]
      have hB : ((ys.drop j).flatMap k.cells).length = ((ys.drop (j + 1)).flatMap k.cells ++ z.take k.size).length := by
        rw [hdl, List.length_append, flat_len, List.length_drop, List.length_take, Nat.min_eq_left hz1, hl, show t.len - j = (t.len - (j + 1)) + 1 from by omega, Nat.succ_mul]
      refine ⟨⟨rfl, _, e5, ?_⟩, ?_⟩
      · rw [List.length_append, flat_len]
        dsimp only
        have h1 : (j + 1) * k.size + (t.len - j) * k.size = ys.length * k.size + 1 * k.size := by rw [← Nat.add_mul, ← Nat.add_mul]; congr 1; omega
        rw [h1, Nat.one_mul]; omega
      · have hw : write h ⟨b, (j + 1) * k.size, none⟩ ((ys.drop j).flatMap k.cells) = upd h b (.cells ((ys.take (j + 1) ++ ys.drop j).flatMap k.cells ++ z.drop k.size) false) := by
          rw [write_eq (a := ⟨b, (j + 1) * k.size, none⟩) e5]
          dsimp only
          congr 2
          rw [hblk, ← hA, splice_mid3 hB, List.flatMap_append, List.append_assoc]
        rw [hw]
        have hext : Ext (blkOf t) h (upd h b (.cells ((ys.take (j + 1) ++ ys.drop j).flatMap k.cells ++ z.drop k.size) false)) :=
          ⟨fun c y hy hcb => by rw [upd_ne _ _ (fun e => hcb ⟨_, e1, e.symm⟩)]; exact hy, fun c hc => upd_none hc⟩
        refine hK _ _ ⟨.inr ⟨b, e1, by rw [hlen]; exact Nat.le_refl _, by rw [hlen]; exact hc, z.drop k.size, ?_, upd_same _ _ _⟩, hlen, le_ext hle hext hnew, hnew⟩ hext
        rw [List.length_drop, e4, hlen, hl]
        show _ = (t.cap - (t.len + 1)) * k.size
        rw [show t.cap - (t.len + 1) = (t.cap - t.len) - 1 from by omega, Nat.sub_mul (t.cap - t.len), Nat.one_mul]

/-- One more row in between. -/
theorem Nest.ins {h0 h h' : Heap} {k : Kd} {o o' t : Sl} {els : List Sl} {xss : List (List (Den k))} {ys : List (Den k)} (n : Nest h0 h k o els xss) (nt : New h0 h k t ys) (ap : ∀ x, blkOf t x → ¬ fpN o els x) {j : Nat} (hj : j ≤ els.length)
    (out : New h0 h' .sl o' (els.take j ++ t :: els.drop j)) (e : Ext (blkOf o) h h') (b2 : ∀ x, blkOf o' x → blkOf o x ∨ h x = none) : Nest h0 h' k o' (els.take j ++ t :: els.drop j) (xss.take j ++ ys :: xss.drop j) := by
  obtain ⟨s1, s2⟩ := List.pairwise_cons.1 n.sep
  have hn := n.len
  have hp : (els.take j ++ t :: els.drop j).Perm (t :: els) := by
    refine List.perm_middle.trans ?_
    rw [List.take_append_drop]
  have old : ∀ {i : Nat} {sl : Sl} {xs : List (Den k)}, els[i]? = some sl → xss[i]? = some xs → New h0 h' k sl xs := fun {i sl xs} a b =>
    (n.row i sl xs a b).ext e (fun z u v => s1 sl (List.mem_of_getElem? a) z v u) n.out.new
  refine ⟨out, by rw [List.length_append, List.length_append, List.length_cons, List.length_cons, List.length_take, List.length_take, List.length_drop, List.length_drop]; omega, fun i sl xs a b => ?_, List.pairwise_cons.2 ⟨fun sl hs x hx hy => ?_, ?_⟩⟩
  · have ht1 : (els.take j).length = j := by rw [List.length_take]; omega
    have ht2 : (xss.take j).length = j := by rw [List.length_take]; omega
    rcases Nat.lt_trichotomy i j with c | c | c
    · rw [List.getElem?_append_left (by omega), List.getElem?_take, if_pos c] at a
      rw [List.getElem?_append_left (by omega), List.getElem?_take, if_pos c] at b
      exact old a b
    · subst c
      rw [List.getElem?_append_right (by omega), ht1, Nat.sub_self] at a
      rw [List.getElem?_append_right (by omega), ht2, Nat.sub_self] at b
      obtain rfl := Option.some.inj a
      obtain rfl := Option.some.inj b
      exact nt.ext e (fun z u v => ap z u (.inl v)) n.out.new
    · rw [List.getElem?_append_right (by omega), ht1, show i - j = (i - j - 1) + 1 from by omega, List.getElem?_cons_succ, List.getElem?_drop] at a
      rw [List.getElem?_append_right (by omega), ht2, show i - j = (i - j - 1) + 1 from by omega, List.getElem?_cons_succ, List.getElem?_drop] at b
      exact old a b
  · have hs2 := hp.subset hs
    rcases b2 x hx with d | d
    · rcases List.mem_cons.1 hs2 with rfl | hs2
      · exact ap x hy (.inl d)
      · exact s1 sl hs2 x d hy
    · rcases List.mem_cons.1 hs2 with rfl | hs2
      · exact nt.own.live x hy d
      · obtain ⟨xs, q⟩ := n.row' hs2
        exact q.own.live x hy d
  · refine (hp.pairwise_iff (fun {a b} => Apart.symm)).2 (List.pairwise_cons.2 ⟨fun sl hs x hx hy => ap x hx (.inr ⟨sl, hs, hy⟩), s2⟩)

theorem sinsert_spec {h0 h : Heap} {o c : Sl} {els : List Sl} {p j : Nat} (no : New h0 h .sl o els) (hj : j ≤ els.length) (hp : h p = some (.cells (([c] : List (Den .sl)).flatMap (Kd.cells .sl)) false)) (hpo : ¬ blkOf o p) (hn : els.length ≤ 2000000)
    {cO : Sl → Sl → Heap → (Bool → Heap → Prop) → Prop} {cR : Sl → Int → Heap → (Unit → Heap → Prop) → Prop}
    (iO : ∀ {a b : Sl} {p : Nat} {cs : List Value} {h : Heap} {Q : Bool → Heap → Prop}, a.a = some (ptr p) → h p = some (.cells cs false) → (∀ q, b.a = some q → q.block ≠ p ∧ ∃ cs, h q.block = some (.cells cs false)) → Q false h → cO a b h Q)
    {Q : Sl → Heap → Prop} (hQ : ∀ o' h', New h0 h' .sl o' (els.take j ++ c :: els.drop j) → Ext (blkOf o) h h' → (∀ x, blkOf o' x → blkOf o x ∨ h x = none) → Q o' h') : slices_Insert_int64_int64.M cO cR o (j : Int) ⟨some (ptr p), 1, 1⟩ h Q := by
  have hol := no.len
  have av : ∀ {k : Heap}, k p = some (.cells (([c] : List (Den .sl)).flatMap (Kd.cells .sl)) false) → Arr k .sl ⟨some (ptr p), 1, 1⟩ [c] := fun {k} e => ⟨rfl, Nat.le_refl _, by
    have e1 : k p = some (.cells (([c] : List (Den .sl)).flatMap (Kd.cells .sl) ++ []) false) := by rw [List.append_nil]; exact e
    exact cellsAt_blk e1⟩
  have w1 : w64 ((o.len : Int) + ((1 : Nat) : Int)) = ((o.len + 1 : Nat) : Int) := by rw [w64_of (by omega) (by omega)]; rfl
  have w2 : w64 ((j : Int) + ((1 : Nat) : Int)) = ((j + 1 : Nat) : Int) := by rw [w64_of (by omega) (by omega)]; rfl
  refine ⟨⟨Int.natCast_nonneg j, by omega⟩, dcs (fun q => absurd (show ((1 : Nat) : Int) = 0 from q) (by decide)) (fun _ => dcs (fun e => ?_) (fun e => ?_))⟩
  · have e : (j : Int) = (o.len : Int) := e
    obtain rfl : j = els.length := by omega
    refine newApps3 no (av hp) rfl rfl (by show (o.len + 1) * 24 ≤ _; omega) fun t h' a b cc => hQ t h' ?_ b cc
    rw [List.take_length, List.drop_length]; exact a
  · have e : ¬ (j : Int) = (o.len : Int) := e
    have hjl : j < els.length := by omega
    dsimp only
    rw [w1, w2, Int.toNat_natCast, Int.toNat_natCast, Int.toNat_natCast, cut_zero3, cut_zero3]
    refine dcs (fun z => ?_) (fun z => ?_)
    · have z : (o.cap : Int) < ((o.len + 1 : Nat) : Int) := z
      have hself := no.own.self
      refine ⟨⟨Int.natCast_nonneg j, by omega⟩, ?_⟩
      have w3 : w64 (((o.len + 1 : Nat) : Int) - (j : Int)) = ((o.len + 1 - j : Nat) : Int) := by rw [w64_of (by omega) (by omega)]; omega
      rw [w3]
      have ap := no.arr.pre (n := j) (sz := 1) (by omega)
      rw [cut_zero3] at ap
      refine appendZ_new ap (Int.natCast_nonneg _) rfl (by rw [Int.toNat_natCast]; show (j + (o.len + 1 - j)) * 24 ≤ _; omega) (by rw [Int.toNat_natCast]; show o.cap < j + (o.len + 1 - j); omega) fun t h8 n8 => ?_
      rw [Int.toNat_natCast] at n8
      have htl := n8.len
      rw [List.length_append, List.length_take, List.length_replicate] at htl
      have l8 := n8.le
      refine ⟨⟨Int.natCast_nonneg j, by omega⟩, newCopyAt n8 (av (l8 p _ hp)) (show j + 1 ≤ t.len by omega) rfl rfl fun _ h10 n10 x10 => ?_⟩
      refine ⟨⟨Int.natCast_nonneg _, by omega⟩, ⟨Int.natCast_nonneg _, by omega⟩, ?_⟩
      have l10 := n10.le
      have ao := (no.arr.le l10).suf (n := j) (sz := 1) (by omega) rfl
      refine newCopyAt n10 ao (show j + 1 + (o.len - j) ≤ t.len by omega) rfl rfl fun _ h12 n12 x12 => ?_
      refine hQ t h12 ?_ n12.le.toExt (fun x hx => .inr (n12.new x hx))
      have hfin : ∀ {Z : List Sl}, Z.length = o.len + 1 - j → (((els.take j ++ Z).take j ++ [c] ++ (els.take j ++ Z).drop (j + [c].length)).take (j + 1) ++ els.drop j ++ ((els.take j ++ Z).take j ++ [c] ++ (els.take j ++ Z).drop (j + [c].length)).drop (j + 1 + (els.drop j).length)) = els.take j ++ c :: els.drop j := by
        intro Z hZ
        have t1 : (els.take j).length = j := by rw [List.length_take]; omega
        have e1 : (els.take j ++ Z).take j = els.take j := List.take_left' t1
        rw [e1]
        have t2 : (els.take j ++ [c]).length = j + 1 := by rw [List.length_append, t1]; rfl
        rw [List.take_left' t2, List.drop_of_length_le (i := j + 1 + (els.drop j).length), List.append_nil, List.append_assoc]
        · rfl
        · rw [List.length_append, t2, List.length_drop, List.length_append, t1, hZ, List.length_drop, List.length_singleton]; omega
      rw [hfin (by rw [List.length_replicate])] at n12
      exact ⟨n12.own, n12.len, no.le.trans n12.le, fun x hx => no.le.none (n12.new x hx)⟩
    · have z : ¬ (o.cap : Int) < ((o.len + 1 : Nat) : Int) := z
      refine ⟨⟨Int.natCast_nonneg _, by omega⟩, ⟨Int.natCast_nonneg _, show ((j + 1 : Nat) : Int) ≤ ((o.len + 1 : Nat) : Int) by omega⟩, iO rfl hp (fun q hq => ?_) ⟨fun _ => ?_, fun q => (by cases q)⟩⟩
      · have hb : blkOf o q.block := by
          have := blk_cut (s := ⟨o.a, o.len + 1, o.cap⟩) (b := q.block) ⟨q, hq, rfl⟩
          exact this
        refine ⟨fun r => hpo (r ▸ hb), ?_⟩
        rcases no.own with ⟨rfl, _⟩ | ⟨b, a1, a2, a3, zz, a4, a5⟩
        · obtain ⟨a, ea, _⟩ := hb; cases ea
        · obtain ⟨a, ea, hab⟩ := hb
          rw [a1] at ea
          obtain rfl := Option.some.inj ea
          have hab : b = q.block := hab
          exact ⟨_, hab ▸ a5⟩
      · refine ⟨⟨Int.natCast_nonneg _, show ((j + 1 : Nat) : Int) ≤ ((o.len + 1 : Nat) : Int) by omega⟩, ⟨Int.natCast_nonneg _, show (j : Int) ≤ ((o.len + 1 : Nat) : Int) by omega⟩, ?_⟩
        refine newShift no (j := j) (by omega) (by omega) rfl rfl fun _ h16 n16 x16 => ?_
        refine ⟨⟨Int.natCast_nonneg _, show (j : Int) ≤ ((o.len + 1 : Nat) : Int) by omega⟩, ?_⟩
        refine newCopyAt n16 (av (x16.1 p _ hp hpo)) (show j + 1 ≤ o.len + 1 by omega) rfl rfl fun _ h18 n18 x18 => ?_
        have hsub : ∀ x, blkOf ⟨o.a, o.len + 1, o.cap⟩ x → blkOf o x := fun x ⟨a, ea, eb⟩ => ⟨a, ea, eb⟩
        refine hQ _ h18 ?_ (x16.trans (x18.mono hsub)) (fun x hx => .inl (hsub x hx))
        have hfin : (els.take (j + 1) ++ els.drop j).take j ++ [c] ++ (els.take (j + 1) ++ els.drop j).drop (j + [c].length) = els.take j ++ c :: els.drop j := by
          have t1 : (els.take (j + 1)).length = j + 1 := by rw [List.length_take]; omega
          rw [List.take_append_of_le_length (by omega), List.take_take, Nat.min_eq_left (by omega), show j + [c].length = j + 1 from rfl, List.drop_left' t1, List.append_assoc]; rfl
        rw [hfin] at n18
        exact n18

theorem ins_step {els : List Sl} {c : Sl} {j i : Nat} (hji : j ≤ i) (hi : i < els.length) : (els.take j ++ c :: els.drop j).take (i + 2) = (els.take j ++ c :: els.drop j).take (i + 1) ++ [els[i]] := by
  have hl : i + 1 < (els.take j ++ c :: els.drop j).length := by rw [List.length_append, List.length_take, List.length_cons, List.length_drop]; omega
  rw [take_succ' _ hl]
  congr 2
  have t1 : (els.take j).length = j := by rw [List.length_take]; omega
  rw [List.getElem_append_right (by omega)]
  have e : i + 1 - (els.take j).length = (i - j) + 1 := by omega
  simp only [e, List.getElem_cons_succ, List.getElem_drop]
  congr 1; omega
theorem cmpC_flip {a b : List Int} : cmpC a b < 0 → ¬ cmpC b a < 0 := fun h => by
  have := cmpC_neg.1 h
  omega
theorem cmpC_cases (a b : List Int) (h0 : cmpC a b ≠ 0) (h1 : ¬ cmpC a b < 0) : cmpC b a < 0 := by
  rw [cmpC_neg]; omega
/-- What Finals tell. -/
def finP (sz : Int) (bs : List Int) (xss : List (List Ac)) (e : Int) : List (List Int) := if e = 0 then finL sz bs xss (expS sz bs.length xss) else []
theorem finL_len {sz : Int} {bs : List Int} {xss : List (List Ac)} (L : List (List Int)) : (finL sz bs xss L).length ≤ L.length := by
  have put_len : ∀ {c : List Int} {l : List (List Int)}, (putC l c).length ≤ l.length + 1 := fun {c l} => by
    induction l with
    | nil => exact Nat.le_refl _
    | cons x l ih =>
      unfold putC
      split
      · exact Nat.le_refl _
      · split
        · exact Nat.le_succ _
        · rw [List.length_cons, List.length_cons]; omega
  induction L using rev_ind with
  | nil => exact Nat.le_refl _
  | append_singleton L q ih =>
    rw [finL_snoc, List.length_append, List.length_singleton]
    exact Nat.le_trans put_len (Nat.succ_le_succ ih)
theorem playP_small {sz : Int} {bs : List Int} {xss : List (List Ac)} (h1 : (bs.length : Int) ≤ sz) (h2 : sz ≤ 64) : ∀ q : List Int, (playP sz bs xss q).1.length ≤ 64 := fun q => by
  have hcell : ∀ {cs : List Int} {x : Ac}, (cs.length : Int) ≤ sz → ((actP sz cs x).2.length : Int) ≤ sz := fun {cs x} h => by
    by_cases h4 : (iK x) = 4
    · by_cases hv : (iV x) < 1
      · rw [actP_idle h4 hv]; exact h
      · rw [actP_give h4 hv]
        split
        · exact h
        · rw [List.length_append, List.length_replicate]; omega
    · rw [touch_len h4]; exact h
  have : ∀ (q : List Int) (st : PlS), (st.1.length : Int) ≤ sz → ((q.foldl (stepP sz xss) st).1.length : Int) ≤ sz := fun q => by
    induction q with
    | nil => intro st h; exact h
    | cons w q ih =>
      intro st h
      rw [List.foldl_cons]
      exact ih _ (hcell h)
  have := this q (bs, List.replicate xss.length []) h1
  show ((q.foldl (stepP sz xss) (bs, List.replicate xss.length [])).1.length) ≤ 64
  omega
theorem finP_small {sz : Int} {bs : List Int} {xss : List (List Ac)} (hs : Small bs xss) {e : Int} (he : e = chkE sz bs.length xss) : (finP sz bs xss e).length ≤ 1048576 ∧ ∀ z ∈ finP sz bs xss e, z.length ≤ 1048576 := by
  unfold finP
  by_cases d : e = 0
  · rw [if_pos d]
    have hE := (expS_small (sz := sz) (nb := bs.length) (len := bs.length) hs.2.1 hs.2.2 he).1
    unfold expP at hE
    rw [if_pos d] at hE
    refine ⟨Nat.le_trans (finL_len _) hE, fun z hz => ?_⟩
    obtain ⟨q, _, rfl⟩ := finL_mem.1 hz
    obtain ⟨_, h1, h2, _⟩ := chkE_ok (he ▸ d)
    have := playP_small (xss := xss) h2 h1 q
    omega
  · rw [if_neg d]; exact ⟨Nat.zero_le _, fun z hz => (by cases hz)⟩
end Go.Mx
