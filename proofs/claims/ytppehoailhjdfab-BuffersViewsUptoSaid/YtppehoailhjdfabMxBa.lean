/-
  Queues: slices of one's own that lose their beginning and grow at the end.
-/
import Derived.Test.YtppehoailhjdfabMxPt
set_option linter.unusedVariables false
set_option linter.unusedSimpArgs false
namespace Go.Mx

/-- The end of a block of one's own. -/
def TlB (h : Heap) (k : Kd) (s : Sl) (xs : List (Den k)) : Prop :=
  (s.len = 0 ∧ s.cap = 0 ∧ xs = [] ∧ ∀ b, blkOf s b → h b ≠ none) ∨
  ∃ b ps z, s.a = some ⟨b, ps.length * k.size, none⟩ ∧ xs.length = s.len ∧ s.len ≤ s.cap ∧ z.length = (s.cap - s.len) * k.size ∧ h b = some (.cells ((ps ++ xs : List (Den k)).flatMap k.cells ++ z) false)
theorem TlB.blk {h : Heap} {k : Kd} {s : Sl} {xs : List (Den k)} (o : TlB h k s xs) {b : Nat} (hb : blkOf s b) : h b ≠ none := by
  rcases o with ⟨_, _, _, n⟩ | ⟨c, ps, z, e1, _, _, _, e5⟩
  · exact n b hb
  · obtain ⟨a, ea, rfl⟩ := hb
    rw [e1] at ea; cases ea
    rw [e5]; exact fun q => by cases q
theorem TlB.ext {h h' : Heap} {k : Kd} {s : Sl} {xs : List (Den k)} (o : TlB h k s xs) {S : Nat → Prop} (e : Ext S h h') (n : ∀ b, blkOf s b → ¬ S b) : TlB h' k s xs := by
  rcases o with ⟨a, b, c, d⟩ | ⟨b, ps, z, e1, e2, e3, e4, e5⟩
  · exact .inl ⟨a, b, c, fun x hx q => d x hx (e.2 x q)⟩
  · exact .inr ⟨b, ps, z, e1, e2, e3, e4, e.1 b _ e5 (n b ⟨_, e1, rfl⟩)⟩
theorem TlB.arr {h : Heap} {k : Kd} {s : Sl} {xs : List (Den k)} (o : TlB h k s xs) : Arr h k s xs := by
  rcases o with ⟨a, b, rfl, d⟩ | ⟨b, ps, z, e1, e2, e3, e4, e5⟩
  · refine ⟨a.symm, by omega, ?_⟩
    cases s.a with
    | none => exact a
    | some x => intro j v e; cases e
  · refine ⟨e2, e3, ?_⟩
    rw [e1]
    dsimp only
    have := cellsAt_blk e5
    rw [List.flatMap_append] at this
    have := (cellsAt_append this).2
    rw [add_none, Nat.zero_add, flat_len] at this
    exact this
theorem TlB.cut {h : Heap} {k : Kd} {s : Sl} {x : Den k} {xs : List (Den k)} (o : TlB h k s (x :: xs)) {sz : Nat} (hsz : sz = k.size) : TlB h k (s.cut 1 s.len sz) xs := by
  subst hsz
  rcases o with ⟨a, b, c, d⟩ | ⟨b, ps, z, e1, e2, e3, e4, e5⟩
  · cases c
  · have e2' : xs.length + 1 = s.len := e2
    by_cases hc : s.cap = 1
    · refine .inl ⟨by show s.len - 1 = 0; omega, by show s.cap - 1 = 0; omega, List.length_eq_zero_iff.1 (by omega), fun q hq => ?_⟩
      obtain ⟨a, ea, rfl⟩ := blk_cut hq
      rw [e1] at ea; cases ea
      rw [e5]; exact fun q => by cases q
    · refine .inr ⟨b, ps ++ [x], z, ?_, by show _ = s.len - 1; omega, by show s.len - 1 ≤ s.cap - 1; omega, ?_, ?_⟩
      · unfold Sl.cut
        rw [if_neg hc, e1]
        show some (Addr.add _ _) = _
        rw [add_none, List.length_append, List.length_singleton, Nat.add_mul]
      · rw [e4]; show _ = (s.cap - 1 - (s.len - 1)) * _
        congr 1; omega
      · rw [e5, List.append_assoc]; rfl

theorem TlB.app {h : Heap} {k : Kd} {s : Sl} {xs : List (Den k)} (o : TlB h k s xs) {x : Den k} (hone : k.flat = true) {sz bytes : Nat} (hsz : sz = k.size) (hb : (s.len + 1) * bytes ≤ 140737488355328) {K : Sl → Heap → Prop}
    (hK : ∀ t h', TlB h' k t (xs ++ [x]) → Ext (blkOf s) h h' → (∀ b, blkOf t b → blkOf s b ∨ h b = none) → K t h') :
    new h ([x].flatMap k.cells) fun p h1 => appendM sz bytes h1 s ⟨some p, 1, 1⟩ K := by
  subst hsz
  intro p hp
  have hx1 : [x].flatMap k.cells = k.cells x := by simp
  rw [hx1]
  have hle := le_upd hp (.cells (k.cells x) false)
  have hps : ∀ b, blkOf s b → b ≠ p := fun b hbs e => by subst e; exact o.blk hbs hp
  have o1 : TlB (upd h p (.cells (k.cells x) false)) k s xs := o.ext (S := fun _ => False) hle.toExt (fun _ _ => id)
  have hl : xs.length = s.len := o.arr.1
  refine ⟨hb, k.cells x, ⟨by rw [Kd.cells_len]; simp, ?_⟩, k.flat_one x hone, ?_, ?_⟩
  · have e1 : upd h p (.cells (k.cells x) false) p = some (.cells (k.cells x ++ []) false) := by rw [List.append_nil, upd_same]
    exact cellsAt_blk e1
  · intro hc
    have hc : s.len + 1 ≤ s.cap := hc
    rcases o1 with ⟨a, b, rfl, d⟩ | ⟨b, ps, z, e1, e2, e3, e4, e5⟩
    · omega
    · rw [e1]
      have hz : k.size ≤ z.length := by
        rw [e4]
        have h1 : 1 * k.size ≤ (s.cap - s.len) * k.size := Nat.mul_le_mul_right _ (by omega)
        rwa [Nat.one_mul] at h1
      show canWrite _ ((⟨b, ps.length * k.size, none⟩ : Addr).add (s.len * k.size)) (1 * k.size) ∧ K ⟨some ⟨b, ps.length * k.size, none⟩, s.len + 1, s.cap⟩ (write _ ((⟨b, ps.length * k.size, none⟩ : Addr).add (s.len * k.size)) (k.cells x))
      rw [add_none, Nat.one_mul, ← Nat.add_mul]
      have l1 : ((ps ++ xs).flatMap k.cells).length = (ps.length + s.len) * k.size := by rw [flat_len, List.length_append, hl]
      refine ⟨⟨rfl, _, e5, by rw [List.length_append, l1]; dsimp only; omega⟩, ?_⟩
      have hw : write (upd h p (.cells (k.cells x) false)) ⟨b, (ps.length + s.len) * k.size, none⟩ (k.cells x) = upd (upd h p (.cells (k.cells x) false)) b (.cells ((ps ++ (xs ++ [x])).flatMap k.cells ++ z.drop k.size) false) := by
        rw [write_eq (a := ⟨b, (ps.length + s.len) * k.size, none⟩) e5]
        dsimp only
        congr 2
        unfold splice
        rw [List.take_left' l1, ← List.drop_drop, List.drop_left' l1, Kd.cells_len, ← List.append_assoc ps, List.flatMap_append (xs := ps ++ xs), hx1]
      rw [hw]
      refine hK _ _ (.inr ⟨b, ps, z.drop k.size, rfl, by rw [List.length_append, hl]; rfl, hc, ?_, upd_same _ _ _⟩) ⟨fun c y hy hcb => ?_, fun c hc => upd_none (upd_none hc)⟩ (fun c hcb => .inl ?_)
      · rw [List.length_drop, e4]
        show _ = (s.cap - (s.len + 1)) * k.size
        rw [show s.cap - (s.len + 1) = (s.cap - s.len) - 1 from by omega, Nat.sub_mul (s.cap - s.len), Nat.one_mul]
      · rw [upd_ne _ _ (fun e => hcb ⟨_, e1, e.symm⟩)]
        exact hle c y hy
      · obtain ⟨a, ea, rfl⟩ := hcb
        cases ea
        exact ⟨_, e1, rfl⟩
  · intro hc
    refine ⟨xs.flatMap k.cells, ⟨by rw [flat_len, hl], ?_⟩, ?_⟩
    · have := o1.arr
      obtain ⟨a1, a2, a3⟩ := this
      revert a3
      cases s.a with
      | none => intro a3; dsimp only at a3 ⊢; rw [a3, Nat.zero_mul]
      | some a => exact id
    · intro c z hcn hz b hbn
      have hbn' : h b = none := hle.none hbn
      have hcn : s.len + 1 ≤ c := hcn
      refine hK _ _ (.inr ⟨b, [], z, by rw [List.length_nil, Nat.zero_mul], by rw [List.length_append, hl]; rfl, hcn, hz, ?_⟩) ⟨fun q y hy _ => ?_, fun c hc => upd_none (upd_none hc)⟩ (fun q hq => .inr ?_)
      · rw [upd_same, List.nil_append, List.flatMap_append, hx1]
      · rw [upd_ne _ _ (fun e => by subst e; rw [hbn'] at hy; cases hy)]
        exact hle q y hy
      · obtain ⟨a, ea, rfl⟩ := hq
        cases ea
        exact hbn'

/-- Such a queue, new since h0. -/
structure Tl (h0 h : Heap) (k : Kd) (s : Sl) (xs : List (Den k)) : Prop where
  own : TlB h k s xs
  le : Go.Mx.le h0 h
  new : ∀ b, blkOf s b → h0 b = none
theorem Tl.arr {h0 h : Heap} {k : Kd} {s : Sl} {xs : List (Den k)} (o : Tl h0 h k s xs) : Arr h k s xs := o.own.arr
theorem Tl.len {h0 h : Heap} {k : Kd} {s : Sl} {xs : List (Den k)} (o : Tl h0 h k s xs) : xs.length = s.len := o.own.arr.1
theorem Tl.nil {h0 h : Heap} (l : Go.Mx.le h0 h) (k : Kd) : Tl h0 h k Sl.none [] := ⟨.inl ⟨rfl, rfl, rfl, fun b hb => by obtain ⟨a, e, _⟩ := hb; cases e⟩, l, fun b hb => by obtain ⟨a, e, _⟩ := hb; cases e⟩
theorem Tl.more {h0 h h' : Heap} {k : Kd} {s : Sl} {xs : List (Den k)} (o : Tl h0 h k s xs) (l : Go.Mx.le h h') : Tl h0 h' k s xs := ⟨o.own.ext (S := fun _ => False) l.toExt (fun _ _ => id), o.le.trans l, o.new⟩
theorem Tl.ext {h0 h h' : Heap} {k : Kd} {s : Sl} {xs : List (Den k)} (o : Tl h0 h k s xs) {S : Nat → Prop} (e : Ext S h h') (n : ∀ b, blkOf s b → ¬ S b) (f : ∀ b, S b → h0 b = none) : Tl h0 h' k s xs := ⟨o.own.ext e n, le_ext o.le e f, o.new⟩
theorem Tl.base {h0 h1 h : Heap} {k : Kd} {s : Sl} {xs : List (Den k)} (o : Tl h1 h k s xs) (l : Go.Mx.le h0 h1) : Tl h0 h k s xs := ⟨o.own, l.trans o.le, fun b hb => l.none (o.new b hb)⟩
theorem Tl.cut {h0 h : Heap} {k : Kd} {s : Sl} {x : Den k} {xs : List (Den k)} (o : Tl h0 h k s (x :: xs)) {sz : Nat} (hsz : sz = k.size) : Tl h0 h k (s.cut 1 s.len sz) xs := ⟨o.own.cut hsz, o.le, fun b hb => o.new b (blk_cut hb)⟩
theorem Tl.app {h0 h : Heap} {k : Kd} {s : Sl} {xs : List (Den k)} (o : Tl h0 h k s xs) {x : Den k} (hone : k.flat = true) {sz bytes : Nat} (hsz : sz = k.size) (hb : (s.len + 1) * bytes ≤ 140737488355328) {K : Sl → Heap → Prop}
    (hK : ∀ t h', Tl h0 h' k t (xs ++ [x]) → Ext (blkOf s) h h' → (∀ b, blkOf t b → blkOf s b ∨ h b = none) → K t h') :
    Go.Mx.new h ([x].flatMap k.cells) fun p h1 => appendM sz bytes h1 s ⟨some p, 1, 1⟩ K :=
  o.own.app hone hsz hb fun t h' a b c => hK t h' ⟨a, le_ext o.le b o.new, fun q hq => (c q hq).elim (o.new q) fun e => o.le.none e⟩ b c

end Go.Mx
