/-
  Words for what functions do to abstract heaps: slices that are read, slices of one's own, append, store.
-/
import Derived.Test.YtndhbkhhehleaaaMxN
set_option linter.unusedVariables false
set_option linter.unusedSimpArgs false
namespace Go.Mx

theorem le.none {h h' : Heap} (l : le h h') {b : Nat} (e : h' b = none) : h b = none := by
  cases c : h b with
  | none => rfl
  | some o => rw [l b o c] at e; cases e

def Ext (S : Nat → Prop) (h h' : Heap) : Prop := (∀ b o, h b = some o → ¬ S b → h' b = some o) ∧ ∀ b, h' b = none → h b = none
theorem le.toExt {S : Nat → Prop} {h h' : Heap} (l : le h h') : Ext S h h' := ⟨fun b o x _ => l b o x, fun _ e => l.none e⟩
theorem Ext.refl (S : Nat → Prop) (h : Heap) : Ext S h h := ⟨fun _ _ e _ => e, fun _ e => e⟩
theorem Ext.trans {S : Nat → Prop} {h1 h2 h3 : Heap} (a : Ext S h1 h2) (b : Ext S h2 h3) : Ext S h1 h3 := ⟨fun x o e n => b.1 x o (a.1 x o e n) n, fun x e => a.2 x (b.2 x e)⟩
theorem Ext.mono {S T : Nat → Prop} {h h' : Heap} (e : Ext S h h') (n : ∀ b, S b → T b) : Ext T h h' := ⟨fun b o x c => e.1 b o x (fun q => c (n b q)), e.2⟩
theorem le_ext {S : Nat → Prop} {h0 h h' : Heap} (l : le h0 h) (e : Ext S h h') (f : ∀ b, S b → h0 b = none) : le h0 h' := fun b o x => e.1 b o (l b o x) (fun hs => by rw [f b hs] at x; cases x)

theorem cell_le {h h' : Heap} (l : le h h') {a : Addr} {v : Value} (c : cell h a = some v) : cell h' a = some v := by
  unfold cell at c ⊢
  split at c
  · rename_i cs ro e
    rw [l _ _ e]; exact c
  · cases c
theorem cellsAt_le {h h' : Heap} (l : le h h') {a : Addr} {vs : List Value} (c : cellsAt h a vs) : cellsAt h' a vs := fun j v e => cell_le l (c j v e)

def Arr (h : Heap) (k : Kd) (s : Sl) (xs : List (Den k)) : Prop := xs.length = s.len ∧ s.len ≤ s.cap ∧ match s.a with
  | some a => cellsAt h a (xs.flatMap k.cells)
  | none => s.len = 0
theorem Arr.le {h h' : Heap} (l : le h h') {k : Kd} {s : Sl} {xs : List (Den k)} (c : Arr h k s xs) : Arr h' k s xs := by
  obtain ⟨a, n, m⟩ := s
  cases a with
  | none => exact c
  | some a => exact ⟨c.1, c.2.1, cellsAt_le l c.2.2⟩

theorem add_add' (a : Addr) (i j : Nat) : (a.add i).add j = a.add (i + j) := by
  unfold Addr.add
  by_cases hi : i = 0 <;> by_cases hj : j = 0 <;> simp [hi, hj, Nat.add_assoc]

theorem flatMap_el {α : Type} (f : α → List Value) (m : Nat) (hf : ∀ x, (f x).length = m) {l : List α} {i : Nat} {x : α} (hi : l[i]? = some x) {j : Nat} {v : Value} (hj : (f x)[j]? = some v) : (l.flatMap f)[i * m + j]? = some v := by
  obtain ⟨p, r, hp, hlen⟩ := flatMap_at f m hf l i x hi
  rw [hp, List.append_assoc, List.getElem?_append_right (by omega), hlen, Nat.add_sub_cancel_left, List.getElem?_append_left (List.getElem?_eq_some_iff.1 hj).1]
  exact hj
theorem cellsAt_el {h : Heap} {a : Addr} {k : Kd} {xs : List (Den k)} (c : cellsAt h a (xs.flatMap k.cells)) {i : Nat} {x : Den k} (hi : xs[i]? = some x) : cellsAt h (a.add (i * k.size)) (k.cells x) := by
  intro j v hj
  rw [add_add']
  exact c _ v (flatMap_el k.cells k.size k.cells_len hi hj)

theorem Arr.at {h : Heap} {k : Kd} {s : Sl} {xs : List (Den k)} (c : Arr h k s xs) {i : Int} (h0 : 0 ≤ i) (h1 : i < (s.len : Int)) {K : Den k → Prop} {sz : Nat} (hsz : sz = k.size) (hK : ∀ x, xs[i.toNat]? = some x → K x) :
    deref s.a fun a => ld k h (a.add (i.toNat * sz)) K := by
  obtain ⟨a, n, m⟩ := s
  cases a with
  | none => have := c.2.2; dsimp only at this h1; omega
  | some a =>
    obtain ⟨q1, _, q2⟩ := c
    have hlt : i.toNat < xs.length := by rw [q1]; dsimp only at h1 ⊢; omega
    refine ⟨xs[i.toNat], ?_, hK _ (by simp [hlt])⟩
    rw [hsz]
    exact cellsAt_el q2 (by simp [hlt])

theorem upd_none {h : Heap} {b c : Nat} {o : HObj} (e : upd h b o c = none) : h c = none := by
  unfold upd at e
  split at e
  · cases e
  · exact e

def Blk (h : Heap) (b : Nat) (k : Kd) (ys : List (Den k)) (room : Nat) : Prop := ∃ z : List Value, z.length = room * k.size ∧ h b = some (.cells (ys.flatMap k.cells ++ z) false)
def Own (h : Heap) (k : Kd) (s : Sl) (ys : List (Den k)) : Prop :=
  (s = ⟨none, 0, 0⟩ ∧ ys = []) ∨ ∃ b, s.a = some ⟨b, 0, none⟩ ∧ s.len ≤ ys.length ∧ ys.length ≤ s.cap ∧ Blk h b k ys (s.cap - ys.length)
def blkOf (s : Sl) (b : Nat) : Prop := ∃ a, s.a = some a ∧ a.block = b

theorem Own.ext {h h' : Heap} {k : Kd} {s : Sl} {ys : List (Den k)} (o : Own h k s ys) {S : Nat → Prop} (e : Ext S h h') (n : ∀ b, blkOf s b → ¬ S b) : Own h' k s ys := by
  rcases o with o | ⟨b, h1, h2, h3, z, h4, h5⟩
  · exact .inl o
  · exact .inr ⟨b, h1, h2, h3, z, h4, e.1 b _ h5 (n b ⟨_, h1, rfl⟩)⟩
theorem Own.le {h h' : Heap} {k : Kd} {s : Sl} {ys : List (Den k)} (o : Own h k s ys) (l : le h h') : Own h' k s ys := o.ext (S := fun _ => False) l.toExt (fun _ _ => id)
theorem Own.blk {h : Heap} {k : Kd} {s : Sl} {ys : List (Den k)} (o : Own h k s ys) {b : Nat} (hb : blkOf s b) : h b ≠ none := by
  rcases o with ⟨o, _⟩ | ⟨c, h1, h2, h3, z, h4, h5⟩
  · subst o; obtain ⟨a, e, _⟩ := hb; cases e
  · obtain ⟨a, e, rfl⟩ := hb
    rw [h1] at e; cases e
    rw [h5]; exact fun e => by cases e
theorem cellsAt_blk {h : Heap} {b : Nat} {cs z : List Value} {ro : Bool} (e : h b = some (.cells (cs ++ z) ro)) : cellsAt h ⟨b, 0, none⟩ cs := by
  intro j v hj
  rw [add_none]
  unfold cell
  simp only [e, Option.isSome_none, Bool.false_eq_true, if_false, Nat.zero_add]
  rw [List.getElem?_append_left (List.getElem?_eq_some_iff.1 hj).1]
  exact hj
theorem Own.arr {h : Heap} {k : Kd} {s : Sl} {ys : List (Den k)} (o : Own h k s ys) : Arr h k s (ys.take s.len) := by
  rcases o with ⟨rfl, rfl⟩ | ⟨c, h1, h2, h3, z, h4, h5⟩
  · exact ⟨rfl, Nat.le_refl _, rfl⟩
  · refine ⟨by rw [List.length_take]; omega, by omega, ?_⟩
    rw [h1]
    have e : ys.flatMap k.cells = (ys.take s.len).flatMap k.cells ++ (ys.drop s.len).flatMap k.cells := by rw [← List.flatMap_append, List.take_append_drop]
    rw [e, List.append_assoc] at h5
    exact cellsAt_blk h5
theorem Own.full {h : Heap} {k : Kd} {s : Sl} {ys : List (Den k)} (o : Own h k s ys) (e : ys.length = s.len) : Arr h k s ys := by
  have := o.arr
  rwa [← e, List.take_length] at this

theorem flat_len {k : Kd} (l : List (Den k)) : (l.flatMap k.cells).length = l.length * k.size := flatMap_len _ _ k.cells_len l

theorem splice_at {k : Kd} {ys : List (Den k)} {i : Nat} {y : Den k} (hi : i < ys.length) (z : List Value) : splice (ys.flatMap k.cells ++ z) (i * k.size) (k.cells y) = (ys.set i y).flatMap k.cells ++ z := by
  obtain ⟨p, r, hp, hlen⟩ := flatMap_at k.cells k.size k.cells_len ys i ys[i] (by simp [hi])
  have hset : (ys.set i y).flatMap k.cells = (ys.take i).flatMap k.cells ++ k.cells y ++ (ys.drop (i + 1)).flatMap k.cells := by
    rw [List.set_eq_take_append_cons_drop, if_pos hi, List.flatMap_append, List.flatMap_cons]; simp
  have hys : ys.flatMap k.cells = (ys.take i).flatMap k.cells ++ (k.cells ys[i] ++ (ys.drop (i + 1)).flatMap k.cells) := by
    conv => lhs; rw [show ys = ys.take i ++ ys[i] :: ys.drop (i + 1) from by simp]
    rw [List.flatMap_append, List.flatMap_cons]
  have l1 : ((ys.take i).flatMap k.cells).length = i * k.size := by rw [flat_len]; simp; rw [Nat.min_eq_left (by omega)]
  rw [hset, hys]
  unfold splice
  simp only [List.append_assoc]
  rw [List.take_left' l1, ← List.drop_drop, List.drop_left' l1, List.drop_left' (by rw [Kd.cells_len, Kd.cells_len])]

theorem Own.set {h : Heap} {k : Kd} {s : Sl} {ys : List (Den k)} (o : Own h k s ys) {i : Int} (h0 : 0 ≤ i) (h1 : i < (s.len : Int)) {y : Den k} (hone : k.flat = true) {sz : Nat} (hsz : sz = k.size) {K : Heap → Prop}
    (hK : ∀ h', Own h' k s (ys.set i.toNat y) → Ext (blkOf s) h h' → K h') : deref s.a fun a => st k h (a.add (i.toNat * sz)) y K := by
  subst hsz
  rcases o with ⟨rfl, rfl⟩ | ⟨b, e1, e2, e3, z, e4, e5⟩
  · dsimp only at h1; omega
  · have hlt : i.toNat < ys.length := by omega
    have hle : i.toNat * k.size + k.size ≤ ys.length * k.size := by
      have : (i.toNat + 1) * k.size ≤ ys.length * k.size := Nat.mul_le_mul_right _ hlt
      rwa [Nat.succ_mul] at this
    rw [e1]
    show st k h ((⟨b, 0, none⟩ : Addr).add (i.toNat * k.size)) y K
    rw [add_none, Nat.zero_add]
    refine ⟨⟨rfl, _, e5, by rw [List.length_append, flat_len]; dsimp only; omega⟩, ?_⟩
    unfold flatOr
    rw [hone]
    have hw : write h ⟨b, i.toNat * k.size, none⟩ (k.cells y) = upd h b (.cells ((ys.set i.toNat y).flatMap k.cells ++ z) false) := by
      rw [write_eq (a := ⟨b, i.toNat * k.size, none⟩) e5]
      dsimp only
      rw [splice_at hlt]
    rw [hw]
    refine hK _ (.inr ⟨b, e1, by simp; exact e2, by simp; exact e3, z, by simp; exact e4, upd_same _ _ _⟩) ⟨fun c x hx hc => ?_, fun c hc => ?_⟩
    · rw [upd_ne _ _ (fun e => hc ⟨_, e1, e.symm⟩)]; exact hx
    · exact upd_none hc

theorem Own.app4 {h : Heap} {k : Kd} {s : Sl} {xs : List (Den k)} (o : Own h k s xs) (hl : xs.length = s.len) {x : Den k} (hone : k.flat = true) {sz bytes : Nat} (hsz : sz = k.size) (hb : (s.len + 1) * bytes ≤ 140737488355328) {K : Sl → Heap → Prop}
    (hK : ∀ t h', Own h' k t (xs ++ [x]) → t.len = s.len + 1 → Ext (blkOf s) h h' → (∀ b, blkOf t b → blkOf s b ∨ h b = none) → (t.a = s.a ∨ Go.Mx.le h h') → K t h') :
    new h ([x].flatMap k.cells) fun p h1 => appendM sz bytes h1 s ⟨some p, 1, 1⟩ K := by
  subst hsz
  intro p hp
  have hx1 : [x].flatMap k.cells = k.cells x := by simp
  rw [hx1]
  have hle := le_upd hp (.cells (k.cells x) false)
  have hps : ∀ b, blkOf s b → b ≠ p := fun b hbs e => by subst e; exact o.blk hbs hp
  refine ⟨hb, k.cells x, ⟨by rw [Kd.cells_len]; simp, ?_⟩, k.flat_one x hone, ?_, ?_⟩
  · have e1 : upd h p (.cells (k.cells x) false) p = some (.cells (k.cells x ++ []) false) := by rw [List.append_nil, upd_same]
    exact cellsAt_blk e1
  · intro hc
    rcases o with ⟨rfl, rfl⟩ | ⟨b, e1, e2, e3, z, e4, e5⟩
    · dsimp only at hc; omega
    · rw [e1]
      have hbp : b ≠ p := hps b ⟨_, e1, rfl⟩
      have e5' : upd h p (.cells (k.cells x) false) b = some (.cells (xs.flatMap k.cells ++ z) false) := by rw [upd_ne _ _ hbp]; exact e5
      have hc : s.len + 1 ≤ s.cap := hc
      have hz : k.size ≤ z.length := by
        rw [e4]
        have h1 : 1 * k.size ≤ (s.cap - xs.length) * k.size := Nat.mul_le_mul_right _ (by omega)
        rwa [Nat.one_mul] at h1
      show canWrite _ ((⟨b, 0, none⟩ : Addr).add (s.len * k.size)) (1 * k.size) ∧ K ⟨some ⟨b, 0, none⟩, s.len + 1, s.cap⟩ (write _ ((⟨b, 0, none⟩ : Addr).add (s.len * k.size)) (k.cells x))
      rw [add_none, Nat.zero_add, Nat.one_mul]
      refine ⟨⟨rfl, _, e5', by rw [List.length_append, flat_len, hl]; dsimp only; omega⟩, ?_⟩
      have hw : write (upd h p (.cells (k.cells x) false)) ⟨b, s.len * k.size, none⟩ (k.cells x) = upd (upd h p (.cells (k.cells x) false)) b (.cells ((xs ++ [x]).flatMap k.cells ++ z.drop k.size) false) := by
        rw [write_eq (a := ⟨b, s.len * k.size, none⟩) e5']
        dsimp only
        congr 2
        unfold splice
        have l1 : (xs.flatMap k.cells).length = s.len * k.size := by rw [flat_len, hl]
        rw [List.take_left' l1, ← List.drop_drop, List.drop_left' l1, Kd.cells_len, List.flatMap_append, hx1]
      rw [hw]
      refine hK _ _ (.inr ⟨b, rfl, by simp [hl], by simp [hl]; exact hc, z.drop k.size, ?_, upd_same _ _ _⟩) rfl ⟨fun c y hy hcb => ?_, fun c hc => upd_none (upd_none hc)⟩ (fun c hcb => .inl ?_) ?_
      · rw [List.length_drop, e4]
        simp only [List.length_append, List.length_singleton]
        rw [show s.cap - (xs.length + 1) = (s.cap - xs.length) - 1 from by omega, Nat.sub_mul (s.cap - xs.length), Nat.one_mul]
      · rw [upd_ne _ _ (fun e => hcb ⟨_, e1, e.symm⟩)]
        exact hle c y hy
      · obtain ⟨a, ea, rfl⟩ := hcb
        cases ea
        exact ⟨_, e1, rfl⟩
      · exact .inl e1.symm
  · intro hc
    refine ⟨xs.flatMap k.cells, ⟨by rw [flat_len, hl], ?_⟩, ?_⟩
    · rcases o with ⟨rfl, rfl⟩ | ⟨b, e1, e2, e3, z, e4, e5⟩
      · exact Nat.zero_mul _
      · rw [e1]
        have hbp : b ≠ p := hps b ⟨_, e1, rfl⟩
        have e5' : upd h p (.cells (k.cells x) false) b = some (.cells (xs.flatMap k.cells ++ z) false) := by rw [upd_ne _ _ hbp]; exact e5
        exact cellsAt_blk e5'
    · intro c z hcn hz b hbn
      have hbn' : h b = none := hle.none hbn
      have hcn : s.len + 1 ≤ c := hcn
      refine hK _ _ (.inr ⟨b, rfl, by simp [hl], by simp [hl]; exact hcn, z, ?_, ?_⟩) rfl ⟨fun q y hy _ => ?_, fun c hc => upd_none (upd_none hc)⟩ (fun q hq => .inr ?_) ?_
      · rw [hz]; simp [hl]
      · rw [upd_same, List.flatMap_append, hx1]
      · rw [upd_ne _ _ (fun e => by subst e; rw [hbn'] at hy; cases hy)]
        exact hle q y hy
      · obtain ⟨a, ea, rfl⟩ := hq
        cases ea
        exact hbn'
      · exact .inr (hle.trans (le_upd hbn _))

theorem Own.app {h : Heap} {k : Kd} {s : Sl} {xs : List (Den k)} (o : Own h k s xs) (hl : xs.length = s.len) {x : Den k} (hone : k.flat = true) {sz bytes : Nat} (hsz : sz = k.size) (hb : (s.len + 1) * bytes ≤ 140737488355328) {K : Sl → Heap → Prop}
    (hK : ∀ t h', Own h' k t (xs ++ [x]) → t.len = s.len + 1 → Ext (blkOf s) h h' → (∀ b, blkOf t b → blkOf s b ∨ h b = none) → K t h') :
    new h ([x].flatMap k.cells) fun p h1 => appendM sz bytes h1 s ⟨some p, 1, 1⟩ K := o.app4 hl hone hsz hb fun t h' a b c d _ => hK t h' a b c d

theorem Own.nil (h : Heap) (k : Kd) : Own h k ⟨none, 0, 0⟩ [] := .inl ⟨rfl, rfl⟩

structure New (h0 h : Heap) (k : Kd) (s : Sl) (xs : List (Den k)) : Prop where
  own : Own h k s xs
  len : xs.length = s.len
  le : le h0 h
  new : ∀ b, blkOf s b → h0 b = none
theorem New.nil (h : Heap) (k : Kd) : New h h k ⟨none, 0, 0⟩ [] := ⟨Own.nil h k, rfl, fun _ _ e => e, fun b hb => by obtain ⟨a, e, _⟩ := hb; cases e⟩
theorem New.app {h0 h : Heap} {k : Kd} {s : Sl} {xs : List (Den k)} (o : New h0 h k s xs) {x : Den k} (hone : k.flat = true) {sz bytes : Nat} (hsz : sz = k.size) (hb : (s.len + 1) * bytes ≤ 140737488355328) {K : Sl → Heap → Prop}
    (hK : ∀ t h', New h0 h' k t (xs ++ [x]) → K t h') : Go.Mx.new h ([x].flatMap k.cells) fun p h1 => appendM sz bytes h1 s ⟨some p, 1, 1⟩ K :=
  o.own.app o.len hone hsz hb fun t h' q1 q2 q3 q4 => hK t h' ⟨q1, by simp [q2, o.len], le_ext o.le q3 o.new, fun b hb => by
    rcases q4 b hb with c | c
    · exact o.new b c
    · exact o.le.none c⟩
theorem New.app3 {h0 h : Heap} {k : Kd} {s : Sl} {xs : List (Den k)} (o : New h0 h k s xs) {x : Den k} (hone : k.flat = true) {sz bytes : Nat} (hsz : sz = k.size) (hb : (s.len + 1) * bytes ≤ 140737488355328) {K : Sl → Heap → Prop}
    (hK : ∀ t h', New h0 h' k t (xs ++ [x]) → Ext (blkOf s) h h' → (∀ b, blkOf t b → blkOf s b ∨ h b = none) → K t h') : Go.Mx.new h ([x].flatMap k.cells) fun p h1 => appendM sz bytes h1 s ⟨some p, 1, 1⟩ K :=
  o.own.app o.len hone hsz hb fun t h' q1 q2 q3 q4 => hK t h' ⟨q1, by simp [q2, o.len], le_ext o.le q3 o.new, fun b hb => by
    rcases q4 b hb with c | c
    · exact o.new b c
    · exact o.le.none c⟩ q3 q4
theorem New.more {h0 h h' : Heap} {k : Kd} {s : Sl} {xs : List (Den k)} (o : New h0 h k s xs) (l : Go.Mx.le h h') : New h0 h' k s xs := ⟨o.own.le l, o.len, o.le.trans l, o.new⟩
theorem New.ext {h0 h h' : Heap} {k : Kd} {s : Sl} {xs : List (Den k)} (o : New h0 h k s xs) {S : Nat → Prop} (e : Ext S h h') (n : ∀ b, blkOf s b → ¬ S b) (f : ∀ b, S b → h0 b = none) : New h0 h' k s xs := ⟨o.own.ext e n, o.len, le_ext o.le e f, o.new⟩
theorem add_block (a : Addr) (n : Nat) : (a.add n).block = a.block := by
  unfold Addr.add
  split <;> rfl
theorem cell_ext {h h' : Heap} {S : Nat → Prop} (e : Ext S h h') {a : Addr} (n : ¬ S a.block) {v : Value} (c : cell h a = some v) : cell h' a = some v := by
  unfold cell at c ⊢
  split at c
  · rename_i cs ro q
    rw [e.1 _ _ q n]; exact c
  · cases c
theorem Arr.ext {h h' : Heap} {S : Nat → Prop} (e : Ext S h h') {k : Kd} {s : Sl} {xs : List (Den k)} (c : Arr h k s xs) (n : ∀ b, blkOf s b → ¬ S b) : Arr h' k s xs := by
  obtain ⟨a, l, m⟩ := s
  cases a with
  | none => exact c
  | some a => exact ⟨c.1, c.2.1, fun j v q => cell_ext e (by rw [add_block]; exact n _ ⟨a, rfl, rfl⟩) (c.2.2 j v q)⟩
theorem Arr.live {h : Heap} {k : Kd} {s : Sl} {xs : List (Den k)} (c : Arr h k s xs) (n : xs ≠ []) (hp : 0 < k.size) {b : Nat} (hb : blkOf s b) : h b ≠ none := by
  obtain ⟨a, e, rfl⟩ := hb
  obtain ⟨c1, c2, c3⟩ := c
  rw [e] at c3
  have hl : 0 < (xs.flatMap k.cells).length := by rw [flat_len]; exact Nat.mul_pos (List.length_pos_iff.2 n) hp
  have := c3 0 _ (List.getElem?_eq_getElem hl)
  have e0 : a.add 0 = a := rfl
  rw [e0] at this
  unfold cell at this
  intro q
  rw [q] at this
  cases this
theorem New.arr {h0 h : Heap} {k : Kd} {s : Sl} {xs : List (Den k)} (o : New h0 h k s xs) : Arr h k s xs := o.own.full o.len

theorem cellsAt_append {h : Heap} {a : Addr} {l r : List Value} (c : cellsAt h a (l ++ r)) : cellsAt h a l ∧ cellsAt h (a.add l.length) r := by
  refine ⟨fun j v e => c j v (by rw [List.getElem?_append_left (List.getElem?_eq_some_iff.1 e).1]; exact e), fun j v e => ?_⟩
  rw [add_add']
  exact c _ v (by rw [List.getElem?_append_right (by omega), Nat.add_sub_cancel_left]; exact e)
theorem Arr.suf {h : Heap} {k : Kd} {s : Sl} {xs : List (Den k)} (c : Arr h k s xs) {n : Nat} (hn : n ≤ s.len) {sz : Nat} (hsz : sz = k.size) : Arr h k (s.cut n s.len sz) (xs.drop n) := by
  subst hsz
  obtain ⟨c1, c2, c3⟩ := c
  obtain ⟨a, m, p⟩ := s
  dsimp only at c1 c2 c3 hn
  refine ⟨by simp [Sl.cut]; omega, by simp [Sl.cut]; omega, ?_⟩
  cases a with
  | none =>
    have : (Sl.cut ⟨none, m, p⟩ n m k.size).a = none := by unfold Sl.cut; split <;> rfl
    dsimp only at this c3 ⊢
    rw [this]; show m - n = 0; omega
  | some a =>
    by_cases hp : p = n
    · have : (Sl.cut ⟨some a, m, p⟩ n m k.size).a = some a := by unfold Sl.cut; rw [if_pos hp]
      dsimp only at this ⊢
      rw [this, List.drop_of_length_le (by omega)]
      intro j v e; cases e
    · have : (Sl.cut ⟨some a, m, p⟩ n m k.size).a = some (a.add (n * k.size)) := by unfold Sl.cut; rw [if_neg hp]; rfl
      dsimp only at this ⊢
      rw [this]
      have e : xs.flatMap k.cells = (xs.take n).flatMap k.cells ++ (xs.drop n).flatMap k.cells := by rw [← List.flatMap_append, List.take_append_drop]
      dsimp only at c3
      rw [e] at c3
      have l1 : ((xs.take n).flatMap k.cells).length = n * k.size := by rw [flat_len, List.length_take, Nat.min_eq_left (by omega)]
      have := (cellsAt_append c3).2
      rwa [l1] at this

theorem make_new {h : Heap} {k : Kd} {bytes : Nat} {n c : Int} (h0 : 0 ≤ n) (h1 : n ≤ c) (h2 : bytes * c ≤ 281474976710656) (h3 : c ≤ 9223372036854775807) {K : Sl → Heap → Prop}
    (hK : ∀ s h', New h h' k s (List.replicate n.toNat k.zero) → s.len = n.toNat → s.cap = c.toNat → s.a ≠ none → K s h') : makeM k bytes h n c K := by
  refine ⟨⟨h0, h1, h2, h3⟩, fun b hb => hK _ _ ⟨.inr ⟨b, rfl, by simp, by simp; omega, ?_⟩, by simp, le_upd hb _, ?_⟩ rfl rfl (by simp)⟩
  · refine ⟨(List.replicate (c.toNat - n.toNat) (k.cells k.zero)).flatten, ?_, ?_⟩
    · rw [List.length_flatten]; simp [Kd.cells_len]
    · rw [upd_same]
      congr 2
      have : c.toNat = n.toNat + (c.toNat - n.toNat) := by omega
      conv => lhs; rw [this, ← List.replicate_append_replicate, List.flatten_append]
      rw [List.flatMap_replicate]
  · rintro q ⟨a, e, rfl⟩
    cases e
    exact hb

theorem Own.copy {h : Heap} {k : Kd} {d s : Sl} {ys xs : List (Den k)} (o : Own h k d ys) (hl : ys.length = d.len) (hs : Arr h k s xs) (he : s.len = d.len) (hone : k.flat = true) {sz : Nat} (hsz : sz = k.size) {K : Int → Heap → Prop}
    (hK : ∀ n h', Own h' k d xs → Ext (blkOf d) h h' → K n h') : copyM sz h d s K := by
  subst hsz
  have hm : min s.len d.len = s.len := by rw [he, Nat.min_self]
  unfold copyM
  rw [hm]
  refine ⟨xs.flatMap k.cells, ⟨by rw [flat_len, hs.1], ?_⟩, ?_, ?_⟩
  · have := hs.2.2
    revert this
    cases s.a with
    | none => intro e; show s.len * k.size = 0; rw [show s.len = 0 from e, Nat.zero_mul]
    | some a => exact id
  · intro v hv
    obtain ⟨x, _, hx⟩ := List.mem_flatMap.1 hv
    exact k.flat_one x hone v hx
  · rcases o with ⟨rfl, rfl⟩ | ⟨b, e1, e2, e3, z, e4, e5⟩
    · have hx : xs = [] := List.eq_nil_of_length_eq_zero (by rw [hs.1, he])
      subst hx
      exact hK _ _ (.inl ⟨rfl, rfl⟩) (.refl _ _)
    · rw [e1]
      have hxl : xs.length = ys.length := by rw [hs.1, he, hl]
      refine ⟨⟨rfl, _, e5, ?_⟩, ?_⟩
      · rw [List.length_append, flat_len, ← hxl, hs.1]; dsimp only; omega
      · have hw : write h ⟨b, 0, none⟩ (xs.flatMap k.cells) = upd h b (.cells (xs.flatMap k.cells ++ z) false) := by
          rw [write_eq (a := ⟨b, 0, none⟩) e5]
          dsimp only
          congr 2
          unfold splice
          rw [List.take_zero, List.nil_append, Nat.zero_add, List.drop_left' (by rw [flat_len, flat_len, hxl])]
        rw [hw]
        refine hK _ _ (.inr ⟨b, e1, by omega, by omega, z, by rw [e4, hxl], upd_same _ _ _⟩) ⟨fun c x hx hc => ?_, fun c hc => upd_none hc⟩
        rw [upd_ne _ _ (fun e => hc ⟨_, e1, e.symm⟩)]; exact hx

theorem New.mk0 {h : Heap} {k : Kd} {K : Addr → Heap → Prop} (hK : ∀ p h', New h h' k ⟨some p, 0, 0⟩ [] → K p h') : Go.Mx.new h (([] : List (Den k)).flatMap k.cells) K := by
  intro b hb
  refine hK _ _ ⟨.inr ⟨b, rfl, Nat.le_refl _, Nat.le_refl _, [], by simp, by rw [upd_same]; simp⟩, rfl, le_upd hb _, ?_⟩
  rintro q ⟨a, e, rfl⟩
  cases e
  exact hb

theorem New.apps {h0 h : Heap} {k : Kd} {s x : Sl} {xs ys : List (Den k)} (o : New h0 h k s xs) (hx : Arr h k x ys) (hone : k.flat = true) {sz bytes : Nat} (hsz : sz = k.size) (hb : (s.len + x.len) * bytes ≤ 140737488355328) {K : Sl → Heap → Prop}
    (hK : ∀ t h', New h0 h' k t (xs ++ ys) → K t h') : appendM sz bytes h s x K := by
  subst hsz
  obtain ⟨hO, hl, hle, hnew⟩ := o
  have hyl : (ys.flatMap k.cells).length = x.len * k.size := by rw [flat_len, hx.1]
  have hlen : (xs ++ ys).length = s.len + x.len := by rw [List.length_append, hl, hx.1]
  refine ⟨hb, ys.flatMap k.cells, ⟨hyl, ?_⟩, ?_, ?_, ?_⟩
  · have := hx.2.2
    revert this
    cases x.a with
    | none => intro e; show x.len * k.size = 0; rw [show x.len = 0 from e, Nat.zero_mul]
    | some a => exact id
  · intro v hv
    obtain ⟨y, _, hy⟩ := List.mem_flatMap.1 hv
    exact k.flat_one y hone v hy
  · intro hc
    rcases hO with ⟨rfl, rfl⟩ | ⟨b, e1, e2, e3, z, e4, e5⟩
    · have hc : 0 + x.len ≤ 0 := hc
      have hy : ys = [] := List.eq_nil_of_length_eq_zero (by rw [hx.1]; omega)
      subst hy
      refine hK _ _ ⟨.inl ⟨?_, rfl⟩, hlen, hle, ?_⟩
      · show (⟨none, 0 + x.len, 0⟩ : Sl) = _
        rw [show 0 + x.len = 0 from by omega]
      · rintro q ⟨a, e, _⟩; cases e
    · rw [e1]
      have hz : x.len * k.size ≤ z.length := by rw [e4]; exact Nat.mul_le_mul_right _ (by omega)
      show canWrite _ ((⟨b, 0, none⟩ : Addr).add (s.len * k.size)) (x.len * k.size) ∧ K ⟨some ⟨b, 0, none⟩, s.len + x.len, s.cap⟩ (write _ ((⟨b, 0, none⟩ : Addr).add (s.len * k.size)) (ys.flatMap k.cells))
      rw [add_none, Nat.zero_add]
      refine ⟨⟨rfl, _, e5, by rw [List.length_append, flat_len, hl]; dsimp only; omega⟩, ?_⟩
      have hw : write h ⟨b, s.len * k.size, none⟩ (ys.flatMap k.cells) = upd h b (.cells ((xs ++ ys).flatMap k.cells ++ z.drop (x.len * k.size)) false) := by
        rw [write_eq (a := ⟨b, s.len * k.size, none⟩) e5]
        dsimp only
        congr 2
        unfold splice
        have l1 : (xs.flatMap k.cells).length = s.len * k.size := by rw [flat_len, hl]
        rw [List.take_left' l1, ← List.drop_drop, List.drop_left' l1, hyl, List.flatMap_append]
      rw [hw]
      have hext : Ext (blkOf s) h (upd h b (.cells ((xs ++ ys).flatMap k.cells ++ z.drop (x.len * k.size)) false)) :=
        ⟨fun c y hy hcb => by rw [upd_ne _ _ (fun e => hcb ⟨_, e1, e.symm⟩)]; exact hy, fun c hc => upd_none hc⟩
      refine hK _ _ ⟨.inr ⟨b, rfl, by rw [hlen]; exact Nat.le_refl _, by rw [hlen]; exact hc, z.drop (x.len * k.size), ?_, upd_same _ _ _⟩, hlen, le_ext hle hext hnew, ?_⟩
      · rw [List.length_drop, e4, hlen, hl]
        show _ = (s.cap - (s.len + x.len)) * k.size
        rw [show s.cap - (s.len + x.len) = (s.cap - s.len) - x.len from by omega, Nat.sub_mul (s.cap - s.len)]
      · rintro q ⟨a, ea, rfl⟩
        cases ea
        exact hnew _ ⟨_, e1, rfl⟩
  · intro hc
    refine ⟨xs.flatMap k.cells, ⟨by rw [flat_len, hl], ?_⟩, ?_⟩
    · rcases hO with ⟨rfl, rfl⟩ | ⟨b, e1, e2, e3, z, e4, e5⟩
      · exact Nat.zero_mul _
      · rw [e1]; exact cellsAt_blk e5
    · intro c z hcn hz b hbn
      have hlu := le_upd hbn (.cells (xs.flatMap k.cells ++ ys.flatMap k.cells ++ z) false)
      refine hK _ _ ⟨.inr ⟨b, rfl, by rw [hlen]; exact Nat.le_refl _, by rw [hlen]; exact hcn, z, ?_, ?_⟩, hlen, fun q y hy => hlu q y (hle q y hy), ?_⟩
      · rw [hz, hlen]
      · rw [upd_same, List.flatMap_append]
      · rintro q ⟨a, ea, rfl⟩
        cases ea
        exact hle.none hbn

theorem flatten_replicate {k : Kd} (n : Nat) (x : Den k) : (List.replicate n (k.cells x)).flatten = (List.replicate n x).flatMap k.cells := by
  rw [List.flatMap_replicate]
theorem New.appz {h0 h : Heap} {k : Kd} {s : Sl} {xs : List (Den k)} (o : New h0 h k s xs) {n : Int} (hn : 0 ≤ n) (hone : k.flat = true) {bytes : Nat} (hb : (s.len + n.toNat) * bytes ≤ 140737488355328) {K : Sl → Heap → Prop}
    (hK : ∀ t h', New h0 h' k t (xs ++ List.replicate n.toNat k.zero) → Ext (blkOf s) h h' → (∀ b, blkOf t b → blkOf s b ∨ h b = none) → K t h') : appendZM k bytes h s n K := by
  obtain ⟨hO, hl, hle, hnew⟩ := o
  unfold appendZM
  rw [flatten_replicate]
  generalize hys : List.replicate n.toNat k.zero = ys at hK ⊢
  have hy : ys.length = n.toNat := by rw [← hys]; simp
  generalize n.toNat = m at hb hy ⊢
  have hyl : (ys.flatMap k.cells).length = m * k.size := by rw [flat_len, hy]
  have hlen : (xs ++ ys).length = s.len + m := by rw [List.length_append, hl, hy]
  refine ⟨hn, hb, fun v hv => k.flat_one k.zero hone v hv, ?_, ?_⟩
  · intro hc
    rcases hO with ⟨rfl, rfl⟩ | ⟨b, e1, e2, e3, z, e4, e5⟩
    · have hc : 0 + m ≤ 0 := hc
      have hy0 : ys = [] := List.eq_nil_of_length_eq_zero (by rw [hy]; omega)
      subst hy0
      refine hK _ _ ⟨.inl ⟨?_, rfl⟩, hlen, hle, ?_⟩ (Ext.refl _ _) ?_
      · show (⟨none, 0 + m, 0⟩ : Sl) = _
        rw [show 0 + m = 0 from by omega]
      · rintro q ⟨a, e, _⟩; cases e
      · rintro q ⟨a, e, _⟩; cases e
    · rw [e1]
      have hz : m * k.size ≤ z.length := by rw [e4]; exact Nat.mul_le_mul_right _ (by omega)
      show canWrite _ ((⟨b, 0, none⟩ : Addr).add (s.len * k.size)) (m * k.size) ∧ K ⟨some ⟨b, 0, none⟩, s.len + m, s.cap⟩ (write h ((⟨b, 0, none⟩ : Addr).add (s.len * k.size)) (ys.flatMap k.cells))
      rw [add_none, Nat.zero_add]
      refine ⟨⟨rfl, _, e5, by rw [List.length_append, flat_len, hl]; dsimp only; omega⟩, ?_⟩
      have hw : write h ⟨b, s.len * k.size, none⟩ (ys.flatMap k.cells) = upd h b (.cells ((xs ++ ys).flatMap k.cells ++ z.drop (m * k.size)) false) := by
        rw [write_eq (a := ⟨b, s.len * k.size, none⟩) e5]
        dsimp only
        congr 2
        unfold splice
        have l1 : (xs.flatMap k.cells).length = s.len * k.size := by rw [flat_len, hl]
        rw [List.take_left' l1, ← List.drop_drop, List.drop_left' l1, hyl, List.flatMap_append]
      rw [hw]
      have hext : Ext (blkOf s) h (upd h b (.cells ((xs ++ ys).flatMap k.cells ++ z.drop (m * k.size)) false)) :=
        ⟨fun c y hy hcb => by rw [upd_ne _ _ (fun e => hcb ⟨_, e1, e.symm⟩)]; exact hy, fun c hc => upd_none hc⟩
      refine hK _ _ ⟨.inr ⟨b, rfl, by rw [hlen]; exact Nat.le_refl _, by rw [hlen]; exact hc, z.drop (m * k.size), ?_, upd_same _ _ _⟩, hlen, le_ext hle hext hnew, ?_⟩ hext ?_
      · rw [List.length_drop, e4, hlen, hl]
        show _ = (s.cap - (s.len + m)) * k.size
        rw [show s.cap - (s.len + m) = (s.cap - s.len) - m from by omega, Nat.sub_mul (s.cap - s.len)]
      · rintro q ⟨a, ea, rfl⟩
        cases ea
        exact hnew _ ⟨_, e1, rfl⟩
      · rintro q ⟨a, ea, rfl⟩
        cases ea
        exact .inl ⟨_, e1, rfl⟩
  · intro hc
    refine ⟨xs.flatMap k.cells, ⟨by rw [flat_len, hl], ?_⟩, ?_⟩
    · rcases hO with ⟨rfl, rfl⟩ | ⟨b, e1, e2, e3, z, e4, e5⟩
      · exact Nat.zero_mul _
      · rw [e1]; exact cellsAt_blk e5
    · intro c z hcn hz b hbn
      have hlu := le_upd hbn (.cells (xs.flatMap k.cells ++ ys.flatMap k.cells ++ z) false)
      refine hK _ _ ⟨.inr ⟨b, rfl, by rw [hlen]; exact Nat.le_refl _, by rw [hlen]; exact hcn, z, ?_, ?_⟩, hlen, fun q y hy => hlu q y (hle q y hy), ?_⟩ (le.toExt hlu) ?_
      · rw [hz, hlen]
      · rw [upd_same, List.flatMap_append]
      · rintro q ⟨a, ea, rfl⟩
        cases ea
        exact hle.none hbn
      · rintro q ⟨a, ea, rfl⟩
        cases ea
        exact .inr hbn

theorem Loop.up {σ : Type} {body : (σ → Heap → Prop) → σ → Heap → Prop} (n : Nat) (cnt : σ → Int) (I : Nat → σ → Heap → Prop) {s : σ} {h : Heap} (h0 : cnt s = 0) (h1 : I 0 s h)
    (hb : ∀ i s h go, i ≤ n → cnt s = (i : Int) → I i s h → (i < n → ∀ s' h', cnt s' = ((i + 1 : Nat) : Int) → I (i + 1) s' h' → go s' h') → body go s h) : Loop body s h := by
  refine ⟨fun s h => ∃ i : Nat, i ≤ n ∧ cnt s = (i : Int) ∧ I i s h, fun s h => n - (cnt s).toNat, ⟨0, Nat.zero_le _, h0, h1⟩, ?_⟩
  rintro s h ⟨i, hi, hc, hI⟩
  refine hb i s h _ hi hc hI fun hlt s' h' hc' hI' => ⟨⟨i + 1, hlt, hc', hI'⟩, ?_⟩
  show n - (cnt s').toNat < n - (cnt s).toNat
  rw [hc, hc']
  simp only [Int.toNat_natCast]
  omega

def Kd.plain' : Kd → Bool
  | .int _ | .bool | .str | .nil => true
  | .pair a b => a.plain' && b.plain'
  | .arr _ a => a.plain'
  | _ => false
theorem eqK_refl : ∀ (k : Kd) (x : Den k), k.plain' = true → eqK k x x = true
  | .int _, x, _ | .bool, x, _ | .str, x, _ => by simp [eqK]
  | .pair a b, x, h => by
    simp only [Kd.plain', Bool.and_eq_true] at h
    simp only [eqK, Bool.and_eq_true]
    exact ⟨eqK_refl a x.1 h.1, eqK_refl b x.2 h.2⟩
  | .arr n a, x, h => by
    simp only [eqK, List.all_eq_true]
    exact fun i _ => eqK_refl a (x i) h
  | .nil, x, _ => rfl

theorem w64_of {x : Int} (h0 : -9223372036854775808 ≤ x) (h1 : x < 9223372036854775808) : w64 x = x := by
  simp [IntKind.wrap, IntKind.bits, IntKind.signed]; omega

end Go.Mx
