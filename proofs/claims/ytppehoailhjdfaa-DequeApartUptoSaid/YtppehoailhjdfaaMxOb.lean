/-
  Objects: a block that holds one value; its parts are read and written.
-/
import Derived.Test.YtppehoailhjdfaaMxT
set_option linter.unusedVariables false
set_option linter.unusedSimpArgs false
namespace Go.Mx

abbrev ki : Kd := .int .i64
abbrev kb : Kd := .bool
theorem take_succ' {α : Type} (l : List α) {i : Nat} (h : i < l.length) : l.take (i + 1) = l.take i ++ [l[i]] := by simp

/-- Block b holds x, and may be written. -/
def Obj (h : Heap) (b : Nat) (k : Kd) (x : Den k) : Prop := h b = some (.cells (k.cells x) false)
abbrev ptr (b : Nat) : Addr := ⟨b, 0, none⟩
/-- y is the part of x at the offset. -/
def PartAt (k kf : Kd) (off : Nat) (x : Den k) (y : Den kf) : Prop := ∃ pre post, k.cells x = pre ++ kf.cells y ++ post ∧ pre.length = off

theorem Obj.live {h : Heap} {b : Nat} {k : Kd} {x : Den k} (o : Obj h b k x) : h b ≠ none := by rw [o]; exact fun e => by cases e
theorem Obj.ext {h h' : Heap} {b : Nat} {k : Kd} {x : Den k} (o : Obj h b k x) {S : Nat → Prop} (e : Ext S h h') (n : ¬ S b) : Obj h' b k x := e.1 b _ o n
theorem Obj.le {h h' : Heap} {b : Nat} {k : Kd} {x : Den k} (o : Obj h b k x) (l : le h h') : Obj h' b k x := l b _ o
theorem Obj.ld {h : Heap} {b : Nat} {k kf : Kd} {x : Den k} (o : Obj h b k x) {y : Den kf} {off : Nat} (hp : PartAt k kf off x y) {K : Den kf → Prop} (hK : K y) : ld kf h ((ptr b).add off) K := by
  obtain ⟨pre, post, e1, e2⟩ := hp
  subst e2
  refine ⟨y, ?_, hK⟩
  have e : h b = some (.cells (k.cells x ++ []) false) := by rw [List.append_nil]; exact o
  have := cellsAt_blk e
  rw [e1, List.append_assoc] at this
  exact (cellsAt_append (cellsAt_append this).2).1
theorem Obj.st {h : Heap} {b : Nat} {k kf : Kd} {x : Den k} (o : Obj h b k x) {x' : Den k} {v : Den kf} {off : Nat} (hc : k.cells x' = splice (k.cells x) off (kf.cells v)) (ho : off + kf.size ≤ k.size) (hone : kf.flat = true) {K : Heap → Prop}
    (hK : ∀ h', Obj h' b k x' → Ext (· = b) h h' → K h') : st kf h ((ptr b).add off) v K := by
  rw [add_none, Nat.zero_add]
  refine ⟨⟨rfl, _, o, by dsimp only; rw [Kd.cells_len]; exact ho⟩, ?_⟩
  unfold flatOr
  rw [hone]
  have hw : write h ⟨b, off, none⟩ (kf.cells v) = upd h b (.cells (k.cells x') false) := by rw [write_eq (a := ⟨b, off, none⟩) o, hc]
  rw [hw]
  exact hK _ (upd_same _ _ _) ⟨fun c y hy hc => by rw [upd_ne _ _ hc]; exact hy, fun c hc => upd_none hc⟩
/-- A new object. -/
theorem Obj.new {h : Heap} {k : Kd} {x : Den k} {K : Addr → Heap → Prop} (hK : ∀ b h', h b = none → Obj h' b k x → Go.Mx.le h h' → K (ptr b) h') : Go.Mx.new h (k.cells x) K :=
  fun b hb => hK b _ hb (upd_same _ _ _) (le_upd hb _)

theorem Obj.sees {h : Heap} {b : Nat} {k kf : Kd} {x : Den k} (o : Obj h b k x) {y : Den kf} {off : Nat} (hp : PartAt k kf off x y) : sees h (some ((ptr b).add off)) kf y := by
  obtain ⟨y', h1, rfl⟩ := o.ld hp (K := fun z => z = y) rfl
  exact h1

/-- The first i of the one, the rest of the other. -/
def mix {α : Type} (i : Nat) (xs ys : List α) : List α := xs.take i ++ ys.drop i
theorem mix_zero {α : Type} (xs ys : List α) : mix 0 xs ys = ys := rfl
theorem mix_all {α : Type} {xs ys : List α} {n : Nat} (h : xs.length = n) (e : xs.length = ys.length) : mix n xs ys = xs := by
  unfold mix
  rw [List.take_of_length_le (by omega), List.drop_of_length_le (by omega), List.append_nil]
theorem mix_len {α : Type} {xs ys : List α} (e : xs.length = ys.length) (i : Nat) : (mix i xs ys).length = ys.length := by
  unfold mix
  rw [List.length_append, List.length_take, List.length_drop]; omega
theorem mix_set {α : Type} {xs ys : List α} (e : xs.length = ys.length) {i : Nat} {x : α} (h : xs[i]? = some x) : (mix i xs ys).set i x = mix (i + 1) xs ys := by
  have hi := (List.getElem?_eq_some_iff.1 h).1
  unfold mix
  rw [List.set_append_right _ _ (by simp; omega), List.length_take, Nat.min_eq_left (by omega), Nat.sub_self]
  have : ys.drop i = ys[i]'(by omega) :: ys.drop (i + 1) := by simp
  rw [this, List.set_cons_zero, take_succ' xs hi]
  obtain ⟨_, rfl⟩ := List.getElem?_eq_some_iff.1 h
  rw [List.append_assoc]
  rfl


def Apart (s t : Sl) : Prop := ∀ b, blkOf s b → ¬ blkOf t b
theorem Apart.symm {s t : Sl} (h : Apart s t) : Apart t s := fun b x y => h b y x
def Live (h : Heap) (s : Sl) : Prop := ∀ b, blkOf s b → h b ≠ none
theorem Live.le {h h' : Heap} {s : Sl} (l : Live h s) (e : le h h') : Live h' s := fun b hb c => l b hb (e.none c)
theorem Live.ext {h h' : Heap} {s : Sl} (l : Live h s) {S : Nat → Prop} (e : Ext S h h') : Live h' s := fun b hb c => l b hb (e.2 b c)
theorem Own.live {h : Heap} {k : Kd} {s : Sl} {ys : List (Den k)} (o : Own h k s ys) : Live h s := fun b hb => o.blk hb
theorem Live.apart {h : Heap} {s t : Sl} (l : Live h s) (n : ∀ b, blkOf t b → h b = none) : Apart s t := fun b x y => l b x (n b y)
theorem New.base {h0 h1 h : Heap} {k : Kd} {s : Sl} {xs : List (Den k)} (o : New h1 h k s xs) (l : Go.Mx.le h0 h1) : New h0 h k s xs := ⟨o.own, o.len, l.trans o.le, fun b hb => l.none (o.new b hb)⟩
theorem New.set {h0 h : Heap} {k : Kd} {s : Sl} {xs : List (Den k)} (o : New h0 h k s xs) {i : Int} (q0 : 0 ≤ i) (q1 : i < (s.len : Int)) {y : Den k} (hone : k.flat = true) {sz : Nat} (hsz : sz = k.size) {K : Heap → Prop}
    (hK : ∀ h', New h0 h' k s (xs.set i.toNat y) → Ext (blkOf s) h h' → K h') : deref s.a fun a => Go.Mx.st k h (a.add (i.toNat * sz)) y K :=
  o.own.set q0 q1 hone hsz fun h' a b => hK h' ⟨a, by rw [List.length_set]; exact o.len, le_ext o.le b o.new, o.new⟩ b

theorem cellsAt_part {h : Heap} {a : Addr} {pre l post : List Value} {off : Nat} (c : cellsAt h a (pre ++ l ++ post)) (e : pre.length = off) : cellsAt h (a.add off) l := by
  subst e
  rw [List.append_assoc] at c
  exact (cellsAt_append (cellsAt_append c).2).1
theorem Arr.part {h : Heap} {k kp : Kd} {s : Sl} {xs : List (Den k)} (c : Arr h k s xs) {i : Int} (h0 : 0 ≤ i) (h1 : i < (s.len : Int)) {f : Den k → Den kp} {K : Den kp → Prop} {sz off : Nat} (hsz : sz = k.size)
    (hf : ∀ x, ∃ pre post, k.cells x = pre ++ kp.cells (f x) ++ post ∧ pre.length = off) (hK : ∀ x, xs[i.toNat]? = some x → K (f x)) :
    deref s.a fun a => ld kp h ((a.add (i.toNat * sz)).add off) K := by
  obtain ⟨a, n, m⟩ := s
  cases a with
  | none => have := c.2.2; dsimp only at this h1; omega
  | some a =>
    obtain ⟨q1, _, q2⟩ := c
    have hlt : i.toNat < xs.length := by rw [q1]; dsimp only at h1 ⊢; omega
    obtain ⟨pre, post, e1, e2⟩ := hf xs[i.toNat]
    refine ⟨f xs[i.toNat], ?_, hK _ (by simp [hlt])⟩
    have := cellsAt_el q2 (i := i.toNat) (x := xs[i.toNat]) (by simp [hlt])
    rw [e1] at this
    rw [hsz]
    exact cellsAt_part this e2


/-- From h to h' only blocks of S were touched; what is S' then was of S, or is new. -/
def Step (S S' : Nat → Prop) (h h' : Heap) : Prop := Ext S h h' ∧ ∀ x, S' x → S x ∨ h x = none
theorem Step.refl (S : Nat → Prop) (h : Heap) : Step S S h h := ⟨Ext.refl _ _, fun _ e => .inl e⟩
theorem Step.trans {S S' S'' : Nat → Prop} {h h' h'' : Heap} (a : Step S S' h h') (b : Step S' S'' h' h'') : Step S S'' h h'' := by
  refine ⟨⟨fun x o e n => b.1.1 x o (a.1.1 x o e n) (fun q => ?_), fun x e => a.1.2 x (b.1.2 x e)⟩, fun x q => ?_⟩
  · rcases a.2 x q with c | c
    · exact n c
    · rw [c] at e; cases e
  · rcases b.2 x q with c | c
    · exact a.2 x c
    · exact .inr (a.1.2 x c)

theorem Step.off {S S' T : Nat → Prop} {h h' : Heap} (s : Step S S' h h') (d : ∀ x, T x → ¬ S x) (l : ∀ x, T x → h x ≠ none) : ∀ x, T x → ¬ S' x := fun x t q => by
  rcases s.2 x q with c | c
  · exact d x t c
  · exact l x t c

theorem Step.weak {S S' S'' : Nat → Prop} {h h' : Heap} (a : Step S S' h h') (b : ∀ x, S'' x → S' x) : Step S S'' h h' := ⟨a.1, fun x q => a.2 x (b x q)⟩
/-- Something of what was touched is touched again. -/
theorem Step.on {S S' A A' : Nat → Prop} {h h1 h2 : Heap} (a : Step S S' h h1) (b : Step A A' h1 h2) (i : ∀ x, A x → S' x ∨ h1 x = none) : Step S (fun x => S' x ∨ A' x) h h2 := by
  have key : ∀ x, A x → S x ∨ h x = none := fun x q => by
    rcases i x q with c | c
    · exact a.2 x c
    · exact .inr (a.1.2 x c)
  refine ⟨⟨fun x o e n => b.1.1 x o (a.1.1 x o e n) (fun q => ?_), fun x e => a.1.2 x (b.1.2 x e)⟩, fun x q => ?_⟩
  · rcases key x q with c | c
    · exact n c
    · rw [c] at e; cases e
  · rcases q with q | q
    · exact a.2 x q
    · rcases b.2 x q with c | c
      · exact key x c
      · exact .inr (a.1.2 x c)

theorem Arr.atA {h : Heap} {k : Kd} {a : Addr} {n m : Nat} {xs : List (Den k)} (c : Arr h k ⟨some a, n, m⟩ xs) {i : Int} (h0 : 0 ≤ i) (h1 : i < (n : Int)) {K : Den k → Prop} {sz : Nat} (hsz : sz = k.size) (hK : ∀ x, xs[i.toNat]? = some x → K x) : ld k h (a.add (i.toNat * sz)) K :=
  c.at h0 h1 hsz hK
theorem Arr.sees {h : Heap} {k : Kd} {a : Addr} {n m : Nat} {xs : List (Den k)} (c : Arr h k ⟨some a, n, m⟩ xs) {i : Int} (h0 : 0 ≤ i) (h1 : i < (n : Int)) {x : Den k} (hx : xs[i.toNat]? = some x) {sz : Nat} (hsz : sz = k.size) : sees h (some (a.add (i.toNat * sz))) k x := by
  obtain ⟨y, q1, rfl⟩ := c.atA h0 h1 hsz (K := fun z => z = x) fun z hz => by rw [hx] at hz; cases hz; rfl
  exact q1

theorem New.lit {h : Heap} {k : Kd} {x : Den k} {K : Addr → Heap → Prop} (hK : ∀ p h', New h h' k ⟨some p, 1, 1⟩ [x] → K p h') : Go.Mx.new h ([x].flatMap k.cells) K := by
  intro b hb
  refine hK _ _ ⟨.inr ⟨b, rfl, Nat.le_refl _, Nat.le_refl _, [], by simp, by rw [upd_same]; simp⟩, rfl, le_upd hb _, ?_⟩
  rintro q ⟨a, e, rfl⟩
  cases e
  exact hb

end Go.Mx
