/-
  Objects: a block that holds one value; its parts are read and written.
-/
import Derived.Test.YtanfmmcpjifgiabMxT
set_option linter.unusedVariables false
set_option linter.unusedSimpArgs false
namespace Go.Mx

abbrev ki : Kd := .int .i64
abbrev kb : Kd := .bool
theorem take_succ' {α : Type} (l : List α) {i : Nat} (h : i < l.length) : l.take (i + 1) = l.take i ++ [l[i]] := by simp

/-- Block b holds x, and may be written. -/
def Obj (h : Heap) (b : Nat) (k : Kd) (x : Den k) : Prop := h b = some (.cells (k.cells x) false)
abbrev ptr (b : Nat) : Addr := ⟨b, 0, none⟩
/-- y is the part of x at the offset. -/
def PartAt (k kf : Kd) (off : Nat) (x : Den k) (y : Den kf) : Prop := ∃ pre post, k.cells x = pre ++ kf.cells y ++ post ∧ pre.length = off

theorem Obj.live {h : Heap} {b : Nat} {k : Kd} {x : Den k} (o : Obj h b k x) : h b ≠ none := by rw [o]; exact fun e => by cases e
theorem Obj.ext {h h' : Heap} {b : Nat} {k : Kd} {x : Den k} (o : Obj h b k x) {S : Nat → Prop} (e : Ext S h h') (n : ¬ S b) : Obj h' b k x := e.1 b _ o n
theorem Obj.le {h h' : Heap} {b : Nat} {k : Kd} {x : Den k} (o : Obj h b k x) (l : le h h') : Obj h' b k x := l b _ o
theorem Obj.ld {h : Heap} {b : Nat} {k kf : Kd} {x : Den k} (o : Obj h b k x) {y : Den kf} {off : Nat} (hp : PartAt k kf off x y) {K : Den kf → Prop} (hK : K y) : ld kf h ((ptr b).add off) K := by
  obtain ⟨pre, post, e1, e2⟩ := hp
  subst e2
  refine ⟨y, ?_, hK⟩
  have e : h b = some (.cells (k.cells x ++ []) false) := by rw [List.append_nil]; exact o
  have := cellsAt_blk e
  rw [e1, List.append_assoc] at this
  exact (cellsAt_append (cellsAt_append this).2).1
theorem Obj.st {h : Heap} {b : Nat} {k kf : Kd} {x : Den k} (o : Obj h b k x) {x' : Den k} {v : Den kf} {off : Nat} (hc : k.cells x' = splice (k.cells x) off (kf.cells v)) (ho : off + kf.size ≤ k.size) (hone : kf.flat = true) {K : Heap → Prop}
    (hK : ∀ h', Obj h' b k x' → Ext (· = b) h h' → K h') : st kf h ((ptr b).add off) v K := by
  rw [add_none, Nat.zero_add]
  refine ⟨⟨rfl, _, o, by dsimp only; rw [Kd.cells_len]; exact ho⟩, ?_⟩
  unfold flatOr
  rw [hone]
  have hw : write h ⟨b, off, none⟩ (kf.cells v) = upd h b (.cells (k.cells x') false) := by rw [write_eq (a := ⟨b, off, none⟩) o, hc]
  rw [hw]
  exact hK _ (upd_same _ _ _) ⟨fun c y hy hc => by rw [upd_ne _ _ hc]; exact hy, fun c hc => upd_none hc⟩
/-- A new object. -/
theorem Obj.new {h : Heap} {k : Kd} {x : Den k} {K : Addr → Heap → Prop} (hK : ∀ b h', h b = none → Obj h' b k x → Go.Mx.le h h' → K (ptr b) h') : Go.Mx.new h (k.cells x) K :=
  fun b hb => hK b _ hb (upd_same _ _ _) (le_upd hb _)

theorem Obj.sees {h : Heap} {b : Nat} {k kf : Kd} {x : Den k} (o : Obj h b k x) {y : Den kf} {off : Nat} (hp : PartAt k kf off x y) : sees h (some ((ptr b).add off)) kf y := by
  obtain ⟨y', h1, rfl⟩ := o.ld hp (K := fun z => z = y) rfl
  exact h1

/-- The first i of the one, the rest of the other. -/
def mix {α : Type} (i : Nat) (xs ys : List α) : List α := xs.take i ++ ys.drop i
theorem mix_zero {α : Type} (xs ys : List α) : mix 0 xs ys = ys := rfl
theorem mix_all {α : Type} {xs ys : List α} {n : Nat} (h : xs.length = n) (e : xs.length = ys.length) : mix n xs ys = xs := by
  unfold mix
  rw [List.take_of_length_le (by omega), List.drop_of_length_le (by omega), List.append_nil]
theorem mix_len {α : Type} {xs ys : List α} (e : xs.length = ys.length) (i : Nat) : (mix i xs ys).length = ys.length := by
  unfold mix
  rw [List.length_append, List.length_take, List.length_drop]; omega
theorem mix_set {α : Type} {xs ys : List α} (e : xs.length = ys.length) {i : Nat} {x : α} (h : xs[i]? = some x) : (mix i xs ys).set i x = mix (i + 1) xs ys := by
  have hi := (List.getElem?_eq_some_iff.1 h).1
  unfold mix
  rw [List.set_append_right _ _ (by simp; omega), List.length_take, Nat.min_eq_left (by omega), Nat.sub_self]
  have : ys.drop i = ys[i]'(by omega) :: ys.drop (i + 1) := by simp
  rw [this, List.set_cons_zero, take_succ' xs hi]
  obtain ⟨_, rfl⟩ := List.getElem?_eq_some_iff.1 h
  rw [List.append_assoc]
  rfl


def Apart (s t : Sl) : Prop := ∀ b, blkOf s b → ¬ blkOf t b
theorem Apart.symm {s t : Sl} (h : Apart s t) : Apart t s := fun b x y => h b y x
def Live (h : Heap) (s : Sl) : Prop := ∀ b, blkOf s b → h b ≠ none
theorem Live.le {h h' : Heap} {s : Sl} (l : Live h s) (e : le h h') : Live h' s := fun b hb c => l b hb (e.none c)
theorem Live.ext {h h' : Heap} {s : Sl} (l : Live h s) {S : Nat → Prop} (e : Ext S h h') : Live h' s := fun b hb c => l b hb (e.2 b c)
theorem Own.live {h : Heap} {k : Kd} {s : Sl} {ys : List (Den k)} (o : Own h k s ys) : Live h s := fun b hb => o.blk hb
theorem Live.apart {h : Heap} {s t : Sl} (l : Live h s) (n : ∀ b, blkOf t b → h b = none) : Apart s t := fun b x y => l b x (n b y)
theorem New.base {h0 h1 h : Heap} {k : Kd} {s : Sl} {xs : List (Den k)} (o : New h1 h k s xs) (l : Go.Mx.le h0 h1) : New h0 h k s xs := ⟨o.own, o.len, l.trans o.le, fun b hb => l.none (o.new b hb)⟩
theorem New.set {h0 h : Heap} {k : Kd} {s : Sl} {xs : List (Den k)} (o : New h0 h k s xs) {i : Int} (q0 : 0 ≤ i) (q1 : i < (s.len : Int)) {y : Den k} (hone : k.flat = true) {sz : Nat} (hsz : sz = k.size) {K : Heap → Prop}
    (hK : ∀ h', New h0 h' k s (xs.set i.toNat y) → Ext (blkOf s) h h' → K h') : deref s.a fun a => Go.Mx.st k h (a.add (i.toNat * sz)) y K :=
  o.own.set q0 q1 hone hsz fun h' a b => hK h' ⟨a, by rw [List.length_set]; exact o.len, le_ext o.le b o.new, o.new⟩ b

end Go.Mx
