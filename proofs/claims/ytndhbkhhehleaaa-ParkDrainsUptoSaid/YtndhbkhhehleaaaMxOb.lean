/-
  Objects: a block that holds one value; its parts are read and written.
-/
import Derived.Test.YtndhbkhhehleaaaMxT
set_option linter.unusedVariables false
set_option linter.unusedSimpArgs false
namespace Go.Mx

abbrev ki : Kd := .int .i64
abbrev kb : Kd := .bool
def Obj (h : Heap) (b : Nat) (k : Kd) (x : Den k) : Prop := h b = some (.cells (k.cells x) false)
abbrev ptr (b : Nat) : Addr := ⟨b, 0, none⟩
def PartAt (k kf : Kd) (off : Nat) (x : Den k) (y : Den kf) : Prop := ∃ pre post, k.cells x = pre ++ kf.cells y ++ post ∧ pre.length = off

theorem Obj.live {h : Heap} {b : Nat} {k : Kd} {x : Den k} (o : Obj h b k x) : h b ≠ none := by rw [o]; exact fun e => by cases e
theorem Obj.ext {h h' : Heap} {b : Nat} {k : Kd} {x : Den k} (o : Obj h b k x) {S : Nat → Prop} (e : Ext S h h') (n : ¬ S b) : Obj h' b k x := e.1 b _ o n
theorem Obj.le {h h' : Heap} {b : Nat} {k : Kd} {x : Den k} (o : Obj h b k x) (l : le h h') : Obj h' b k x := l b _ o
theorem Obj.ld {h : Heap} {b : Nat} {k kf : Kd} {x : Den k} (o : Obj h b k x) {y : Den kf} {off : Nat} (hp : PartAt k kf off x y) {K : Den kf → Prop} (hK : K y) : ld kf h ((ptr b).add off) K := by
  obtain ⟨pre, post, e1, e2⟩ := hp
  subst e2
  refine ⟨y, ?_, hK⟩
  have e : h b = some (.cells (k.cells x ++ []) false) := by rw [List.append_nil]; exact o
  have := cellsAt_blk e
  rw [e1, List.append_assoc] at this
  exact (cellsAt_append (cellsAt_append this).2).1
theorem Obj.st {h : Heap} {b : Nat} {k kf : Kd} {x : Den k} (o : Obj h b k x) {x' : Den k} {v : Den kf} {off : Nat} (hc : k.cells x' = splice (k.cells x) off (kf.cells v)) (ho : off + kf.size ≤ k.size) (hone : kf.flat = true) {K : Heap → Prop}
    (hK : ∀ h', Obj h' b k x' → Ext (· = b) h h' → K h') : st kf h ((ptr b).add off) v K := by
  rw [add_none, Nat.zero_add]
  refine ⟨⟨rfl, _, o, by dsimp only; rw [Kd.cells_len]; exact ho⟩, ?_⟩
  unfold flatOr
  rw [hone]
  have hw : write h ⟨b, off, none⟩ (kf.cells v) = upd h b (.cells (k.cells x') false) := by rw [write_eq (a := ⟨b, off, none⟩) o, hc]
  rw [hw]
  exact hK _ (upd_same _ _ _) ⟨fun c y hy hc => by rw [upd_ne _ _ hc]; exact hy, fun c hc => upd_none hc⟩
theorem Obj.new {h : Heap} {k : Kd} {x : Den k} {K : Addr → Heap → Prop} (hK : ∀ b h', h b = none → Obj h' b k x → Go.Mx.le h h' → K (ptr b) h') : Go.Mx.new h (k.cells x) K :=
  fun b hb => hK b _ hb (upd_same _ _ _) (le_upd hb _)

theorem Obj.sees {h : Heap} {b : Nat} {k kf : Kd} {x : Den k} (o : Obj h b k x) {y : Den kf} {off : Nat} (hp : PartAt k kf off x y) : sees h (some ((ptr b).add off)) kf y := by
  obtain ⟨y', h1, rfl⟩ := o.ld hp (K := fun z => z = y) rfl
  exact h1

def Apart (s t : Sl) : Prop := ∀ b, blkOf s b → ¬ blkOf t b
def Live (h : Heap) (s : Sl) : Prop := ∀ b, blkOf s b → h b ≠ none
theorem Own.live {h : Heap} {k : Kd} {s : Sl} {ys : List (Den k)} (o : Own h k s ys) : Live h s := fun b hb => o.blk hb
theorem Live.apart {h : Heap} {s t : Sl} (l : Live h s) (n : ∀ b, blkOf t b → h b = none) : Apart s t := fun b x y => l b x (n b y)
theorem New.base {h0 h1 h : Heap} {k : Kd} {s : Sl} {xs : List (Den k)} (o : New h1 h k s xs) (l : Go.Mx.le h0 h1) : New h0 h k s xs := ⟨o.own, o.len, l.trans o.le, fun b hb => l.none (o.new b hb)⟩
theorem New.set {h0 h : Heap} {k : Kd} {s : Sl} {xs : List (Den k)} (o : New h0 h k s xs) {i : Int} (q0 : 0 ≤ i) (q1 : i < (s.len : Int)) {y : Den k} (hone : k.flat = true) {sz : Nat} (hsz : sz = k.size) {K : Heap → Prop}
    (hK : ∀ h', New h0 h' k s (xs.set i.toNat y) → Ext (blkOf s) h h' → K h') : deref s.a fun a => Go.Mx.st k h (a.add (i.toNat * sz)) y K :=
  o.own.set q0 q1 hone hsz fun h' a b => hK h' ⟨a, by rw [List.length_set]; exact o.len, le_ext o.le b o.new, o.new⟩ b

theorem cellsAt_part {h : Heap} {a : Addr} {pre l post : List Value} {off : Nat} (c : cellsAt h a (pre ++ l ++ post)) (e : pre.length = off) : cellsAt h (a.add off) l := by
  subst e
  rw [List.append_assoc] at c
  exact (cellsAt_append (cellsAt_append c).2).1
def Step (S S' : Nat → Prop) (h h' : Heap) : Prop := Ext S h h' ∧ ∀ x, S' x → S x ∨ h x = none
theorem Step.refl (S : Nat → Prop) (h : Heap) : Step S S h h := ⟨Ext.refl _ _, fun _ e => .inl e⟩
theorem Step.trans {S S' S'' : Nat → Prop} {h h' h'' : Heap} (a : Step S S' h h') (b : Step S' S'' h' h'') : Step S S'' h h'' := by
  refine ⟨⟨fun x o e n => b.1.1 x o (a.1.1 x o e n) (fun q => ?_), fun x e => a.1.2 x (b.1.2 x e)⟩, fun x q => ?_⟩
  · rcases a.2 x q with c | c
    · exact n c
    · rw [c] at e; cases e
  · rcases b.2 x q with c | c
    · exact a.2 x c
    · exact .inr (a.1.2 x c)

theorem Step.off {S S' T : Nat → Prop} {h h' : Heap} (s : Step S S' h h') (d : ∀ x, T x → ¬ S x) (l : ∀ x, T x → h x ≠ none) : ∀ x, T x → ¬ S' x := fun x t q => by
  rcases s.2 x q with c | c
  · exact d x t c
  · exact l x t c

end Go.Mx
