/-
  Lists that are kept untouched till the end: six slices of slices in one object.
-/
import Derived.Test.YtppehoailhjdfabMxVm
set_option linter.unusedVariables false
set_option linter.unusedSimpArgs false
set_option linter.unusedSectionVars false
namespace Go.Mx

abbrev KKp : Kd := .pair .sl (.pair .sl (.pair .sl (.pair .sl (.pair .sl (.pair .sl (.pair ki .nil))))))
def kdN : Nat → Kd
  | 0 => KWt
  | 1 => KWt
  | 2 => ki
  | 3 => ki
  | _ => KAcc
def updN {α : Type} (f : Nat → α) (i : Nat) (v : α) : Nat → α := fun j => if j = i then v else f j
def updD (X : ∀ i, List (List (Den (kdN i)))) (i : Nat) (v : List (List (Den (kdN i)))) : ∀ j, List (List (Den (kdN j))) := fun j => if e : j = i then (by subst e; exact v) else X j
theorem updN_same {α : Type} (f : Nat → α) (i : Nat) (v : α) : updN f i v i = v := if_pos rfl
theorem updN_ne {α : Type} (f : Nat → α) {i j : Nat} (v : α) (e : j ≠ i) : updN f i v j = f j := if_neg e
theorem updD_same (X : ∀ i, List (List (Den (kdN i)))) (i : Nat) (v) : updD X i v i = v := dif_pos rfl
theorem updD_ne (X : ∀ i, List (List (Den (kdN i)))) {i j : Nat} (v) (e : j ≠ i) : updD X i v j = X j := dif_neg e
def objV (o : Nat → Sl) (sum : Int) : Den KKp := (o 0, (o 1, (o 2, (o 3, (o 4, (o 5, (sum, ())))))))
theorem objV_part (o : Nat → Sl) (sum : Int) {i : Nat} (hi : i < 6) : PartAt KKp .sl i (objV o sum) (o i) := by
  match i, hi with
  | 0, _ => exact ⟨[], _, rfl, rfl⟩
  | 1, _ => exact ⟨[_], _, rfl, rfl⟩
  | 2, _ => exact ⟨[_, _], _, rfl, rfl⟩
  | 3, _ => exact ⟨[_, _, _], _, rfl, rfl⟩
  | 4, _ => exact ⟨[_, _, _, _], _, rfl, rfl⟩
  | 5, _ => exact ⟨[_, _, _, _, _], _, rfl, rfl⟩
theorem objV_set (o : Nat → Sl) (sum : Int) {i : Nat} (hi : i < 6) (t : Sl) : Kd.cells KKp (objV (updN o i t) sum) = splice (Kd.cells KKp (objV o sum)) i (Kd.cells .sl t) := by
  match i, hi with
  | 0, _ => rfl
  | 1, _ => rfl
  | 2, _ => rfl
  | 3, _ => rfl
  | 4, _ => rfl
  | 5, _ => rfl
structure KpS (h0 h : Heap) (b : Nat) (o : Nat → Sl) (e : Nat → List Sl) (X : ∀ i, List (List (Den (kdN i)))) (sum : Int) : Prop where
  obj : Obj h b KKp (objV o sum)
  nb : h0 b = none
  n : ∀ i, i < 6 → Nest h0 h (kdN i) (o i) (e i) (X i)
  d : ∀ i, i < 6 → ¬ fpN (o i) (e i) b
  dd : ∀ i j, i < 6 → j < 6 → i ≠ j → ∀ x, fpN (o i) (e i) x → ¬ fpN (o j) (e j) x
def fpP (b : Nat) (o : Nat → Sl) (e : Nat → List Sl) : Nat → Prop := fun x => x = b ∨ ∃ i, i < 6 ∧ fpN (o i) (e i) x
section
variable {h0 h : Heap} {b : Nat} {o : Nat → Sl} {e : Nat → List Sl} {X : ∀ i, List (List (Den (kdN i)))} {sum : Int} (s : KpS h0 h b o e X sum)
include s
theorem KpS.live {x : Nat} (hx : fpP b o e x) : h x ≠ none := by
  rcases hx with rfl | ⟨i, hi, q⟩
  · exact s.obj.live
  · exact (s.n i hi).live q
theorem KpS.fresh {x : Nat} (hx : fpP b o e x) : h0 x = none := by
  rcases hx with rfl | ⟨i, hi, q⟩
  · exact s.nb
  · exact (s.n i hi).fresh q
theorem KpS.le : Go.Mx.le h0 h := (s.n 0 (by decide)).le
theorem KpS.ext {h' : Heap} {T : Nat → Prop} (x : Ext T h h') (d : ∀ z, fpP b o e z → ¬ T z) (f : ∀ z, T z → h0 z = none) : KpS h0 h' b o e X sum :=
  ⟨s.obj.ext x (d b (.inl rfl)), s.nb, fun i hi => (s.n i hi).ext x (fun z q => d z (.inr ⟨i, hi, q⟩)) f, s.d, s.dd⟩
theorem KpS.st6 {v : Int} {K : Heap → Prop} (hK : ∀ h', KpS h0 h' b o e X v → Ext (· = b) h h' → K h') : st ki h ((ptr b).add 6) v K := by
  refine s.obj.st (kf := ki) (v := v) (off := 6) (x' := objV o v) rfl (by decide) rfl fun h' o' x => hK h' ⟨o', s.nb, fun i hi => (s.n i hi).ext x (fun z q r => by subst r; exact s.d i hi q) (fun z r => by subst r; exact s.nb), s.d, s.dd⟩ x
theorem KpS.add {i : Nat} (hi : i < 6) {t : Sl} {ys : List (Den (kdN i))} (nt : New h0 h (kdN i) t ys) (ap : ∀ x, blkOf t x → ¬ fpP b o e x) (hl : (X i).length ≤ 1000000000) {K : Heap → Prop}
    (hK : ∀ o' h', KpS h0 h' b (updN o i o') (updN e i (e i ++ [t])) (updD X i (X i ++ [ys])) sum → Ext (fun x => x = b ∨ blkOf (o i) x) h h' → (∀ x, fpP b (updN o i o') (updN e i (e i ++ [t])) x → fpP b o e x ∨ blkOf t x ∨ h x = none) → K h') :
    deref (some (ptr b)) fun a7 => ld .sl h (a7.add i) fun t8 => Go.Mx.new h ([t].flatMap (Kd.cells .sl)) fun p h1 => appendM 1 24 h1 t8 ⟨some p, 1, 1⟩ fun t2 h2 => deref (some (ptr b)) fun a2 => st .sl h2 (a2.add i) t2 K := by
  have N := s.n i hi
  have ol := N.out.len
  have oe := N.len
  refine deref_someV (s.obj.ld (objV_part o sum hi) (N.snocV nt (fun x q r => ap x q (.inr ⟨i, hi, r⟩)) (by omega) fun o' h1 N1 x1 b1 => deref_someV ?_))
  have ob1 := s.obj.ext x1 (fun q => s.d i hi (.inl q))
  refine ob1.st (kf := .sl) (v := o') (off := i) (x' := objV (updN o i o') sum) (objV_set o sum hi o') (by show i + 1 ≤ 7; omega) rfl fun h2 ob2 x2 => ?_
  have fb : ∀ x, x = b → h0 x = none := fun x q => by subst q; exact s.nb
  have fp1 : ∀ x, fpN o' (e i ++ [t]) x → fpN (o i) (e i) x ∨ blkOf t x ∨ h x = none := fun x q => by
    rcases q with q | ⟨sl, hs, q⟩
    · rcases b1 x q with r | r
      · exact .inl (.inl r)
      · exact .inr (.inr r)
    · rcases List.mem_append.1 hs with hs | hs
      · exact .inl (.inr ⟨sl, hs, q⟩)
      · rw [List.mem_singleton] at hs; subst hs; exact .inr (.inl q)
  have tb : ¬ fpN o' (e i ++ [t]) b := fun q => by
    rcases fp1 b q with r | r | r
    · exact s.d i hi r
    · exact ap b r (.inl rfl)
    · exact s.obj.live r
  refine hK o' h2 ⟨ob2, s.nb, fun j hj => ?_, fun j hj => ?_, fun j k hj hk hjk x => ?_⟩ ((x1.mono fun x q => .inr q).trans (x2.mono fun x q => .inl q)) fun x q => ?_
  · by_cases c : j = i
    · subst c
      rw [updD_same, updN_same, updN_same]
      exact N1.ext x2 (fun z q r => by subst r; exact tb q) fb
    · rw [updD_ne _ _ c, updN_ne _ _ c, updN_ne _ _ c]
      exact ((s.n j hj).ext x1 (fun z q r => s.dd j i hj hi c z q (.inl r)) N.out.new).ext x2 (fun z q r => by subst r; exact s.d j hj q) fb
  · by_cases c : j = i
    · subst c; rw [updN_same, updN_same]; exact tb
    · rw [updN_ne _ _ c, updN_ne _ _ c]; exact s.d j hj
  · have away : ∀ m, m < 6 → m ≠ i → fpN (o m) (e m) x → ¬ fpN o' (e i ++ [t]) x := fun m hm hmi p q => by
      rcases fp1 x q with r | r | r
      · exact s.dd m i hm hi hmi x p r
      · exact ap x r (.inr ⟨m, hm, p⟩)
      · exact (s.n m hm).live p r
    by_cases c : j = i
    · have c2 : k ≠ i := fun q => hjk (c.trans q.symm)
      subst c
      rw [updN_same, updN_same, updN_ne _ _ c2, updN_ne _ _ c2]
      exact fun p q => away k hk c2 q p
    · rw [updN_ne _ _ c, updN_ne _ _ c]
      by_cases c2 : k = i
      · subst c2; rw [updN_same, updN_same]; exact away j hj c
      · rw [updN_ne _ _ c2, updN_ne _ _ c2]; exact s.dd j k hj hk hjk x
  · rcases q with q | ⟨j, hj, q⟩
    · exact .inl (.inl q)
    · by_cases c : j = i
      · subst c
        rw [updN_same, updN_same] at q
        rcases fp1 x q with r | r | r
        · exact .inl (.inr ⟨j, hj, r⟩)
        · exact .inr (.inl r)
        · exact .inr (.inr r)
      · rw [updN_ne _ _ c, updN_ne _ _ c] at q
        exact .inl (.inr ⟨j, hj, q⟩)
end
structure KpB (X : ∀ i, List (List (Den (kdN i)))) (c : Nat) : Prop where
  w : (X 0 : List (List Wait)) = X 1
  n : (X 2 : List (List Int)) = X 3
  l : (X 4 : List (List Acc)) = X 5
  bd : ∀ i, i < 6 → ∀ xs ∈ X i, xs.length ≤ 1000000000
  c : ∀ i, i < 6 → (X i).length ≤ c
def KpR (h0 : Heap) (b c : Nat) (F : Nat → Prop) (h : Heap) : Prop := ∃ o e X sum, KpS h0 h b o e X sum ∧ KpB X c ∧ F = fpP b o e
theorem KpR.live {h0 b c F h} (R : KpR h0 b c F h) {x : Nat} (hx : F x) : h x ≠ none := by obtain ⟨o, e, X, sum, s, B, rfl⟩ := R; exact s.live hx
theorem KpR.fresh {h0 b c F h} (R : KpR h0 b c F h) {x : Nat} (hx : F x) : h0 x = none := by obtain ⟨o, e, X, sum, s, B, rfl⟩ := R; exact s.fresh hx
theorem KpR.le {h0 b c F h} (R : KpR h0 b c F h) : Go.Mx.le h0 h := by obtain ⟨o, e, X, sum, s, B, rfl⟩ := R; exact s.le
theorem KpR.ext {h0 b c F h h'} (R : KpR h0 b c F h) {T : Nat → Prop} (x : Ext T h h') (d : ∀ z, F z → ¬ T z) (f : ∀ z, T z → h0 z = none) : KpR h0 b c F h' := by obtain ⟨o, e, X, sum, s, B, rfl⟩ := R; exact ⟨o, e, X, sum, s.ext x d f, B, rfl⟩
theorem KpR.start {h0 h : Heap} {K : Addr → Heap → Prop} (l : Go.Mx.le h0 h) (hK : ∀ b F h', KpR h0 b 0 F h' → Go.Mx.le h h' → (∀ x, F x → h x = none) → K (ptr b) h') : new h (Kd.cells KKp (Sl.none, (Sl.none, (Sl.none, (Sl.none, (Sl.none, (Sl.none, (0, ())))))))) K := by
  refine Obj.new fun b h' hb o l' => hK b _ h' ⟨fun _ => Sl.none, fun _ => [], fun _ => [], 0, ⟨o, l.none hb, fun i hi => ?_, fun i hi q => ?_, fun i j hi hj hij x q => ?_⟩, ⟨rfl, rfl, rfl, fun i hi xs hx => (by cases hx), fun i hi => Nat.le_refl _⟩, rfl⟩ l' fun x hx => ?_
  · exact ⟨New.none (l.trans l') .sl, rfl, fun i sl xs a => (by cases a), List.pairwise_singleton _ _⟩
  · rcases q with q | ⟨sl, hs, q⟩
    · exact no_blk q
    · cases hs
  · rcases q with q | ⟨sl, hs, q⟩
    · exact (no_blk q).elim
    · cases hs
  · rcases hx with rfl | ⟨i, hi, q | ⟨sl, hs, q⟩⟩
    · exact hb
    · exact (no_blk q).elim
    · cases hs

theorem bd_upd {X : ∀ i, List (List (Den (kdN i)))} {i : Nat} {ys : List (Den (kdN i))} {B : Nat} (hy : ys.length ≤ B) (hB : ∀ j, j < 6 → ∀ zs ∈ X j, zs.length ≤ B) : ∀ j, j < 6 → ∀ zs ∈ updD X i (X i ++ [ys]) j, zs.length ≤ B := by
  intro j hj zs hz
  by_cases c : j = i
  · subst c
    rw [updD_same] at hz
    rcases List.mem_append.1 hz with hz | hz
    · exact hB j hj zs hz
    · rw [List.mem_singleton] at hz; subst hz; exact hy
  · rw [updD_ne _ _ c] at hz; exact hB j hj zs hz
theorem c_upd2 {X : ∀ i, List (List (Den (kdN i)))} {i : Nat} {ys : List (Den (kdN i))} {zs : List (Den (kdN (i + 1)))} {c : Nat} (hB : ∀ j, j < 6 → (X j).length ≤ c) : ∀ j, j < 6 → (updD (updD X i (X i ++ [ys])) (i + 1) (updD X i (X i ++ [ys]) (i + 1) ++ [zs]) j).length ≤ c + 1 := by
  intro j hj
  have := hB j hj
  by_cases e : j = i + 1
  · subst e
    rw [updD_same, updD_ne _ _ (by omega), List.length_append, List.length_singleton]; omega
  · rw [updD_ne _ _ e]
    by_cases f : j = i
    · subst f; rw [updD_same, List.length_append, List.length_singleton]; omega
    · rw [updD_ne _ _ f]; omega
/-- One list more is kept, with a copy of what it holds. -/
def KpC (k : Kd) (q : Option Addr → Sl → Sl → Heap → (Bool → Heap → Prop) → Prop) : Prop := ∀ {h0 h : Heap} {b c : Nat} {F : Nat → Prop} {l want : Sl} {xs : List (Den k)} {Q : Bool → Heap → Prop}, KpR h0 b c F h → c ≤ 100000000 → New h0 h k l xs → (∀ x, blkOf l x → ¬ F x) → Arr h k want xs → (∀ x, blkOf want x → ¬ F x) → xs.length ≤ 1000000000 →
  (∀ F' h', KpR h0 b (c + 1) F' h' → Step (fun x => F x ∨ blkOf l x) F' h h' → Q true h') → q (some (ptr b)) l want h Q
theorem kept_two {k : Kd} {i : Nat} (hi : i + 1 < 6) (h1 : kdN i = k) (h2 : kdN (i + 1) = k) (hp : i = 0 ∨ i = 2 ∨ i = 4) {sz bytes : Nat} (hsz : sz = k.size) (hone : k.flat = true) (hby : bytes ≤ 64) {cs : Sl → Sl → Heap → (Bool → Heap → Prop) → Prop} (iS : SameKC k cs)
    {h0 h : Heap} {b c : Nat} {F : Nat → Prop} {l want : Sl} {xs : List (Den k)} {Q : Bool → Heap → Prop} (R : KpR h0 b c F h) (hc : c ≤ 100000000) (nl : New h0 h k l xs) (dl : ∀ x, blkOf l x → ¬ F x) (aw : Arr h k want xs) (dw : ∀ x, blkOf want x → ¬ F x) (hx : xs.length ≤ 1000000000)
    (hQ : ∀ F' h', KpR h0 b (c + 1) F' h' → Step (fun x => F x ∨ blkOf l x) F' h h' → Q true h') {mid : Heap → (Heap → Prop) → Prop} (hm : ∀ {h1 : Heap} {K : Heap → Prop} {o e X sum}, KpS h0 h1 b o e X sum → (∀ v h2, KpS h0 h2 b o e X v → Ext (· = b) h1 h2 → K h2) → mid h1 K) :
    appendM sz bytes h ⟨none, 0, 0⟩ want fun t5 h6 => mid h6 fun h10 => deref (some (ptr b)) fun a7 => ld .sl h10 (a7.add i) fun t8 => Go.Mx.new h10 ([l].flatMap (Kd.cells .sl)) fun p h1 => appendM 1 24 h1 t8 ⟨some p, 1, 1⟩ fun t2 h2 => deref (some (ptr b)) fun a2 => st .sl h2 (a2.add i) t2 fun h14 =>
      deref (some (ptr b)) fun a7 => ld .sl h14 (a7.add (i + 1)) fun t8 => Go.Mx.new h14 ([t5].flatMap (Kd.cells .sl)) fun p h1 => appendM 1 24 h1 t8 ⟨some p, 1, 1⟩ fun t2 h2 => deref (some (ptr b)) fun a2 => st .sl h2 (a2.add (i + 1)) t2 fun h22 => cs l want h22 Q := by
  obtain ⟨o, e, X, sum, s, B, rfl⟩ := R
  have wl := aw.1
  have hb1 : want.len * bytes ≤ want.len * 64 := Nat.mul_le_mul_left _ hby
  refine (New.none (Go.Mx.le.refl h) k).apps aw hone hsz (by show (0 + want.len) * bytes ≤ _; rw [Nat.zero_add]; omega) fun t5 h6 n6 => ?_
  rw [List.nil_append] at n6
  have s6 := s.ext (T := fun _ => False) n6.le.toExt (fun _ _ => id) (fun _ q => q.elim)
  refine hm s6 fun v h10 s10 x10 => ?_
  have fb : ∀ x, x = b → h0 x = none := fun x q => by subst q; exact s.nb
  have t5n : New h0 h10 k t5 xs := (n6.base s.le).ext x10 (fun x p q => by subst q; exact s.obj.live (n6.new x p)) fb
  have l10 : New h0 h10 k l xs := (nl.more n6.le).ext x10 (fun x p q => by subst q; exact dl x p (.inl rfl)) fb
  have w10 : Arr h10 k want xs := Arr.ext x10 (aw.le n6.le) fun x p q => by subst q; exact dw x p (.inl rfl)
  subst h1
  refine s10.add (i := i) (by omega) l10 (fun x p => dl x p) (by have := B.c i (by omega); omega) fun o1 h14 s14 x14 b14 => ?_
  have t5f : ∀ x, blkOf t5 x → ¬ fpP b o e x := fun x p q => s.live q (n6.new x p)
  have f14 : ∀ x, (x = b ∨ blkOf (o i) x) → h0 x = none := fun x q => s.fresh (by
    rcases q with q | q
    · exact .inl q
    · exact .inr ⟨i, by omega, .inl q⟩)
  have g14 : ∀ {t : Sl}, (∀ x, blkOf t x → ¬ fpP b o e x) → ∀ x, blkOf t x → ¬ (x = b ∨ blkOf (o i) x) := fun d x p q => d x p (by
    rcases q with q | q
    · exact .inl q
    · exact .inr ⟨i, by omega, .inl q⟩)
  have t14 := t5n.ext x14 (g14 t5f) f14
  have l14 := l10.ext x14 (g14 dl) f14
  have w14 : Arr h14 (kdN i) want xs := Arr.ext x14 w10 (g14 dw)
  have hil : ∀ x, blkOf t5 x → ¬ blkOf l x := fun x p q => nl.own.live x q (n6.new x p)
  have fin : ∀ {X1 : ∀ i, List (List (Den (kdN i)))}, X1 (i + 1) = X (i + 1) → KpS h0 h14 b (updN o i o1) (updN e i (e i ++ [l])) X1 v → (∃ (ys : List (Den (kdN (i + 1)))), New h0 h14 (kdN (i + 1)) t5 ys ∧ ∀ o' h22, KpS h0 h22 b (updN (updN o i o1) (i + 1) o') (updN (updN e i (e i ++ [l])) (i + 1) (updN e i (e i ++ [l]) (i + 1) ++ [t5])) (updD X1 (i + 1) (X1 (i + 1) ++ [ys])) v → KpR h0 b (c + 1) (fpP b (updN (updN o i o1) (i + 1) o') (updN (updN e i (e i ++ [l])) (i + 1) (updN e i (e i ++ [l]) (i + 1) ++ [t5]))) h22) → 
      deref (some (ptr b)) fun a7 => ld .sl h14 (a7.add (i + 1)) fun t8 => Go.Mx.new h14 ([t5].flatMap (Kd.cells .sl)) fun p h1 => appendM 1 24 h1 t8 ⟨some p, 1, 1⟩ fun t2 h2 => deref (some (ptr b)) fun a2 => st .sl h2 (a2.add (i + 1)) t2 fun h22 => cs l want h22 Q := by
    rintro X1 hX1 s14 ⟨ys, n14, big⟩
    have dn : ∀ x, blkOf t5 x → ¬ fpP b (updN o i o1) (updN e i (e i ++ [l])) x := fun x p q => by
      rcases b14 x q with r | r | r
      · exact t5f x p r
      · exact hil x p r
      · exact t5n.own.live x p r
    refine s14.add (i := i + 1) hi n14 dn (by rw [hX1]; have := B.c (i + 1) hi; omega) fun o2 h22 s22 x22 b22 => ?_
    have f22 : ∀ {t : Sl}, (∀ x, blkOf t x → ¬ fpP b o e x) → ∀ x, blkOf t x → ¬ (x = b ∨ blkOf (updN o i o1 (i + 1)) x) := fun d x p q => by
      rw [updN_ne _ _ (by omega)] at q
      refine d x p ?_
      rcases q with q | q
      · exact .inl q
      · exact .inr ⟨i + 1, hi, .inl q⟩
    have l22 := Arr.ext x22 l14.arr (f22 dl)
    have w22 := Arr.ext x22 w14 (f22 dw)
    refine iS l22 w22 hx (hQ _ h22 (big o2 h22 s22) ⟨?_, fun x q => ?_⟩)
    · refine ⟨fun x q1 q2 q3 => ?_, fun x q => n6.le.none (x10.2 x (x14.2 x (x22.2 x q)))⟩
      have q4 : ¬ fpP b o e x := fun z => q3 (.inl z)
      refine x22.1 x q1 (x14.1 x q1 (x10.1 x q1 (n6.le x q1 q2) fun z => q4 (.inl z)) fun z => q4 ?_) fun z => q4 ?_
      · exact z.elim .inl fun z => .inr ⟨i, by omega, .inl z⟩
      · rw [updN_ne _ _ (by omega)] at z
        exact z.elim .inl fun z => .inr ⟨i + 1, hi, .inl z⟩
    · rcases b22 x q with r | r | r
      · rcases b14 x r with r | r | r
        · exact .inl (.inl r)
        · exact .inl (.inr r)
        · exact .inr (n6.le.none (x10.2 x r))
      · exact .inr (n6.new x r)
      · exact .inr (n6.le.none (x10.2 x (x14.2 x r)))
  refine fin (updD_ne _ _ (by omega)) s14 ?_
  rcases hp with rfl | rfl | rfl
  all_goals
    refine ⟨xs, t14, fun o' h22 s22 => ⟨_, _, _, _, s22, ⟨?_, ?_, ?_, fun j hj zs hz => ?_, fun j hj => ?_⟩, rfl⟩⟩
  · exact (fun ys : List Wait => congrArg (fun z : List (List Wait) => z ++ [ys]) B.w) xs
  · exact B.n
  · exact B.l
  · exact bd_upd (i := 0 + 1) (ys := xs) hx (bd_upd hx B.bd) j hj zs hz
  · exact c_upd2 B.c j hj
  · exact B.w
  · exact (fun ys : List Int => congrArg (fun z : List (List Int) => z ++ [ys]) B.n) xs
  · exact B.l
  · exact bd_upd (i := 2 + 1) (ys := xs) hx (bd_upd hx B.bd) j hj zs hz
  · exact c_upd2 B.c j hj
  · exact B.w
  · exact B.n
  · exact (fun ys : List Acc => congrArg (fun z : List (List Acc) => z ++ [ys]) B.l) xs
  · exact bd_upd (i := 4 + 1) (ys := xs) hx (bd_upd hx B.bd) j hj zs hz
  · exact c_upd2 B.c j hj
theorem kwaits_spec {cs} (iS : SameKC KWt cs) : KpC KWt (law21_Kept_waits.M cs) := by
  intro h0 h b c F l want xs Q R hc nl dl aw dw hx hQ
  exact kept_two (i := 0) (by decide) rfl rfl (.inl rfl) (sz := 2) (bytes := 16) rfl rfl (by decide) iS R hc nl dl aw dw hx hQ (mid := fun h K => K h) fun s hK => hK _ _ s (Ext.refl _ _)
theorem mid6 {b : Nat} {l : Sl} {h1 : Heap} {K : Heap → Prop} {h0 o e X sum} (s : KpS h0 h1 b o e X sum) (hK : ∀ v h2, KpS h0 h2 b o e X v → Ext (· = b) h1 h2 → K h2) : deref (some (ptr b)) fun a7 => ld ((.int .i64) : Kd) h1 (a7.add 6) fun t8 => deref (some (ptr b)) fun a9 => st ((.int .i64) : Kd) h1 (a9.add 6) (w64 (t8 + (l.len : Int))) K := by
  refine deref_someV (s.obj.ld (kf := ki) (y := sum) ⟨[_, _, _, _, _, _], _, rfl, rfl⟩ (deref_someV (s.st6 fun h2 s2 x2 => hK _ h2 s2 x2)))
theorem knumbers_spec {cs} (iS : SameKC ki cs) : KpC ki (law21_Kept_numbers.M cs) := by
  intro h0 h b c F l want xs Q R hc nl dl aw dw hx hQ
  exact kept_two (i := 2) (by decide) rfl rfl (.inr (.inl rfl)) (sz := 1) (bytes := 8) rfl rfl (by decide) iS R hc nl dl aw dw hx hQ (mid := fun h1 K => deref (some (ptr b)) fun a7 => ld ((.int .i64) : Kd) h1 (a7.add 6) fun t8 => deref (some (ptr b)) fun a9 => st ((.int .i64) : Kd) h1 (a9.add 6) (w64 (t8 + (l.len : Int))) K) fun s hK => mid6 s hK
theorem kaccs_spec {cs} (iS : SameKC KAcc cs) : KpC KAcc (law21_Kept_accesses.M cs) := by
  intro h0 h b c F l want xs Q R hc nl dl aw dw hx hQ
  exact kept_two (i := 4) (by decide) rfl rfl (.inr (.inr rfl)) (sz := 6) (bytes := 48) rfl rfl (by decide) iS R hc nl dl aw dw hx hQ (mid := fun h1 K => deref (some (ptr b)) fun a7 => ld ((.int .i64) : Kd) h1 (a7.add 6) fun t8 => deref (some (ptr b)) fun a9 => st ((.int .i64) : Kd) h1 (a9.add 6) (w64 (t8 + (l.len : Int))) K) fun s hK => mid6 s hK
end Go.Mx
