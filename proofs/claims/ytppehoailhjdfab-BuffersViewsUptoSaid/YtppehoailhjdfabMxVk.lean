/-
  Shelves: lists that were handed out, each written full with a mark.
-/
import Derived.Test.YtppehoailhjdfabMxVh
set_option linter.unusedVariables false
set_option linter.unusedSimpArgs false
set_option linter.unusedSectionVars false
namespace Go.Mx

theorem deref_someV {a : Addr} {K : Addr → Prop} (h : K a) : deref (some a) K := h
theorem slot_add {h0 h : Heap} {k : Kd} {X : Den k} {b off : Nat} {o sl : Sl} {es : List Sl} (ob : Obj h b k X) (nb : h0 b = none) (hp : PartAt k .sl off X o) (no : New h0 h .sl o es) (nbo : ¬ blkOf o b) (hl : es.length ≤ 1000000000) {X' : Sl → Den k} (hX : ∀ t, k.cells (X' t) = splice (k.cells X) off (Kd.cells .sl t)) (ho : off + 1 ≤ k.size) {K : Heap → Prop}
    (hK : ∀ t h', Obj h' b k (X' t) → New h0 h' .sl t (es ++ [sl]) → Ext (fun x => x = b ∨ blkOf o x) h h' → (∀ x, blkOf t x → blkOf o x ∨ h x = none) → ¬ blkOf t b → K h') :
    deref (some (ptr b)) fun a => ld .sl h (a.add off) fun t => new h ([sl].flatMap (Kd.cells .sl)) fun p h1 => appendM 1 24 h1 t ⟨some p, 1, 1⟩ fun t2 h2 => deref (some (ptr b)) fun a2 => st .sl h2 (a2.add off) t2 K := by
  have ol := no.len
  refine deref_someV (ob.ld hp (no.app3 rfl rfl (by omega) fun t h2 n2 x2 b2 => deref_someV ?_))
  have ob2 := ob.ext x2 nbo
  have tb : ¬ blkOf t b := fun q => by
    rcases b2 b q with c | c
    · exact nbo c
    · exact ob.live c
  refine ob2.st (kf := .sl) (v := t) (off := off) (x' := X' t) (hX t) ho rfl fun h3 o3 x3 => ?_
  refine hK t h3 o3 (n2.ext x3 (fun x p q => by subst q; exact tb p) (fun x q => by subst q; exact nb)) ((x2.mono fun x q => .inr q).trans (x3.mono fun x q => .inl q)) b2 tb

structure AppI (h0 h g : Heap) (k : Kd) (s : Sl) (xs : List (Den k)) (x : Den k) (j : Nat) (t : Sl) : Prop where
  n : New h0 g k t (xs ++ List.replicate j x)
  a : Arr g k s xs
  s0 : New h0 h k s xs
  b : ∀ b, blkOf t b → blkOf s b ∨ h b = none
  le : ∀ b, g b = none → h b = none
theorem AppI.start {h0 h : Heap} {k : Kd} {s : Sl} {xs : List (Den k)} {x : Den k} (n : New h0 h k s xs) : AppI h0 h h k s xs x 0 s := ⟨by simpa using n, n.arr, n, fun b q => .inl q, fun b q => q⟩
theorem AppI.ext {h0 h g g' : Heap} {k : Kd} {s t : Sl} {xs : List (Den k)} {x : Den k} {j : Nat} (A : AppI h0 h g k s xs x j t) {S : Nat → Prop} (e : Ext S g g') (d : ∀ b, (blkOf s b ∨ blkOf t b) → ¬ S b) (f : ∀ b, S b → h0 b = none) : AppI h0 h g' k s xs x j t :=
  ⟨A.n.ext e (fun b q => d b (.inr q)) f, Arr.ext e A.a (fun b q => d b (.inl q)), A.s0, A.b, fun b q => A.le b (e.2 b q)⟩
theorem AppI.one {h0 h g : Heap} {k : Kd} {s t : Sl} {xs : List (Den k)} {x : Den k} {j : Nat} (A : AppI h0 h g k s xs x j t) {sz bytes : Nat} (hsz : sz = k.size) (hone : k.flat = true) (hbt : bytes ≤ 64) (hl : xs.length ≤ 1000000000) (hj : j ≤ 64) {K : Sl → Heap → Prop}
    (hK : ∀ t' g', AppI h0 h g' k s xs x (j + 1) t' → Ext (blkOf t) g g' → (∀ b, blkOf t' b → blkOf t b ∨ g b = none) → K t' g') : new g ([x].flatMap (Kd.cells k)) fun p h1 => appendM sz bytes h1 t ⟨some p, 1, 1⟩ K := by
  obtain ⟨n, ar, n0, bg, le0⟩ := A
  have sc := n0.arr.2.1
  have sl := n0.len
  have tl := n.len
  rw [List.length_append, List.length_replicate] at tl
  have hbb : (t.len + 1) * bytes ≤ 140737488355328 := by
    have : (t.len + 1) * bytes ≤ (t.len + 1) * 64 := Nat.mul_le_mul_left _ hbt
    omega
  refine n.own.app4 n.len hone hsz hbb fun t2 g2 o2 tl2 x2 b2 z2 => ?_
  have n2 : New h0 g2 k t2 (xs ++ List.replicate (j + 1) x) := by
    refine ⟨?_, ?_, le_ext n.le x2 n.new, fun b hb => ?_⟩
    · rw [List.replicate_succ', ← List.append_assoc]; exact o2
    · rw [List.length_append, List.length_replicate]; omega
    · rcases b2 b hb with c | c
      · exact n.new b c
      · exact n.le.none c
  have ar2 : Arr g2 k s xs := by
    rcases z2 with z | z
    · by_cases e : t.a = s.a
      · exact n2.arr.preV (e.symm.trans z.symm) sl sc
      · refine Arr.ext x2 ar fun b hb hb2 => e ?_
        rw [n.own.addrV hb2]
        by_cases hbs : blkOf s b
        · exact (n0.own.addrV hbs).symm
        · exact absurd hb hbs
    · exact ar.le z
  refine hK t2 g2 ⟨n2, ar2, n0, fun b hb => ?_, fun b q => le0 b (x2.2 b q)⟩ x2 b2
  rcases b2 b hb with c | c
  · exact bg b c
  · exact .inr (le0 b c)

/-! ### the shelf -/
def mkW (i : Nat) : Wait := (w64 (-9 - (i : Int)), (-9, ()))
def mkN (i : Nat) : Den ki := w64 (-1000 - (i : Int))
def mkL (i : Nat) : Acc := (w64 (-9 - (i : Int)), (9, (0, (0, (0, (false, ()))))))
structure RowsM (h : Heap) (k : Kd) (es : List Sl) (ns : List Nat) (m : Nat → Den k) : Prop where
  len : es.length = ns.length
  row : ∀ (i : Nat) sl n, es[i]? = some sl → ns[i]? = some n → Arr h k sl (List.replicate n (m i))
theorem RowsM.ext {h h' : Heap} {k es ns m} (r : RowsM h k es ns m) {S : Nat → Prop} (e : Ext S h h') (d : ∀ sl ∈ es, ∀ x, blkOf sl x → ¬ S x) : RowsM h' k es ns m :=
  ⟨r.len, fun i sl n a b => Arr.ext e (r.row i sl n a b) (d sl (List.mem_of_getElem? a))⟩
theorem RowsM.snoc {h : Heap} {k : Kd} {es : List Sl} {ns : List Nat} {m : Nat → Den k} (r : RowsM h k es ns m) {sl : Sl} {n : Nat} (a : Arr h k sl (List.replicate n (m ns.length))) : RowsM h k (es ++ [sl]) (ns ++ [n]) m := by
  refine ⟨by rw [List.length_append, List.length_append, r.len]; rfl, fun i s q h1 h2 => ?_⟩
  by_cases c : i < es.length
  · rw [List.getElem?_append_left c] at h1
    rw [List.getElem?_append_left (by rw [← r.len]; exact c)] at h2
    exact r.row i s q h1 h2
  · have hi := (List.getElem?_eq_some_iff.1 h1).1
    rw [List.length_append, List.length_singleton] at hi
    have hrl := r.len
    obtain rfl : i = ns.length := by omega
    rw [List.getElem?_append_right (by omega), show ns.length - es.length = 0 by omega] at h1
    rw [List.getElem?_append_right (Nat.le_refl _), Nat.sub_self] at h2
    cases h1; cases h2
    exact a
structure ShS (h0 h : Heap) (b : Nat) (wo no lo : Sl) (we ne le : List Sl) (ws ns ls : List Nat) : Prop where
  obj : Obj h b KCr (wo, (no, (lo, ())))
  nb : h0 b = none
  w : New h0 h .sl wo we
  n : New h0 h .sl no ne
  l : New h0 h .sl lo le
  wr : RowsM h KWt we ws mkW
  nr : RowsM h ki ne ns mkN
  lr : RowsM h KAcc le ls mkL
  e1 : ns.length = ws.length
  e2 : ls.length = ws.length
  bd : ∀ x ∈ ws ++ (ns ++ ls), x ≤ 1000000000
  rl : ∀ sl ∈ we ++ (ne ++ le), ∀ x, blkOf sl x → h x ≠ none ∧ h0 x = none ∧ x ≠ b ∧ ¬ blkOf wo x ∧ ¬ blkOf no x ∧ ¬ blkOf lo x
  ob : ¬ blkOf wo b ∧ ¬ blkOf no b ∧ ¬ blkOf lo b
  ow : ∀ x, blkOf wo x → ¬ blkOf no x ∧ ¬ blkOf lo x
  on : ∀ x, blkOf no x → ¬ blkOf lo x
def fpS (b : Nat) (wo no lo : Sl) (es : List Sl) : Nat → Prop := fun x => x = b ∨ blkOf wo x ∨ blkOf no x ∨ blkOf lo x ∨ ∃ sl ∈ es, blkOf sl x
def ShR (h0 : Heap) (b : Nat) (N : Nat) (F : Nat → Prop) (h : Heap) : Prop := ∃ wo no lo we ne le ws ns ls, ShS h0 h b wo no lo we ne le ws ns ls ∧ ws.length ≤ N ∧ F = fpS b wo no lo (we ++ (ne ++ le))
theorem ShR.live {h0 b N F h} (R : ShR h0 b N F h) {x : Nat} (hx : F x) : h x ≠ none := by
  obtain ⟨wo, no, lo, we, ne, le, ws, ns, ls, s, -, rfl⟩ := R
  rcases hx with rfl | q | q | q | ⟨sl, hm, q⟩
  · exact s.obj.live
  · exact s.w.own.live x q
  · exact s.n.own.live x q
  · exact s.l.own.live x q
  · exact (s.rl sl hm x q).1
theorem ShR.fresh {h0 b N F h} (R : ShR h0 b N F h) {x : Nat} (hx : F x) : h0 x = none := by
  obtain ⟨wo, no, lo, we, ne, le, ws, ns, ls, s, -, rfl⟩ := R
  rcases hx with rfl | q | q | q | ⟨sl, hm, q⟩
  · exact s.nb
  · exact s.w.new x q
  · exact s.n.new x q
  · exact s.l.new x q
  · exact (s.rl sl hm x q).2.1
theorem ShR.le {h0 b N F h} (R : ShR h0 b N F h) : Go.Mx.le h0 h := by obtain ⟨wo, no, lo, we, ne, le, ws, ns, ls, s, -, -⟩ := R; exact s.w.le
theorem ShR.ext {h0 h h' : Heap} {b N F} (R : ShR h0 b N F h) {S : Nat → Prop} (e : Ext S h h') (d : ∀ x, F x → ¬ S x) (f : ∀ x, S x → h0 x = none) : ShR h0 b N F h' := by
  obtain ⟨wo, no, lo, we, ne, le, ws, ns, ls, s, hN, rfl⟩ := R
  have dr : ∀ sl ∈ we ++ (ne ++ le), ∀ x, blkOf sl x → ¬ S x := fun sl hm x q => d x (.inr (.inr (.inr (.inr ⟨sl, hm, q⟩))))
  refine ⟨wo, no, lo, we, ne, le, ws, ns, ls, ⟨s.obj.ext e (d b (.inl rfl)), s.nb, s.w.ext e (fun x q => d x (.inr (.inl q))) f, s.n.ext e (fun x q => d x (.inr (.inr (.inl q)))) f, s.l.ext e (fun x q => d x (.inr (.inr (.inr (.inl q))))) f,
    s.wr.ext e (fun sl hm => dr sl (List.mem_append_left _ hm)), s.nr.ext e (fun sl hm => dr sl (List.mem_append_right _ (List.mem_append_left _ hm))), s.lr.ext e (fun sl hm => dr sl (List.mem_append_right _ (List.mem_append_right _ hm))), s.e1, s.e2, s.bd, fun sl hm x q => ?_, s.ob, s.ow, s.on⟩, hN, rfl⟩
  obtain ⟨r1, r2⟩ := s.rl sl hm x q
  exact ⟨fun c => r1 (e.2 x c), r2⟩
theorem ShR.start {h0 h : Heap} {K : Addr → Heap → Prop} (l : Go.Mx.le h0 h) (hK : ∀ b F h', ShR h0 b 0 F h' → Go.Mx.le h h' → (∀ x, F x → h x = none) → K (ptr b) h') : new h (Kd.cells KCr (Sl.none, (Sl.none, (Sl.none, ())))) K := by
  refine Obj.new fun b h' hb o l' => hK b _ h' ⟨Sl.none, Sl.none, Sl.none, [], [], [], [], [], [], ⟨o, l.none hb, New.none (l.trans l') .sl, New.none (l.trans l') .sl, New.none (l.trans l') .sl, ⟨rfl, fun i sl n a => (by cases a)⟩, ⟨rfl, fun i sl n a => (by cases a)⟩, ⟨rfl, fun i sl n a => (by cases a)⟩, rfl, rfl, fun x hx => (by cases hx), fun sl hm => (by cases hm), ⟨no_blk, no_blk, no_blk⟩, fun x q => (no_blk q).elim, fun x q => (no_blk q).elim⟩, Nat.le_refl _, rfl⟩ l' fun x hx => ?_
  rcases hx with rfl | q | q | q | ⟨sl, hm, q⟩
  · exact hb
  · exact (no_blk q).elim
  · exact (no_blk q).elim
  · exact (no_blk q).elim
  · cases hm

theorem fillS {h0 h : Heap} {k : Kd} {sz : Nat} (hsz : sz = k.size) (hone : k.flat = true) {b off : Nat} {X : Den KCr} {o s : Sl} {xs : List (Den k)} (ob : Obj h b KCr X) (hp : PartAt KCr .sl off X o) (n : New h0 h k s xs) (nb : ¬ blkOf s b) (hl : xs.length ≤ 1000000000) {mk : Int → Den k} {cont : Heap → Prop} {body : ((Int × Unit) → Heap → Prop) → (Int × Unit) → Heap → Prop}
    (hbody : ∀ go s3 h28, body go s3 h28 = (((decide (s3.1 < (s.len : Int))) = true → deref (some (ptr b)) fun a => ld .sl h28 (a.add off) fun t => (0 ≤ s3.1 ∧ s3.1 < (s.len : Int)) ∧ deref s.a fun a30 => st k h28 (a30.add ((s3.1 : Int).toNat * sz)) (mk (t.len : Int)) fun h31 => go ((w64 (s3.1 + 1)), ()) h31) ∧ ((decide (s3.1 < (s.len : Int))) = false → cont h28)))
    (hQ : ∀ h', New h0 h' k s (List.replicate xs.length (mk (o.len : Int))) → Ext (blkOf s) h h' → cont h') : Loop body (0, ()) h := by
  have sl := n.len
  refine Loop.up xs.length (fun t => t.1) (fun j _ g => New h0 g k s (mix j (List.replicate xs.length (mk (o.len : Int))) xs) ∧ Ext (blkOf s) h g) rfl ⟨n, Ext.refl _ _⟩ ?_
  rintro j ⟨j', u⟩ g go hj hc ⟨nj, xj⟩ hgo
  dsimp only at hc; subst hc
  rw [hbody]
  refine ⟨fun d => ?_, fun d => ?_⟩
  · have d : (j : Int) < (s.len : Int) := of_decide_eq_true d
    have hb : 0 ≤ (j : Int) ∧ (j : Int) < (s.len : Int) := ⟨by omega, d⟩
    refine (ob.ext xj nb).ld hp ⟨hb, nj.set (i := (j : Int)) (by omega) d hone hsz fun g2 n2 x2 => ?_⟩
    rw [Int.toNat_natCast, mix_set (List.length_replicate ..) (x := mk (o.len : Int)) (by rw [List.getElem?_replicate, if_pos (by omega)])] at n2
    exact hgo (by omega) _ _ (by show w64 ((j : Int) + 1) = _; rw [w64_of] <;> omega) ⟨n2, xj.trans x2⟩
  · have d : ¬ (j : Int) < (s.len : Int) := of_decide_eq_false d
    obtain rfl : j = xs.length := by omega
    have hma : mix xs.length (List.replicate xs.length (mk (o.len : Int))) xs = List.replicate xs.length (mk (o.len : Int)) := mix_all (List.length_replicate ..) (List.length_replicate ..)
    rw [hma] at nj
    exact hQ g nj xj

def fpK (F : Nat → Prop) (w c l : Sl) : Nat → Prop := fun x => F x ∨ blkOf w x ∨ blkOf c x ∨ blkOf l x
def KeepC (q : Option Addr → Sl → Sl → Sl → Heap → (Unit → Heap → Prop) → Prop) : Prop := ∀ {h0 h : Heap} {b N : Nat} {F : Nat → Prop} {w c l : Sl} {xs : List Wait} {ys : List Int} {zs : List Acc} {Q : Unit → Heap → Prop}, ShR h0 b N F h → N ≤ 1000000000 → New h0 h KWt w xs → New h0 h ki c ys → New h0 h KAcc l zs → xs.length ≤ 1000000000 → ys.length ≤ 1000000000 → zs.length ≤ 1000000000 →
  (∀ x, blkOf w x ∨ blkOf c x ∨ blkOf l x → ¬ F x) → (∀ x, blkOf w x → ¬ blkOf c x ∧ ¬ blkOf l x) → (∀ x, blkOf c x → ¬ blkOf l x) → (∀ F' h', ShR h0 b (N + 1) F' h' → Step (fpK F w c l) F' h h' → Q () h') → q (some (ptr b)) w c l h Q
theorem keep_spec : KeepC law21_shelf_keep.M := by
  intro h0 h b N F w c l xs ys zs Q R hN nw nc nl hx hy hz dF dw dc hQ
  obtain ⟨wo, no, lo, we, ne, le, ws, ns, ls, s, hK, rfl⟩ := R
  have hwl := s.w.len
  have hnl := s.n.len
  have hll := s.l.len
  have hwr := s.wr.len
  have hnr := s.nr.len
  have hlr := s.lr.len
  have he1 := s.e1
  have he2 := s.e2
  have dB : ∀ {t : Sl} {x : Nat}, (blkOf w x ∨ blkOf c x ∨ blkOf l x) → x ≠ b := fun q e => dF _ q (.inl e)
  have p0 : PartAt KCr .sl 0 (wo, (no, (lo, ()))) wo := ⟨[], _, rfl, rfl⟩
  have p1 : PartAt KCr .sl 1 (wo, (no, (lo, ()))) no := ⟨[_], _, rfl, rfl⟩
  have p2 : PartAt KCr .sl 2 (wo, (no, (lo, ()))) lo := ⟨[_, _], _, rfl, rfl⟩
  -- three times full of marks
  refine fillS (k := KWt) (sz := 2) rfl rfl s.obj p0 nw (fun q => dF b (.inl q) (.inl rfl)) hx (mk := fun n => (w64 (-9 - n), (-9, ()))) (cont := fun h => Loop (law21_shelf_keep.l3 (some (ptr b)) w c l Q) (0, ()) h) (fun go s3 h28 => rfl) fun h1 nw1 x1 => ?_
  have nc1 := nc.ext x1 (fun x p q => (dw x q).1 p) nw.new
  have nl1 := nl.ext x1 (fun x p q => (dw x q).2 p) nw.new
  have ob1 := s.obj.ext x1 (fun q => dF b (.inl q) (.inl rfl))
  refine fillS (k := ki) (sz := 1) rfl rfl ob1 p1 nc1 (fun q => dF b (.inr (.inl q)) (.inl rfl)) hy (mk := fun n => w64 (-1000 - n)) (cont := fun h => Loop (law21_shelf_keep.l2 (some (ptr b)) w c l Q) (0, ()) h) (fun go s3 h28 => rfl) fun h2 nc2 x2 => ?_
  have nw2 := nw1.ext x2 (fun x p q => (dw x p).1 q) nc1.new
  have nl2 := nl1.ext x2 (fun x p q => dc x q p) nc1.new
  have ob2 := ob1.ext x2 (fun q => dF b (.inr (.inl q)) (.inl rfl))
  refine fillS (k := KAcc) (sz := 6) rfl rfl ob2 p2 nl2 (fun q => dF b (.inr (.inr q)) (.inl rfl)) hz (mk := fun n => (w64 (-9 - n), (9, (0, (0, (0, (false, ()))))))) (fun go s3 h28 => rfl) fun h3 nl3 x3 => ?_
  have nw3 := nw2.ext x3 (fun x p q => (dw x p).2 q) nl2.new
  have nc3 := nc2.ext x3 (fun x p q => dc x p q) nl2.new
  have ob3 := ob2.ext x3 (fun q => dF b (.inr (.inr q)) (.inl rfl))
  have xa : Ext (fun x => blkOf w x ∨ blkOf c x ∨ blkOf l x) h h3 := (x1.mono fun x q => .inl q).trans ((x2.mono fun x q => .inr (.inl q)).trans (x3.mono fun x q => .inr (.inr q)))
  have fa : ∀ x, blkOf w x ∨ blkOf c x ∨ blkOf l x → h0 x = none := fun x q => by
    rcases q with q | q | q
    · exact nw.new x q
    · exact nc.new x q
    · exact nl.new x q
  have dFs : ∀ x, fpS b wo no lo (we ++ (ne ++ le)) x → ¬ (blkOf w x ∨ blkOf c x ∨ blkOf l x) := fun x p q => dF x q p
  have sw3 := s.w.ext xa (fun x p q => dF x q (.inr (.inl p))) fa
  have sn3 := s.n.ext xa (fun x p q => dF x q (.inr (.inr (.inl p)))) fa
  have sl3 := s.l.ext xa (fun x p q => dF x q (.inr (.inr (.inr (.inl p))))) fa
  have fb : ∀ x, x = b → h0 x = none := fun x e => by subst e; exact s.nb
  -- three slots
  refine slot_add ob3 s.nb p0 sw3 s.ob.1 (by omega) (X' := fun t => (t, (no, (lo, ())))) (fun t => rfl) (by decide) fun wo' h4 ob4 sw4 x4 b4 tb4 => ?_
  have f4 : ∀ x, (x = b ∨ blkOf wo x) → h0 x = none := fun x q => q.elim (fb x) (fun q => s.w.new x q)
  have sn4 := sn3.ext x4 (fun x p q => q.elim (fun e => s.ob.2.1 (e ▸ p)) (fun q => (s.ow x q).1 p)) f4
  have sl4 := sl3.ext x4 (fun x p q => q.elim (fun e => s.ob.2.2 (e ▸ p)) (fun q => (s.ow x q).2 p)) f4
  have ow4 : ∀ x, blkOf wo' x → ¬ blkOf no x ∧ ¬ blkOf lo x := fun x q => by
    rcases b4 x q with r | r
    · exact s.ow x r
    · exact ⟨fun z => sn3.own.live x z r, fun z => sl3.own.live x z r⟩
  refine slot_add ob4 s.nb (⟨[_], _, rfl, rfl⟩ : PartAt KCr .sl 1 (wo', (no, (lo, ()))) no) sn4 s.ob.2.1 (by omega) (X' := fun t => (wo', (t, (lo, ())))) (fun t => rfl) (by decide) fun no' h5 ob5 sn5 x5 b5 tb5 => ?_
  have f5 : ∀ x, (x = b ∨ blkOf no x) → h0 x = none := fun x q => q.elim (fb x) (fun q => s.n.new x q)
  have sw5 := sw4.ext x5 (fun x p q => q.elim (fun e => tb4 (e ▸ p)) (fun q => (ow4 x p).1 q)) f5
  have sl5 := sl4.ext x5 (fun x p q => q.elim (fun e => s.ob.2.2 (e ▸ p)) (fun q => s.on x q p)) f5
  have ow5 : ∀ x, blkOf wo' x → ¬ blkOf no' x ∧ ¬ blkOf lo x := fun x q => ⟨fun z => by
    rcases b5 x z with r | r
    · exact (ow4 x q).1 r
    · exact sw4.own.live x q r, (ow4 x q).2⟩
  have on5 : ∀ x, blkOf no' x → ¬ blkOf lo x := fun x q => by
    rcases b5 x q with r | r
    · exact s.on x r
    · exact fun z => sl4.own.live x z r
  refine slot_add ob5 s.nb (⟨[_, _], _, rfl, rfl⟩ : PartAt KCr .sl 2 (wo', (no', (lo, ()))) lo) sl5 s.ob.2.2 (by omega) (X' := fun t => (wo', (no', (t, ())))) (fun t => rfl) (by decide) fun lo' h6 ob6 sl6 x6 b6 tb6 => ?_
  have f6 : ∀ x, (x = b ∨ blkOf lo x) → h0 x = none := fun x q => q.elim (fb x) (fun q => s.l.new x q)
  have sw6 := sw5.ext x6 (fun x p q => q.elim (fun e => tb4 (e ▸ p)) (fun q => (ow5 x p).2 q)) f6
  have sn6 := sn5.ext x6 (fun x p q => q.elim (fun e => tb5 (e ▸ p)) (fun q => on5 x p q)) f6
  have ow6 : ∀ x, blkOf wo' x → ¬ blkOf no' x ∧ ¬ blkOf lo' x := fun x q => ⟨(ow5 x q).1, fun z => by
    rcases b6 x z with r | r
    · exact (ow5 x q).2 r
    · exact sw5.own.live x q r⟩
  have on6 : ∀ x, blkOf no' x → ¬ blkOf lo' x := fun x q z => by
    rcases b6 x z with r | r
    · exact on5 x q r
    · exact sn5.own.live x q r
  -- what lies beside
  have side : ∀ {t : Sl} {x : Nat}, (h3 x ≠ none) → x ≠ b → ¬ blkOf wo x → ¬ blkOf no x → ¬ blkOf lo x → (¬ (x = b ∨ blkOf wo x) ∧ ¬ (x = b ∨ blkOf no x) ∧ ¬ (x = b ∨ blkOf lo x)) ∧ ¬ blkOf wo' x ∧ ¬ blkOf no' x ∧ ¬ blkOf lo' x := by
    intro t x hl0 h1 h2' h3' h4'
    refine ⟨⟨fun q => q.elim h1 h2', fun q => q.elim h1 h3', fun q => q.elim h1 h4'⟩, fun q => ?_, fun q => ?_, fun q => ?_⟩
    · rcases b4 x q with r | r
      · exact h2' r
      · exact hl0 r
    · rcases b5 x q with r | r
      · exact h3' r
      · exact hl0 (x4.2 x r)
    · rcases b6 x q with r | r
      · exact h4' r
      · exact hl0 (x4.2 x (x5.2 x r))
  have xb : Ext (fun x => x = b ∨ blkOf wo x ∨ blkOf no x ∨ blkOf lo x) h3 h6 := (x4.mono fun x q => q.elim .inl fun q => .inr (.inl q)).trans ((x5.mono fun x q => q.elim .inl fun q => .inr (.inr (.inl q))).trans (x6.mono fun x q => q.elim .inl fun q => .inr (.inr (.inr q))))
  have fbx : ∀ x, (x = b ∨ blkOf wo x ∨ blkOf no x ∨ blkOf lo x) → h0 x = none := fun x q => by
    rcases q with q | q | q | q
    · exact fb x q
    · exact s.w.new x q
    · exact s.n.new x q
    · exact s.l.new x q
  have dnew : ∀ x, blkOf w x ∨ blkOf c x ∨ blkOf l x → ¬ (x = b ∨ blkOf wo x ∨ blkOf no x ∨ blkOf lo x) := fun x q z => dF x q (by
    rcases z with z | z | z | z
    · exact .inl z
    · exact .inr (.inl z)
    · exact .inr (.inr (.inl z))
    · exact .inr (.inr (.inr (.inl z))))
  have nw6 := nw3.ext xb (fun x p => dnew x (.inl p)) fbx
  have nc6 := nc3.ext xb (fun x p => dnew x (.inr (.inl p))) fbx
  have nl6 := nl3.ext xb (fun x p => dnew x (.inr (.inr p))) fbx
  have hrx : (List.replicate xs.length (w64 (-9 - (wo.len : Int)), (-9, ())) : List Wait).length ≤ 1000000000 := by rw [List.length_replicate]; exact hx
  have hry : (List.replicate ys.length (w64 (-1000 - (no.len : Int))) : List (Den ki)).length ≤ 1000000000 := by rw [List.length_replicate]; exact hy
  have hrz : (List.replicate zs.length (w64 (-9 - (lo.len : Int)), (9, (0, (0, (0, (false, ())))))) : List Acc).length ≤ 1000000000 := by rw [List.length_replicate]; exact hz
  -- grown
  refine Loop.up 64 (fun t => t.2.2.2.1) (fun j t g => AppI h0 h6 g KWt w (List.replicate xs.length (w64 (-9 - (wo.len : Int)), (-9, ()))) (-7, (0, ())) j t.1 ∧ AppI h0 h6 g ki c (List.replicate ys.length (w64 (-1000 - (no.len : Int)))) (-7 : Int) j t.2.1 ∧ AppI h0 h6 g KAcc l (List.replicate zs.length (w64 (-9 - (lo.len : Int)), (9, (0, (0, (0, (false, ()))))))) (-7, (0, (0, (0, (0, (false, ())))))) j t.2.2.1 ∧
    (∀ x, blkOf t.1 x → ¬ blkOf t.2.1 x ∧ ¬ blkOf t.2.2.1 x) ∧ (∀ x, blkOf t.2.1 x → ¬ blkOf t.2.2.1 x) ∧ Ext (fun x => blkOf w x ∨ blkOf c x ∨ blkOf l x) h6 g) rfl ⟨.start nw6, .start nc6, .start nl6, dw, dc, Ext.refl _ _⟩ ?_
  rintro j ⟨tw, tc, tl, j', u⟩ g go hj hcc ⟨Aw, Ac, Al, d1, d2, xg⟩ hgo
  dsimp only at hcc Aw Ac Al d1 d2; subst hcc
  refine ⟨fun d => ?_, fun d => ?_⟩
  · have d : (j : Int) < 64 := of_decide_eq_true d
    -- blocks of one are not of another
    have sep : ∀ {k1 k2 : Kd} {s1 s2 t1 t2 : Sl} {y1 : List (Den k1)} {y2 : List (Den k2)} {v1 : Den k1} {v2 : Den k2} {g : Heap} {j1 j2 : Nat}, AppI h0 h6 g k1 s1 y1 v1 j1 t1 → AppI h0 h6 g k2 s2 y2 v2 j2 t2 → (∀ x, blkOf s1 x → ¬ blkOf s2 x) → (∀ x, blkOf t1 x → ¬ blkOf t2 x) → ∀ x, (blkOf s1 x ∨ blkOf t1 x) → ¬ blkOf t2 x := by
      intro k1 k2 s1 s2 t1 t2 y1 y2 v1 v2 g j1 j2 A1 A2 e1 e2 x p q
      rcases p with p | p
      · rcases A2.b x q with r | r
        · exact e1 x p r
        · exact A1.s0.own.live x p r
      · exact e2 x p q
    have grow : ∀ {t t' t2 : Sl} {g g' : Heap}, (∀ x, blkOf t2 x → ¬ blkOf t x) → (∀ x, blkOf t2 x → g x ≠ none) → (∀ x, blkOf t' x → blkOf t x ∨ g x = none) → ∀ x, blkOf t2 x → ¬ blkOf t' x := by
      intro t t' t2 g g' e l b x p q
      rcases b x q with r | r
      · exact e x p r
      · exact l x p r
    have xin : ∀ {k1 : Kd} {s1 t1 : Sl} {y1 : List (Den k1)} {v1 : Den k1} {g1 g2 g3 : Heap} {j1 : Nat}, AppI h0 h6 g1 k1 s1 y1 v1 j1 t1 → (∀ x, blkOf s1 x → blkOf w x ∨ blkOf c x ∨ blkOf l x) → Ext (fun x => blkOf w x ∨ blkOf c x ∨ blkOf l x) h6 g1 → Ext (blkOf t1) g1 g2 → Ext (fun x => blkOf w x ∨ blkOf c x ∨ blkOf l x) h6 g2 := by
      intro k1 s1 t1 y1 v1 g1 g2 g3 j1 A hs e1 e2
      refine ⟨fun x o e nb => e2.1 x o (e1.1 x o e nb) fun q => ?_, fun x e => e1.2 x (e2.2 x e)⟩
      rcases A.b x q with r | r
      · exact nb (hs x r)
      · rw [r] at e; cases e
    refine Aw.one (sz := 2) (bytes := 16) rfl rfl (by decide) hrx (by omega) fun tw' g1 Aw1 y1 z1 => ?_
    have Ac1 := Ac.ext y1 (sep Ac Aw (fun x p q => (dw x q).1 p) (fun x p q => (d1 x q).1 p)) Aw.n.new
    have Al1 := Al.ext y1 (sep Al Aw (fun x p q => (dw x q).2 p) (fun x p q => (d1 x q).2 p)) Aw.n.new
    have xg1 := xin (g3 := g) Aw (fun x q => .inl q) xg y1
    have dcw : ∀ x, blkOf tc x → ¬ blkOf tw' x := grow (g' := g1) (fun x p q => (d1 x q).1 p) (fun x p => Ac.n.own.live x p) z1
    have dlw : ∀ x, blkOf tl x → ¬ blkOf tw' x := grow (g' := g1) (fun x p q => (d1 x q).2 p) (fun x p => Al.n.own.live x p) z1
    refine Ac1.one (sz := 1) (bytes := 8) rfl rfl (by decide) hry (by omega) fun tc' g2 Ac2 y2 z2 => ?_
    have Aw2 := Aw1.ext y2 (sep Aw1 Ac1 (fun x p q => (dw x p).1 q) (fun x p q => dcw x q p)) Ac1.n.new
    have Al2 := Al1.ext y2 (sep Al1 Ac1 (fun x p q => dc x q p) (fun x p q => d2 x q p)) Ac1.n.new
    have xg2 := xin (g3 := g) Ac1 (fun x q => .inr (.inl q)) xg1 y2
    have dwc' : ∀ x, blkOf tw' x → ¬ blkOf tc' x := grow (g' := g2) (fun x p q => dcw x q p) (fun x p => Aw1.n.own.live x p) z2
    have dlc' : ∀ x, blkOf tl x → ¬ blkOf tc' x := grow (g' := g2) (fun x p q => d2 x q p) (fun x p => Al1.n.own.live x p) z2
    refine Al2.one (sz := 6) (bytes := 48) rfl rfl (by decide) hrz (by omega) fun tl' g3 Al3 y3 z3 => ?_
    have Aw3 := Aw2.ext y3 (sep Aw2 Al2 (fun x p q => (dw x p).2 q) (fun x p q => dlw x q p)) Al2.n.new
    have Ac3 := Ac2.ext y3 (sep Ac2 Al2 (fun x p q => dc x p q) (fun x p q => dlc' x q p)) Al2.n.new
    have xg3 := xin (g3 := g) Al2 (fun x q => .inr (.inr q)) xg2 y3
    have dwl' : ∀ x, blkOf tw' x → ¬ blkOf tl' x := grow (g' := g3) (fun x p q => dlw x q p) (fun x p => Aw2.n.own.live x p) z3
    have dcl' : ∀ x, blkOf tc' x → ¬ blkOf tl' x := grow (g' := g3) (fun x p q => dlc' x q p) (fun x p => Ac2.n.own.live x p) z3
    exact hgo (by omega) _ _ (by show w64 ((j : Int) + 1) = _; rw [w64_of] <;> omega) ⟨Aw3, Ac3, Al3, fun x p => ⟨dwc' x p, dwl' x p⟩, dcl', xg3⟩
  · -- on the shelf
    have xall : Ext (fun x => x = b ∨ blkOf wo x ∨ blkOf no x ∨ blkOf lo x) h3 h6 := xb
    have rows : ∀ sl ∈ we ++ (ne ++ le), ∀ x, blkOf sl x → ¬ (blkOf w x ∨ blkOf c x ∨ blkOf l x) ∧ ¬ (x = b ∨ blkOf wo x ∨ blkOf no x ∨ blkOf lo x) := by
      intro sl hm x q
      obtain ⟨r1, r2, r3, r4, r5, r6⟩ := s.rl sl hm x q
      refine ⟨fun z => dF x z (.inr (.inr (.inr (.inr ⟨sl, hm, q⟩)))), ?_⟩
      rintro (z | z | z | z)
      · exact r3 z
      · exact r4 z
      · exact r5 z
      · exact r6 z
    have wr := ((s.wr.ext xa (fun sl hm x q => (rows sl (List.mem_append_left _ hm) x q).1)).ext xall (fun sl hm x q => (rows sl (List.mem_append_left _ hm) x q).2)).ext xg (fun sl hm x q => (rows sl (List.mem_append_left _ hm) x q).1)
    have nr := ((s.nr.ext xa (fun sl hm x q => (rows sl (List.mem_append_right _ (List.mem_append_left _ hm)) x q).1)).ext xall (fun sl hm x q => (rows sl (List.mem_append_right _ (List.mem_append_left _ hm)) x q).2)).ext xg (fun sl hm x q => (rows sl (List.mem_append_right _ (List.mem_append_left _ hm)) x q).1)
    have lr := ((s.lr.ext xa (fun sl hm x q => (rows sl (List.mem_append_right _ (List.mem_append_right _ hm)) x q).1)).ext xall (fun sl hm x q => (rows sl (List.mem_append_right _ (List.mem_append_right _ hm)) x q).2)).ext xg (fun sl hm x q => (rows sl (List.mem_append_right _ (List.mem_append_right _ hm)) x q).1)
    have offn : ∀ x, (blkOf w x ∨ blkOf c x ∨ blkOf l x) → x ≠ b ∧ ¬ blkOf wo' x ∧ ¬ blkOf no' x ∧ ¬ blkOf lo' x := fun x q => by
      have z := dnew x q
      have lv : h3 x ≠ none := by
        rcases q with q | q | q
        · exact nw3.own.live x q
        · exact nc3.own.live x q
        · exact nl3.own.live x q
      have := side (t := w) lv (fun e => z (.inl e)) (fun e => z (.inr (.inl e))) (fun e => z (.inr (.inr (.inl e)))) (fun e => z (.inr (.inr (.inr e))))
      exact ⟨fun e => z (.inl e), this.2⟩
    have nwl := nw.len
    have ncl := nc.len
    have nll := nl.len
    have gl6 : ∀ x, h6 x ≠ none → g x ≠ none := fun x q c => q (xg.2 x c)
    refine hQ _ g ⟨wo', no', lo', we ++ [w], ne ++ [c], le ++ [l], ws ++ [xs.length], ns ++ [ys.length], ls ++ [zs.length], ⟨ob6.ext xg (fun q => (offn b q).1 rfl), s.nb, sw6.ext xg (fun x p q => (offn x q).2.1 p) fa, sn6.ext xg (fun x p q => (offn x q).2.2.1 p) fa, sl6.ext xg (fun x p q => (offn x q).2.2.2 p) fa,
      wr.snoc (by rw [← hwr, hwl]; exact Aw.a), nr.snoc (by rw [← hnr, hnl]; exact Ac.a), lr.snoc (by rw [← hlr, hll]; exact Al.a), by rw [List.length_append, List.length_append, he1]; rfl, by rw [List.length_append, List.length_append, he2]; rfl, fun x hx' => ?_, fun sl hm x q => ?_, ⟨tb4 |> fun z q => ?_, fun q => ?_, tb6⟩, ow6, on6⟩, by rw [List.length_append]; exact Nat.succ_le_succ hK, rfl⟩ ⟨?_, fun x q => ?_⟩
    · simp only [List.mem_append, List.mem_singleton] at hx'
      have := s.bd x
      simp only [List.mem_append] at this
      rcases hx' with (z | rfl) | (z | rfl) | (z | rfl)
      · exact this (.inl z)
      · exact hx
      · exact this (.inr (.inl z))
      · exact hy
      · exact this (.inr (.inr z))
      · exact hz
    · have hm' : sl ∈ we ++ (ne ++ le) ∨ sl = w ∨ sl = c ∨ sl = l := by
        simp only [List.mem_append, List.mem_singleton] at hm ⊢
        rcases hm with (z | z) | (z | z) | (z | z)
        · exact .inl (.inl z)
        · exact .inr (.inl z)
        · exact .inl (.inr (.inl z))
        · exact .inr (.inr (.inl z))
        · exact .inl (.inr (.inr z))
        · exact .inr (.inr (.inr z))
      rcases hm' with hm' | hm'
      · obtain ⟨r1, r2, r3, r4, r5, r6⟩ := s.rl sl hm' x q
        have l3 : h3 x ≠ none := fun z => r1 (xa.2 x z)
        have := side (t := w) l3 r3 r4 r5 r6
        exact ⟨fun z => l3 (xb.2 x (xg.2 x z)), r2, r3, this.2⟩
      · have q' : blkOf w x ∨ blkOf c x ∨ blkOf l x := by
          rcases hm' with rfl | rfl | rfl
          · exact .inl q
          · exact .inr (.inl q)
          · exact .inr (.inr q)
        have lv : h3 x ≠ none := by
          rcases q' with q | q | q
          · exact nw3.own.live x q
          · exact nc3.own.live x q
          · exact nl3.own.live x q
        exact ⟨fun z => lv (xb.2 x (xg.2 x z)), fa x q', offn x q'⟩
    · exact z q
    · exact tb5 q
    · have a1 : Ext (fpK (fpS b wo no lo (we ++ (ne ++ le))) w c l) h h3 := xa.mono fun x q => .inr q
      have a2 : Ext (fpK (fpS b wo no lo (we ++ (ne ++ le))) w c l) h3 h6 := xb.mono fun x q => .inl (by
        rcases q with z | z | z | z
        · exact .inl z
        · exact .inr (.inl z)
        · exact .inr (.inr (.inl z))
        · exact .inr (.inr (.inr (.inl z))))
      exact a1.trans (a2.trans (xg.mono fun x q => .inr q))
    · have b3 : ∀ x, h3 x = none → h x = none := fun x z => xa.2 x z
      rcases q with q | q | q | q | ⟨sl, hm, q⟩
      · exact .inl (.inl (.inl q))
      · rcases b4 x q with r | r
        · exact .inl (.inl (.inr (.inl r)))
        · exact .inr (b3 x r)
      · rcases b5 x q with r | r
        · exact .inl (.inl (.inr (.inr (.inl r))))
        · exact .inr (b3 x (x4.2 x r))
      · rcases b6 x q with r | r
        · exact .inl (.inl (.inr (.inr (.inr (.inl r)))))
        · exact .inr (b3 x (x4.2 x (x5.2 x r)))
      · simp only [List.mem_append, List.mem_singleton] at hm
        rcases hm with (z | rfl) | (z | rfl) | (z | rfl)
        · exact .inl (.inl (.inr (.inr (.inr (.inr ⟨sl, by simp [z], q⟩)))))
        · exact .inl (.inr (.inl q))
        · exact .inl (.inl (.inr (.inr (.inr (.inr ⟨sl, by simp [z], q⟩)))))
        · exact .inl (.inr (.inr (.inl q)))
        · exact .inl (.inl (.inr (.inr (.inr (.inr ⟨sl, by simp [z], q⟩)))))
        · exact .inl (.inr (.inr (.inr q)))

end Go.Mx
