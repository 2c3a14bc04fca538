/-
  DequeApart: two deques in one memory: the plain law.
-/
import Derived.Test.YtppehoailhjdfaaMxSm
import Derived.Test.YtppehoailhjdfaaMxZb
set_option linter.unusedVariables false
set_option linter.unusedSimpArgs false
set_option linter.unusedSectionVars false
namespace Go.Mx

theorem Qt.log {s : AS} (q : Qt s) (a : Acc) : s.log a = s := by
  obtain ⟨sz, cs, lg, who, wt⟩ := s
  have h1 : wt = false := q.wt
  subst h1; rfl
theorem stepD_ld {s : AS} {o : DOp} {x : Int} (q : Qt s) (z : o ≠ DOp.zero) (p : o.pc ≠ 0) (r : o.req = .ld x) (h : 0 ≤ x ∧ x < (s.cs.length : Int)) : stepD arenaI s o = (s, o.after (gt s.cs x)) := by
  unfold stepD
  rw [if_neg z, if_neg p, r, ld_ok h, q.log]
theorem stepD_st {s : AS} {o : DOp} {x v : Int} (q : Qt s) (z : o ≠ DOp.zero) (p : o.pc ≠ 0) (r : o.req = .st x v) (h : 0 ≤ x ∧ x < (s.cs.length : Int)) : stepD arenaI s o = ({ s with cs := s.cs.set x.toNat v }, o.after 0) := by
  unfold stepD
  rw [if_neg z, if_neg p, r, st_ok h]
  have q' : Qt { s with cs := s.cs.set x.toNat v } := ⟨q.wt, q.lg, by show ((s.cs.set _ v).length : Int) ≤ s.sz; rw [List.length_set]; exact q.cs, q.sz⟩
  rw [q'.log]
theorem stepD_cas {s : AS} {o : DOp} {x v w : Int} (q : Qt s) (z : o ≠ DOp.zero) (p : o.pc ≠ 0) (r : o.req = .cas x v w) (h : 0 ≤ x ∧ x < (s.cs.length : Int)) (e : gt s.cs x = v) : stepD arenaI s o = ({ s with cs := s.cs.set x.toNat w }, o.after 1) := by
  unfold stepD
  rw [if_neg z, if_neg p, r, cas_ok h e]
  have q' : Qt { s with cs := s.cs.set x.toNat w } := ⟨q.wt, q.lg, by show ((s.cs.set _ w).length : Int) ≤ s.sz; rw [List.length_set]; exact q.cs, q.sz⟩
  rw [q'.log]
def workM (s : AS) (b a : Int) : AS := { s with cs := ((s.cs.set (a + 1).toNat 7).set (b + 1).toNat 1).set b.toNat 1 }
theorem nz {k p b m v t bb a c a2 c2 i x : Int} {w : Bool} {cd va : Int} (h : k ≠ 0) : (⟨k, p, b, m, v, t, bb, a, c, a2, c2, i, x, w, cd, va⟩ : DOp) ≠ DOp.zero := fun e => h (congrArg DOp.kind e)
/-- A push is in, a steal gets it, and there is none. -/
theorem works_run {s : AS} {b a c most : Int} (q : Qt s) (m1 : 1 ≤ most) (m2 : most ≤ 4096) (b0 : 0 ≤ b) (ba : b + 2 < a) (al : a + 1 < (s.cs.length : Int)) (h0 : gt s.cs b = 0) (h1 : gt s.cs (b + 1) = 0) (h2 : gt s.cs (b + 2) = a) (h3 : gt s.cs a = c) (c1 : 1 ≤ c) :
    (runD 6 s (DOp.push b most 7)).2.answer = (2, 0) ∧ (runD 6 (runD 6 s (DOp.push b most 7)).1 (DOp.steal b most)).2.answer = (4, 7) ∧ (runD 2 (runD 6 (runD 6 s (DOp.push b most 7)).1 (DOp.steal b most)).1 (DOp.look b most)).2.answer.1 = 8 ∧
    (runD 2 (runD 6 (runD 6 s (DOp.push b most 7)).1 (DOp.steal b most)).1 (DOp.look b most)).1 = workM s b a := by
  have hsz := q.sz
  have hcs := q.cs
  have wb : w64 (b + 0) = b := by rw [w64_of] <;> omega
  have wb1 : w64 (b + 1) = b + 1 := by rw [w64_of] <;> omega
  have wb2 : w64 (b + 2) = b + 2 := by rw [w64_of] <;> omega
  have wp : placeD a c 0 = a + 1 := by
    have e : Int.tmod 0 c = 0 := Int.zero_tmod c
    unfold placeD
    rw [e, if_neg (by decide), w64_of (x := a + 1) (by omega) (by omega), Int.add_zero, w64_of (by omega) (by omega)]
  -- the push
  have P : runD 6 s (DOp.push b most 7) = ({ s with cs := (s.cs.set (a + 1).toNat 7).set (b + 1).toNat 1 }, ⟨1, 0, b, most, 7, 0, 0, a, c, 0, 0, 0, 0, false, 2, 0⟩) := by
    have e0 : DOp.push b most 7 = ⟨1, 1, b, most, 7, 0, 0, 0, 0, 0, 0, 0, 0, false, 0, 0⟩ := begin_eq m1 m2
    have s1 : stepD arenaI s ⟨1, 1, b, most, 7, 0, 0, 0, 0, 0, 0, 0, 0, false, 0, 0⟩ = (s, ⟨1, 2, b, most, 7, 0, 0, 0, 0, 0, 0, 0, 0, false, 0, 0⟩) := by
      rw [stepD_ld q (nz (by decide)) (by simp) (x := b + 1) (by simp [DOp.req, wb1]) (by omega), h1]; rfl
    have s2 : stepD arenaI s ⟨1, 2, b, most, 7, 0, 0, 0, 0, 0, 0, 0, 0, false, 0, 0⟩ = (s, ⟨1, 3, b, most, 7, 0, 0, 0, 0, 0, 0, 0, 0, false, 0, 0⟩) := by
      rw [stepD_ld q (nz (by decide)) (by simp) (x := b) (by show Rq.ld (w64 (b + 0)) = _; rw [wb]) (by omega), h0]; rfl
    have s3 : stepD arenaI s ⟨1, 3, b, most, 7, 0, 0, 0, 0, 0, 0, 0, 0, false, 0, 0⟩ = (s, ⟨1, 4, b, most, 7, 0, 0, a, 0, 0, 0, 0, 0, false, 0, 0⟩) := by
      rw [stepD_ld q (nz (by decide)) (by simp) (x := b + 2) (by show Rq.ld (w64 (b + 2)) = _; rw [wb2]) (by omega), h2]; rfl
    have s4 : stepD arenaI s ⟨1, 4, b, most, 7, 0, 0, a, 0, 0, 0, 0, 0, false, 0, 0⟩ = (s, ⟨1, 10, b, most, 7, 0, 0, a, c, 0, 0, 0, 0, false, 0, 0⟩) := by
      rw [stepD_ld q (nz (by decide)) (by simp) (x := a) rfl (by omega), h3]
      congr 1
      show (if c < 1 then _ else if w64 (0 - 0) < c then _ else _) = _
      rw [if_neg (by omega), if_pos (by have : w64 (0 - 0) = 0 := by decide
                                        omega)]
    have s5 : stepD arenaI s ⟨1, 10, b, most, 7, 0, 0, a, c, 0, 0, 0, 0, false, 0, 0⟩ = ({ s with cs := s.cs.set (a + 1).toNat 7 }, ⟨1, 11, b, most, 7, 0, 0, a, c, 0, 0, 0, 0, false, 0, 0⟩) := by
      rw [stepD_st q (nz (by decide)) (by simp) (x := a + 1) (v := 7) (by show Rq.st (placeD a c 0) 7 = _; rw [wp]) (by omega)]; rfl
    have q5 : Qt { s with cs := s.cs.set (a + 1).toNat 7 } := ⟨q.wt, q.lg, by show ((s.cs.set _ 7).length : Int) ≤ s.sz; rw [List.length_set]; exact q.cs, q.sz⟩
    have s6 : stepD arenaI { s with cs := s.cs.set (a + 1).toNat 7 } ⟨1, 11, b, most, 7, 0, 0, a, c, 0, 0, 0, 0, false, 0, 0⟩ = ({ s with cs := (s.cs.set (a + 1).toNat 7).set (b + 1).toNat 1 }, ⟨1, 0, b, most, 7, 0, 0, a, c, 0, 0, 0, 0, false, 2, 0⟩) := by
      rw [stepD_st q5 (nz (by decide)) (by simp) (x := b + 1) (v := 1) (by show Rq.st (w64 (b + 1)) (DOp.next _) = _; rw [wb1]; rfl) (by show 0 ≤ b + 1 ∧ b + 1 < ((s.cs.set _ 7).length : Int); rw [List.length_set]; omega)]; rfl
    rw [e0]
    simp only [runD, s1, s2, s3, s4, s5, s6]
  have q1 : Qt { s with cs := (s.cs.set (a + 1).toNat 7).set (b + 1).toNat 1 } := ⟨q.wt, q.lg, by show (((s.cs.set _ 7).set _ 1).length : Int) ≤ s.sz; rw [List.length_set, List.length_set]; exact q.cs, q.sz⟩
  have L : (((s.cs.set (a + 1).toNat 7).set (b + 1).toNat 1).length : Int) = (s.cs.length : Int) := by rw [List.length_set, List.length_set]
  have G : ∀ y, 0 ≤ y → gt ((s.cs.set (a + 1).toNat 7).set (b + 1).toNat 1) y = if y = b + 1 then 1 else if y = a + 1 then 7 else gt s.cs y := fun y hy => by
    rw [gt_set (by omega) (by rw [List.length_set]; omega) hy, gt_set (by omega) (by omega) hy]
  have g0 := G b b0
  rw [if_neg (by omega), if_neg (by omega), h0] at g0
  have g1 := G (b + 1) (by omega)
  rw [if_pos rfl] at g1
  have g2 := G (b + 2) (by omega)
  rw [if_neg (by omega), if_neg (by omega), h2] at g2
  have g3 := G a (by omega)
  rw [if_neg (by omega), if_neg (by omega), h3] at g3
  have g4 := G (a + 1) (by omega)
  rw [if_neg (by omega), if_pos rfl] at g4
  rw [P]
  dsimp only
  generalize hcs1 : (s.cs.set (a + 1).toNat 7).set (b + 1).toNat 1 = cs1 at *
  have T : runD 6 { s with cs := cs1 } (DOp.steal b most) = (workM s b a, ⟨3, 0, b, most, 0, 0, 1, a, c, 0, 0, 0, 7, false, 4, 7⟩) := by
    have e0 : DOp.steal b most = ⟨3, 2, b, most, 0, 0, 0, 0, 0, 0, 0, 0, 0, false, 0, 0⟩ := begin_eq m1 m2
    have s1 : stepD arenaI { s with cs := cs1 } ⟨3, 2, b, most, 0, 0, 0, 0, 0, 0, 0, 0, 0, false, 0, 0⟩ = ({ s with cs := cs1 }, ⟨3, 1, b, most, 0, 0, 0, 0, 0, 0, 0, 0, 0, false, 0, 0⟩) := by
      rw [stepD_ld q1 (nz (by decide)) (by simp) (x := b) (by show Rq.ld (w64 (b + 0)) = _; rw [wb]) (by show 0 ≤ b ∧ b < (cs1.length : Int); omega)]
      show (_, DOp.after _ (gt cs1 b)) = _
      rw [g0]; rfl
    have s2 : stepD arenaI { s with cs := cs1 } ⟨3, 1, b, most, 0, 0, 0, 0, 0, 0, 0, 0, 0, false, 0, 0⟩ = ({ s with cs := cs1 }, ⟨3, 3, b, most, 0, 0, 1, 0, 0, 0, 0, 0, 0, false, 0, 0⟩) := by
      rw [stepD_ld q1 (nz (by decide)) (by simp) (x := b + 1) (by show Rq.ld (w64 (b + 1)) = _; rw [wb1]) (by show 0 ≤ b + 1 ∧ b + 1 < (cs1.length : Int); omega)]
      show (_, DOp.after _ (gt cs1 (b + 1))) = _
      rw [g1]; rfl
    have s3 : stepD arenaI { s with cs := cs1 } ⟨3, 3, b, most, 0, 0, 1, 0, 0, 0, 0, 0, 0, false, 0, 0⟩ = ({ s with cs := cs1 }, ⟨3, 4, b, most, 0, 0, 1, a, 0, 0, 0, 0, 0, false, 0, 0⟩) := by
      rw [stepD_ld q1 (nz (by decide)) (by simp) (x := b + 2) (by show Rq.ld (w64 (b + 2)) = _; rw [wb2]) (by show 0 ≤ b + 2 ∧ b + 2 < (cs1.length : Int); omega)]
      show (_, DOp.after _ (gt cs1 (b + 2))) = _
      rw [g2]; rfl
    have s4 : stepD arenaI { s with cs := cs1 } ⟨3, 4, b, most, 0, 0, 1, a, 0, 0, 0, 0, 0, false, 0, 0⟩ = ({ s with cs := cs1 }, ⟨3, 12, b, most, 0, 0, 1, a, c, 0, 0, 0, 0, false, 0, 0⟩) := by
      rw [stepD_ld q1 (nz (by decide)) (by simp) (x := a) rfl (by show 0 ≤ a ∧ a < (cs1.length : Int); omega)]
      show (_, DOp.after _ (gt cs1 a)) = _
      rw [g3]
      congr 1
      show (if c < 1 then _ else _) = _
      rw [if_neg (by omega)]
    have s5 : stepD arenaI { s with cs := cs1 } ⟨3, 12, b, most, 0, 0, 1, a, c, 0, 0, 0, 0, false, 0, 0⟩ = ({ s with cs := cs1 }, ⟨3, 13, b, most, 0, 0, 1, a, c, 0, 0, 0, 7, false, 0, 0⟩) := by
      rw [stepD_ld q1 (nz (by decide)) (by simp) (x := a + 1) (by show Rq.ld (placeD a c 0) = _; rw [wp]) (by show 0 ≤ a + 1 ∧ a + 1 < (cs1.length : Int); omega)]
      show (_, DOp.after _ (gt cs1 (a + 1))) = _
      rw [g4]; rfl
    have s6 : stepD arenaI { s with cs := cs1 } ⟨3, 13, b, most, 0, 0, 1, a, c, 0, 0, 0, 7, false, 0, 0⟩ = (workM s b a, ⟨3, 0, b, most, 0, 0, 1, a, c, 0, 0, 0, 7, false, 4, 7⟩) := by
      rw [stepD_cas q1 (nz (by decide)) (by simp) (x := b) (v := 0) (w := 1) (by show Rq.cas (w64 (b + 0)) 0 (w64 (0 + 1)) = _; rw [wb]; rfl) (by show 0 ≤ b ∧ b < (cs1.length : Int); omega) g0]
      unfold workM
      rw [hcs1]; rfl
    rw [e0]
    simp only [runD, s1, s2, s3, s4, s5, s6]
  rw [T]
  dsimp only
  have q2 : Qt (workM s b a) := ⟨q.wt, q.lg, by show ((((s.cs.set (a + 1).toNat 7).set (b + 1).toNat 1).set b.toNat 1).length : Int) ≤ s.sz; rw [hcs1, List.length_set]; show (cs1.length : Int) ≤ _; omega, q.sz⟩
  have LW : ((workM s b a).cs.length : Int) = (s.cs.length : Int) := by show ((((s.cs.set (a + 1).toNat 7).set (b + 1).toNat 1).set b.toNat 1).length : Int) = _; rw [hcs1, List.length_set]; exact L
  have GW : ∀ y, 0 ≤ y → gt (workM s b a).cs y = if y = b then 1 else gt cs1 y := fun y hy => by
    show gt (((s.cs.set (a + 1).toNat 7).set (b + 1).toNat 1).set b.toNat 1) y = _
    rw [hcs1, gt_set b0 (by omega) hy]
  have k0 := GW b b0
  rw [if_pos rfl] at k0
  have k1 := GW (b + 1) (by omega)
  rw [if_neg (by omega), g1] at k1
  have K : runD 2 (workM s b a) (DOp.look b most) = (workM s b a, ⟨4, 0, b, most, 0, 1, 0, 0, 0, 0, 0, 0, 0, false, 8, 0⟩) := by
    have e0 : DOp.look b most = ⟨4, 2, b, most, 0, 0, 0, 0, 0, 0, 0, 0, 0, false, 0, 0⟩ := begin_eq m1 m2
    have s1 : stepD arenaI (workM s b a) ⟨4, 2, b, most, 0, 0, 0, 0, 0, 0, 0, 0, 0, false, 0, 0⟩ = (workM s b a, ⟨4, 1, b, most, 0, 1, 0, 0, 0, 0, 0, 0, 0, false, 0, 0⟩) := by
      rw [stepD_ld q2 (nz (by decide)) (by simp) (x := b) (by show Rq.ld (w64 (b + 0)) = _; rw [wb]) (by omega), k0]; rfl
    have s2 : stepD arenaI (workM s b a) ⟨4, 1, b, most, 0, 1, 0, 0, 0, 0, 0, 0, 0, false, 0, 0⟩ = (workM s b a, ⟨4, 0, b, most, 0, 1, 0, 0, 0, 0, 0, 0, 0, false, 8, 0⟩) := by
      rw [stepD_ld q2 (nz (by decide)) (by simp) (x := b + 1) (by show Rq.ld (w64 (b + 1)) = _; rw [wb1]) (by omega), k1]; rfl
    rw [e0]
    simp only [runD, s1, s2]
  rw [K]
  have an : ∀ {k p t bb aa cc x cd va : Int}, k ≠ 0 → (⟨k, 0, b, most, p, t, bb, aa, cc, 0, 0, 0, x, false, cd, va⟩ : DOp).answer = (cd, va) := fun {k p t bb aa cc x cd va} h => by
    unfold DOp.answer; rw [if_neg (nz h), if_neg (by simp)]
  exact ⟨an (by decide), an (by decide), by rw [an (by decide)], rfl⟩

/-! ### one deque among others -/
structure DevI (most sz N off : Int) (A J : AS) (f : Int → Int) (bl : List Int) (own th : DOp) : Prop where
  emb : Emb A.cs J.cs off f
  dg : DG most sz N A.cs own
  sz : A.sz = sz
  os : OwnS most A.cs own
  ths : ThS A.cs own th
  mo : Mach most own
  mt : Mach most th
  ki : KI A.cs own f bl
  kt : KT th bl
  ra : (th.a = 0 ∨ (3 ≤ th.a ∧ th.a < (A.cs.length : Int))) ∧ th.a2 = 0
  ko : own.pc ≠ 0 → own.kind = 1 ∨ own.kind = 2
  kth : th.pc ≠ 0 → th.kind = 3
/-- The machine there. -/
def MO (off : Int) (f : Int → Int) (o oJ : DOp) : Prop := (o = DOp.zero ∧ oJ = DOp.zero) ∨ (o.kind ≠ 0 ∧ oJ = mapO off f o)
theorem mapO_answer {off : Int} {f : Int → Int} {o : DOp} (k : o.kind ≠ 0) : (mapO off f o).answer = o.answer := by
  unfold DOp.answer
  rw [if_neg (fun e : mapO off f o = DOp.zero => k (congrArg DOp.kind e)), if_neg (fun e : o = DOp.zero => k (congrArg DOp.kind e))]
  rfl
theorem MO.answer {off f o oJ} (m : MO off f o oJ) : oJ.answer = o.answer := by
  rcases m with ⟨rfl, rfl⟩ | ⟨k, rfl⟩
  · rfl
  · exact mapO_answer k
theorem fz0 (f : Int → Int) : fz f 0 = 0 := if_pos rfl
theorem mapO_begin {off most v k p : Int} {f : Int → Int} (m1 : 1 ≤ most) (m2 : most ≤ 4096) : mapO off f (DOp.begin k p 0 most v) = DOp.begin k p off most v := by
  rw [begin_eq m1 m2, begin_eq m1 m2]
  unfold mapO
  simp [fz0]
theorem Emb.other {A B J J' : List Int} {off : Int} {f g : Int → Int} (E : Emb B J off g) (hr : ∀ y, 0 ≤ y → y < (J.length : Int) → (∀ x, 0 ≤ x → x < (A.length : Int) → f x ≠ y) → gt J' y = gt J y) (dis : ∀ x y, 0 ≤ x → x < (A.length : Int) → 0 ≤ y → y < (B.length : Int) → f x ≠ g y) (hl : (J.length : Int) ≤ (J'.length : Int)) (hj : (J'.length : Int) ≤ 1048576) : Emb B J' off g := by
  have keep : ∀ y, 0 ≤ y → y < (B.length : Int) → gt J' (g y) = gt J (g y) := fun y a b => hr _ (E.rng y a b).1 (E.rng y a b).2 fun x c d => dis x y c d a b
  have a3 := E.a3
  exact ⟨E.b0, E.b1, E.b2, E.a3, hj, fun x a b => ⟨(E.rng x a b).1, by have := (E.rng x a b).2; omega⟩, E.inj, fun x a b n => by rw [keep x a b]; exact E.cell x a b n, by rw [keep 2 (by decide) (by omega)]; exact E.buf⟩
theorem DevI.other {most' sz' N' off' : Int} {A B J J' : AS} {f g : Int → Int} {bl' : List Int} {own' th' : DOp} (D : DevI most' sz' N' off' B J g bl' own' th') (hr : ∀ y, 0 ≤ y → y < (J.cs.length : Int) → (∀ x, 0 ≤ x → x < (A.cs.length : Int) → f x ≠ y) → gt J'.cs y = gt J.cs y) (dis : ∀ x y, 0 ≤ x → x < (A.cs.length : Int) → 0 ≤ y → y < (B.cs.length : Int) → f x ≠ g y) (hl : (J.cs.length : Int) ≤ (J'.cs.length : Int)) (hj : (J'.cs.length : Int) ≤ 1048576) : DevI most' sz' N' off' B J' g bl' own' th' :=
  { D with emb := D.emb.other hr dis hl hj }
theorem stolen_a (o : DOp) (g : Int) (k : o.kind = 3) : (o.after g).a2 = o.a2 ∧ (o.after g).a = if o.pc = 3 then g else o.a := by
  have e : o.after g = o.stolen g := by unfold DOp.after; rw [if_neg (by omega), if_neg (by omega), if_pos k]
  rw [e]
  unfold DOp.stolen
  by_cases p3 : o.pc = 3
  · rw [if_neg (by omega), if_neg (by omega), if_pos p3, if_pos p3]; exact ⟨rfl, rfl⟩
  rw [if_neg p3, if_neg p3]
  exact pif (P := fun x : DOp => x.a2 = o.a2 ∧ x.a = o.a) (fun _ => ⟨rfl, rfl⟩) fun _ => pif (P := fun x : DOp => x.a2 = o.a2 ∧ x.a = o.a) (fun _ => pif (P := fun x : DOp => x.a2 = o.a2 ∧ x.a = o.a) (fun _ => ⟨rfl, rfl⟩) fun _ => ⟨rfl, rfl⟩) fun _ =>
    pif (P := fun x : DOp => x.a2 = o.a2 ∧ x.a = o.a) (fun _ => pif (P := fun x : DOp => x.a2 = o.a2 ∧ x.a = o.a) (fun _ => ⟨rfl, rfl⟩) fun _ => ⟨rfl, rfl⟩) fun _ => pif (P := fun x : DOp => x.a2 = o.a2 ∧ x.a = o.a) (fun _ => ⟨rfl, rfl⟩) fun _ =>
    pif (P := fun x : DOp => x.a2 = o.a2 ∧ x.a = o.a) (fun _ => pif (P := fun x : DOp => x.a2 = o.a2 ∧ x.a = o.a) (fun _ => ⟨rfl, rfl⟩) fun _ => ⟨rfl, rfl⟩) fun _ => ⟨rfl, rfl⟩
/-- What a turn comes to, alone and among others. -/
structure TurnR (most sz N off : Int) (A J : AS) (f : Int → Int) (own th : DOp) (A' J' : AS) (f' : Int → Int) (bl' : List Int) (own' th' : DOp) : Prop where
  dev : DevI most sz N off A' J' f' bl' own' th'
  old : ∀ x, 0 ≤ x → x < (A.cs.length : Int) → f' x = f x
  new : ∀ x, (A.cs.length : Int) ≤ x → x < (A'.cs.length : Int) → (J.cs.length : Int) ≤ f' x
  len : (J'.cs.length : Int) - (J.cs.length : Int) = (A'.cs.length : Int) - (A.cs.length : Int)
  alen : (A.cs.length : Int) ≤ (A'.cs.length : Int)
  jsz : J'.sz = J.sz
  rest : ∀ y, 0 ≤ y → y < (J.cs.length : Int) → (∀ x, 0 ≤ x → x < (A.cs.length : Int) → f x ≠ y) → gt J'.cs y = gt J.cs y
theorem SimR.step {off f A J o v A' f' v' J'} (S : SimR off f A J o v A' f' v' J') (z : o.kind ≠ 0) (p : o.pc ≠ 0) : stepD arenaI J (mapO off f o) = (J', mapO off f' (o.after v)) := by
  unfold stepD
  rw [if_neg (fun e : mapO off f o = DOp.zero => z (congrArg DOp.kind e)), if_neg (show ¬ (mapO off f o).pc = 0 from p), S.acc, S.op]
theorem step_acc {A A' : AS} {o : DOp} {v : Int} (z : o.kind ≠ 0) (p : o.pc ≠ 0) (h : arenaI A o.req = (some v, A')) : stepD arenaI A o = (A', o.after v) := by
  unfold stepD
  rw [if_neg (fun e : o = DOp.zero => z (congrArg DOp.kind e)), if_neg p, h]
theorem DG.up {most sz N : Int} {cs : List Int} {own : DOp} (g : DG most sz N cs own) (nn : N + 1 ≤ 1000000000) : DG most sz (N + 1) cs own := by
  obtain ⟨g1, g2, g3, g4, g5, g6, g7, g8, g9, g10, g11, g12, g13⟩ := g
  exact ⟨g1, g2, g3, g4, by omega, nn, g7, g8, g9, g10, g11, g12, g13⟩
section
variable {most sz N off : Int} {A J : AS} {f : Int → Int} {bl : List Int} {own th : DOp} (D : DevI most sz N off A J f bl own th) (nn : N + 1 ≤ 1000000000)
include D nn
/-- The owner's step. -/
theorem DevI.ownS (hJ : J.sz ≤ 1048576) (hroom : J.sz - (J.cs.length : Int) ≥ A.sz - (A.cs.length : Int)) (pp : own.pc ≠ 0) : ∃ J' f' bl', stepD arenaI J (mapO off f own) = (J', mapO off f' (stepD arenaI A own).2) ∧ TurnR most sz (N + 1) off A J f own th (stepD arenaI A own).1 J' f' bl' (stepD arenaI A own).2 th ∧ mapO off f' th = mapO off f th ∧ (stepD arenaI A own).2.answer.1 ≠ 1 ∧ (stepD arenaI A own).2.kind ≠ 0 := by
  obtain ⟨E, g, hs, os, ts, mo, mt, K, kt, ra, ko, kth⟩ := D
  have hk := ko pp
  have hk0 : own.kind ≠ 0 := by omega
  have main : ∀ v A', arenaI A own.req = (some v, A') → OwnR most sz N A own A' (own.after v) → (∃ f' bl' v' J', SimR off f A J own v A' f' v' J' ∧ KI A'.cs (own.after v) f' bl' ∧ ∀ s ∈ bl, s ∈ bl') →
      ∃ J' f' bl', stepD arenaI J (mapO off f own) = (J', mapO off f' (own.after v)) ∧ TurnR most sz (N + 1) off A J f own th A' J' f' bl' (own.after v) th ∧ mapO off f' th = mapO off f th ∧ (own.after v).answer.1 ≠ 1 ∧ (own.after v).kind ≠ 0 := by
    rintro v A' ha R ⟨f', bl', v', J', S, K', sub⟩
    have hk' : (own.after v).kind = own.kind := (own.after_same v).1
    have az : A'.sz = sz := by
      have f0 : (⟨A.sz, A.cs, [], A.who, A.wt⟩ : AS).Fit 0 := ⟨by simp, by show (A.cs.length : Int) ≤ A.sz; rw [hs]; exact g.le, by show A.sz ≤ 1048576; rw [hs]; exact g.szb⟩
      have e : A'.sz = A.sz := by
        have h2 : A' = (arenaI A own.req).2 := by rw [ha]
        rw [h2]
        cases own.req with
        | ld a => exact pif (P := fun p : Option Int × AS => p.2.sz = A.sz) (fun _ => rfl) fun _ => rfl
        | st a v => exact pif (P := fun p : Option Int × AS => p.2.sz = A.sz) (fun _ => rfl) fun _ => rfl
        | cas a x y => exact pif (P := fun p : Option Int × AS => p.2.sz = A.sz) (fun _ => rfl) fun _ => rfl
        | rs n => exact pif (P := fun p : Option Int × AS => p.2.sz = A.sz) (fun _ => rfl) fun _ => pif (P := fun p : Option Int × AS => p.2.sz = A.sz) (fun _ => rfl) fun _ => rfl
      rw [e, hs]
    have al := S.alen
    refine ⟨J', f', bl', S.step hk0 pp, ⟨⟨S.emb, R.dg, az, R.os, R.th th ts, fun p => ?_, mt, K', fun a b => sub _ (kt a b), ⟨ra.1.imp id fun z => ⟨z.1, by omega⟩, ra.2⟩, fun _ => by rw [hk']; exact hk, kth⟩, S.old, S.new, S.len, al, S.sz, S.rest⟩, ?_, ?_, by rw [hk']; exact hk0⟩
    · obtain ⟨_, hb, hm, _⟩ := own.after_same v
      rw [hb, hm]; exact mo pp
    · have e1 : fz f' th.a = fz f th.a := by
        rcases ra.1 with z | ⟨z1, z2⟩
        · rw [z, fz0, fz0]
        · rw [fz_pos z1, fz_pos z1]; exact S.old _ (by omega) z2
      unfold mapO
      rw [e1, ra.2, fz0, fz0]
    · unfold DOp.answer
      rw [if_neg (fun e : own.after v = DOp.zero => hk0 (by rw [← hk', e]; rfl))]
      by_cases p0 : (own.after v).pc = 0
      · rw [if_neg (fun z => z p0)]
        cases R.eff with
        | same p => exact absurd p0 p
        | push k p co => show (own.after v).code ≠ 1; rw [co]; decide
        | full k p co => show (own.after v).code ≠ 1; rw [co]; decide
        | low k p => exact absurd p0 p
        | got k p co => show (own.after v).code ≠ 1; rw [co]; decide
        | empty k p co => show (own.after v).code ≠ 1; rw [co]; decide
        | won k p => exact absurd p0 p
      · rw [if_pos p0]; decide
  rcases hk with k | k
  · obtain ⟨v, A', ha, R⟩ := own_push g nn hs mo os k pp
    rw [step_acc hk0 pp ha]
    exact main v A' ha R (sim_push E g hs hJ hroom mo os K k pp ha)
  · obtain ⟨v, A', ha, R⟩ := own_pop g nn hs mo os k pp
    rw [step_acc hk0 pp ha]
    obtain ⟨v', J', S, K'⟩ := sim_pop E g hs mo os K k pp ha
    exact main v A' ha R ⟨f, bl, v', J', S, K', fun s h => h⟩
/-- The thief's step. -/
theorem DevI.thiefS (pp : th.pc ≠ 0) : ∃ J', stepD arenaI J (mapO off f th) = (J', mapO off f (stepD arenaI A th).2) ∧ TurnR most sz (N + 1) off A J f own th (stepD arenaI A th).1 J' f bl own (stepD arenaI A th).2 ∧ (stepD arenaI A th).2.answer.1 ≠ 1 ∧ (stepD arenaI A th).2.kind ≠ 0 := by
  obtain ⟨E, g, hs, os, ts, mo, mt, K, kt, ra, ko, kth⟩ := D
  have k := kth pp
  have hk0 : th.kind ≠ 0 := by omega
  have hnw := newer_nn os g.c1 g.cm
  obtain ⟨v, A', ha, R⟩ := th_step g hnw mt os ts pp
  rw [step_acc hk0 pp ha]
  show ∃ J', stepD arenaI J (mapO off f th) = (J', mapO off f (th.after v)) ∧ TurnR most sz (N + 1) off A J f own th A' J' f bl own (th.after v) ∧ (th.after v).answer.1 ≠ 1 ∧ (th.after v).kind ≠ 0
  obtain ⟨v', J', S, K', kt'⟩ := sim_thief E g hs hnw mt ts K kt pp ha
  have hk' : (th.after v).kind = th.kind := (th.after_same v).1
  obtain ⟨a2, aa⟩ := stolen_a th v k
  have al := S.alen
  have az : A'.sz = sz := by
    have e : A'.sz = A.sz := by
      have h2 : A' = (arenaI A th.req).2 := by rw [ha]
      rw [h2]
      cases th.req with
      | ld a => exact pif (P := fun p : Option Int × AS => p.2.sz = A.sz) (fun _ => rfl) fun _ => rfl
      | st a v => exact pif (P := fun p : Option Int × AS => p.2.sz = A.sz) (fun _ => rfl) fun _ => rfl
      | cas a x y => exact pif (P := fun p : Option Int × AS => p.2.sz = A.sz) (fun _ => rfl) fun _ => rfl
      | rs n => exact pif (P := fun p : Option Int × AS => p.2.sz = A.sz) (fun _ => rfl) fun _ => pif (P := fun p : Option Int × AS => p.2.sz = A.sz) (fun _ => rfl) fun _ => rfl
    rw [e, hs]
  refine ⟨J', S.step hk0 pp, ⟨⟨S.emb, R.dg.up nn, az, R.os, R.me, mo, fun p => ?_, K', kt', ⟨?_, by rw [a2]; exact ra.2⟩, ko, fun _ => by rw [hk']; exact k⟩, S.old, S.new, S.len, al, S.sz, S.rest⟩, ?_, by rw [hk']; exact hk0⟩
  · obtain ⟨_, hb, hm, _⟩ := th.after_same v
    rw [hb, hm]; exact mt pp
  · rw [aa]
    by_cases p3 : th.pc = 3
    · rw [if_pos p3]
      have hb0 := (mt pp).1
      rw [req3 hb0 p3, ld_ok ⟨by decide, by have := E.a3; omega⟩] at ha
      cases ha
      have := (K.af _ K.cur)
      have h1 := this.1
      have h2 := this.2.1
      have h3 : 1 ≤ gt A.cs (cA A.cs) := g.c1
      exact .inr ⟨h1, by show cA A.cs < (A.cs.length : Int); omega⟩
    · rw [if_neg p3]; exact ra.1.imp id fun z => ⟨z.1, by omega⟩
  · unfold DOp.answer
    rw [if_neg (fun e : th.after v = DOp.zero => hk0 (by rw [← hk', e]; rfl))]
    by_cases p0 : (th.after v).pc = 0
    · rw [if_neg (fun z => z p0)]
      cases R.eff with
      | same p => exact absurd p0 p
      | empty k p co => show (th.after v).code ≠ 1; rw [co]; decide
      | lost k p co => show (th.after v).code ≠ 1; rw [co]; decide
      | got k p co => show (th.after v).code ≠ 1; rw [co]; decide
      | look k p co => show (th.after v).code ≠ 1; rcases co with co | co <;> rw [co] <;> decide
    · rw [if_pos p0]; decide
end

theorem DevI.up {most sz N off : Int} {A J : AS} {f : Int → Int} {bl : List Int} {own th : DOp} (D : DevI most sz N off A J f bl own th) (nn : N + 1 ≤ 1000000000) : DevI most sz (N + 1) off A J f bl own th := { D with dg := D.dg.up nn }
theorem DevI.begO {most sz N off : Int} {A J : AS} {f : Int → Int} {bl : List Int} {own th : DOp} (D : DevI most sz N off A J f bl own th) (p : own.pc = 0) {k v : Int} (hk : k = 1 ∨ k = 2) : DevI most sz N off A J f bl (DOp.begin k 1 0 most v) th := by
  have m1 : 1 ≤ most := by have := D.dg.c1; have := D.dg.cm; omega
  have m2 := D.dg.mx
  have l0 : ¬ lowered own := lowp (.inl p)
  have e := begin_eq (k := k) (pc := 1) (base := 0) (most := most) (v := v) m1 m2
  rw [e]
  have l1 : ¬ lowered (⟨k, 1, 0, most, v, 0, 0, 0, 0, 0, 0, 0, 0, false, 0, 0⟩ : DOp) := lowp (.inr (.inl rfl))
  have b1 : Bl A.cs (⟨k, 1, 0, most, v, 0, 0, 0, 0, 0, 0, 0, 0, false, 0, 0⟩ : DOp) = Bl A.cs own := (Bl_up l1).trans (Bl_up l0).symm
  have n1 : newer (⟨k, 1, 0, most, v, 0, 0, 0, 0, 0, 0, 0, 0, false, 0, 0⟩ : DOp) = newer own := (new0 (.inr (.inl (show (1 : Int) < 6 by decide)))).trans (new0 (.inr (.inl (by omega)))).symm
  refine ⟨D.emb, D.dg.re b1 n1, D.sz, ?_, ?_, fun _ => ⟨rfl, rfl⟩, D.mt, D.ki.keep rfl rfl (fun _ _ => rfl) (fun _ h => by simp at h), D.kt, D.ra, fun _ => hk, D.kth⟩
  · rcases hk with rfl | rfl
    · exact .pu1 rfl rfl
    · exact .po1 rfl rfl rfl rfl
  · refine D.ths.keep rfl (fun a => ?_) (fun a b => ⟨b, rfl, fun _ e => e⟩) (fun _ => rfl)
    rcases a with a | ⟨_, a, _⟩
    · exact .inl a
    · exact absurd a l0
theorem DevI.begT {most sz N off : Int} {A J : AS} {f : Int → Int} {bl : List Int} {own th : DOp} (D : DevI most sz N off A J f bl own th) {v : Int} : DevI most sz N off A J f bl own (DOp.begin 3 2 0 most v) := by
  have m1 : 1 ≤ most := by have := D.dg.c1; have := D.dg.cm; omega
  have m2 := D.dg.mx
  rw [begin_eq m1 m2]
  exact ⟨D.emb, D.dg, D.sz, D.os, .st2 rfl rfl, D.mo, fun _ => ⟨rfl, rfl⟩, D.ki, fun _ h => by simp at h, ⟨.inl rfl, rfl⟩, D.ko, fun _ => rfl⟩
/-- Two deques in one memory. -/
structure AptI (most sz off most' sz' off' N : Int) (J A B : AS) (f : Int → Int) (bl : List Int) (g : Int → Int) (bl' : List Int) (o t o' t' : DOp) : Prop where
  d : DevI most sz N off A J f bl o t
  d' : DevI most' sz' N off' B J g bl' o' t'
  dis : ∀ x y, 0 ≤ x → x < (A.cs.length : Int) → 0 ≤ y → y < (B.cs.length : Int) → f x ≠ g y
  len : (J.cs.length : Int) = (A.cs.length : Int) + (B.cs.length : Int)
  jsz : J.sz = sz + sz'
  j1 : J.sz ≤ 1048576
theorem AptI.swap {most sz off most' sz' off' N : Int} {J A B : AS} {f : Int → Int} {bl : List Int} {g : Int → Int} {bl' : List Int} {o t o' t' : DOp} (I : AptI most sz off most' sz' off' N J A B f bl g bl' o t o' t') : AptI most' sz' off' most sz off N J B A g bl' f bl o' t' o t :=
  ⟨I.d', I.d, fun x y a b c d e => I.dis y x c d a b e.symm, by rw [I.len, Int.add_comm], by rw [I.jsz, Int.add_comm], I.j1⟩
theorem AptI.turn {most sz off most' sz' off' N : Int} {J A B : AS} {f : Int → Int} {bl : List Int} {g : Int → Int} {bl' : List Int} {o t o' t' : DOp} (I : AptI most sz off most' sz' off' N J A B f bl g bl' o t o' t') (nn : N + 1 ≤ 1000000000) {A1 J1 : AS} {f1 : Int → Int} {bl1 : List Int} {o1 t1 o0 t0 : DOp} (T : TurnR most sz (N + 1) off A J f o0 t0 A1 J1 f1 bl1 o1 t1) : AptI most sz off most' sz' off' (N + 1) J1 A1 B f1 bl1 g bl' o1 t1 o' t' := by
  have h1 := T.len
  have h2 := T.alen
  refine ⟨T.dev, (I.d'.other T.rest I.dis (by omega) T.dev.emb.jl).up nn, fun x y a b c d e => ?_, by have := I.len; omega, by rw [T.jsz]; exact I.jsz, by rw [T.jsz]; exact I.j1⟩
  by_cases h : x < (A.cs.length : Int)
  · rw [T.old x a h] at e; exact I.dis x y a h c d e
  · have h3 := T.new x (by omega) b
    have h4 := (I.d'.emb.rng y c d).2
    omega
def turnB (base most : Int) (th pop : Bool) (v : Int) (o : DOp) : DOp := if o.answer.1 ≠ 0 then (if th = true then DOp.steal base most else if pop = true then DOp.pop base most else DOp.push base most v) else o
theorem ans_run {o : DOp} (k : o.kind ≠ 0) (p : o.pc ≠ 0) : o.answer = (0, 0) := by unfold DOp.answer; rw [if_neg (fun e : o = DOp.zero => k (congrArg DOp.kind e)), if_pos p]
section
variable {most sz off most' sz' off' N : Int} {J A B : AS} {f : Int → Int} {bl : List Int} {g : Int → Int} {bl' : List Int} {o t o' t' : DOp} (I : AptI most sz off most' sz' off' N J A B f bl g bl' o t o' t') (nn : N + 1 ≤ 1000000000)
include I nn
/-- The owner's turn. -/
theorem AptI.own {oJ tJ : DOp} (ho : MO off f o oJ) (ht : MO off f t tJ) (pop : Bool) (v : Int) : ∃ f1 bl1, AptI most sz off most' sz' off' (N + 1) (stepD arenaI J (turnB off most false pop v oJ)).1 (stepD arenaI A (turnB 0 most false pop v o)).1 B f1 bl1 g bl' (stepD arenaI A (turnB 0 most false pop v o)).2 t o' t' ∧
    MO off f1 (stepD arenaI A (turnB 0 most false pop v o)).2 (stepD arenaI J (turnB off most false pop v oJ)).2 ∧ MO off f1 t tJ ∧ (stepD arenaI A (turnB 0 most false pop v o)).2.answer.1 ≠ 1 := by
  have m1 : 1 ≤ most := by have := I.d.dg.c1; have := I.d.dg.cm; omega
  have m2 := I.d.dg.mx
  have room : J.sz - (J.cs.length : Int) ≥ A.sz - (A.cs.length : Int) := by
    have h1 := I.len; have h2 := I.jsz; have h3 := I.d.sz; have h4 := I.d'.dg.le
    omega
  have main : ∀ x : DOp, DevI most sz N off A J f bl x t → x.pc ≠ 0 → ∃ f1 bl1, AptI most sz off most' sz' off' (N + 1) (stepD arenaI J (mapO off f x)).1 (stepD arenaI A x).1 B f1 bl1 g bl' (stepD arenaI A x).2 t o' t' ∧
      MO off f1 (stepD arenaI A x).2 (stepD arenaI J (mapO off f x)).2 ∧ MO off f1 t tJ ∧ (stepD arenaI A x).2.answer.1 ≠ 1 := fun x D p => by
    obtain ⟨J', f1, bl1, e, T, et, a1, k1⟩ := D.ownS nn I.j1 room p
    rw [e]
    refine ⟨f1, bl1, I.turn nn T, .inr ⟨k1, rfl⟩, ?_, a1⟩
    rcases ht with z | ⟨z1, z2⟩
    · exact .inl z
    · exact .inr ⟨z1, by rw [et]; exact z2⟩
  have ea := ho.answer
  unfold turnB
  rw [ea]
  by_cases h : o.answer.1 ≠ 0
  · rw [if_pos h, if_pos h]
    have p0 : o.pc = 0 := Decidable.byContradiction fun p => by
      have k := I.d.ko p
      rw [ans_run (by omega) p] at h
      exact h rfl
    have hp : ∀ k p v, (p = 1) → (DOp.begin k p 0 most v).pc ≠ 0 := fun k p v e => by rw [begin_eq m1 m2, e]; show (1 : Int) ≠ 0; decide
    cases pop with
    | true =>
      have D := I.d.begO p0 (k := 2) (v := 0) (.inr rfl)
      have := main _ D (hp _ _ _ rfl)
      rw [mapO_begin m1 m2] at this
      exact this
    | false =>
      have D := I.d.begO p0 (k := 1) (v := v) (.inl rfl)
      have := main _ D (hp _ _ _ rfl)
      rw [mapO_begin m1 m2] at this
      exact this
  · rw [if_neg h, if_neg h]
    have h : o.answer.1 = 0 := Decidable.not_not.1 h
    rcases ho with ⟨z, _⟩ | ⟨k, rfl⟩
    · rw [z] at h; exact absurd h (by decide)
    by_cases p : o.pc = 0
    · rw [stepD_end p, stepD_end (show (mapO off f o).pc = 0 from p)]
      exact ⟨f, bl, ⟨I.d.up nn, I.d'.up nn, I.dis, I.len, I.jsz, I.j1⟩, .inr ⟨k, rfl⟩, ht, by rw [h]; decide⟩
    · exact main o I.d p
/-- The thief's turn. -/
theorem AptI.thief {oJ tJ : DOp} (ho : MO off f o oJ) (ht : MO off f t tJ) (pop : Bool) (v : Int) : AptI most sz off most' sz' off' (N + 1) (stepD arenaI J (turnB off most true pop v tJ)).1 (stepD arenaI A (turnB 0 most true pop v t)).1 B f bl g bl' o (stepD arenaI A (turnB 0 most true pop v t)).2 o' t' ∧
    MO off f (stepD arenaI A (turnB 0 most true pop v t)).2 (stepD arenaI J (turnB off most true pop v tJ)).2 ∧ (stepD arenaI A (turnB 0 most true pop v t)).2.answer.1 ≠ 1 := by
  have m1 : 1 ≤ most := by have := I.d.dg.c1; have := I.d.dg.cm; omega
  have m2 := I.d.dg.mx
  have main : ∀ x : DOp, DevI most sz N off A J f bl o x → x.pc ≠ 0 → AptI most sz off most' sz' off' (N + 1) (stepD arenaI J (mapO off f x)).1 (stepD arenaI A x).1 B f bl g bl' o (stepD arenaI A x).2 o' t' ∧
      MO off f (stepD arenaI A x).2 (stepD arenaI J (mapO off f x)).2 ∧ (stepD arenaI A x).2.answer.1 ≠ 1 := fun x D p => by
    obtain ⟨J', e, T, a1, k1⟩ := D.thiefS nn p
    rw [e]
    exact ⟨I.turn nn T, .inr ⟨k1, rfl⟩, a1⟩
  have ea := ht.answer
  unfold turnB
  rw [ea]
  by_cases h : t.answer.1 ≠ 0
  · rw [if_pos h, if_pos h, if_pos rfl, if_pos rfl]
    have D := I.d.begT (v := 0)
    have := main _ D (by rw [begin_eq m1 m2]; show (2 : Int) ≠ 0; decide)
    rw [mapO_begin m1 m2] at this
    exact this
  · rw [if_neg h, if_neg h]
    have h : t.answer.1 = 0 := Decidable.not_not.1 h
    rcases ht with ⟨z, _⟩ | ⟨k, rfl⟩
    · rw [z] at h; exact absurd h (by decide)
    by_cases p : t.pc = 0
    · rw [stepD_end p, stepD_end (show (mapO off f t).pc = 0 from p)]
      exact ⟨⟨I.d.up nn, I.d'.up nn, I.dis, I.len, I.jsz, I.j1⟩, .inr ⟨k, rfl⟩, by rw [h]; decide⟩
    · exact main t I.d p
end
end Go.Mx
