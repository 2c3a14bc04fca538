/-
  The reference's play: what it answers.
-/
import Derived.Test.YtjkecefbbijajaaMxUe
import Derived.Test.YtjkecefbbijajaaMxQl
import Derived.Test.YtjkecefbbijajaaMxNe
set_option linter.unusedVariables false
set_option linter.unusedSimpArgs false
set_option linter.unusedSectionVars false
namespace Go.Mx

def CapC (c : Int → Int → Heap → (Bool → Heap → Prop) → Prop) : Prop := ∀ {low most : Int} {h : Heap} {Q : Bool → Heap → Prop}, (CapE low most → Q true h) → (¬ CapE low most → Q false h) → c low most h Q
theorem rcapC_spec : CapC ref3_CapOK.M := fun hT hF => caps_spec hT hF
def JudgeC (c : Int → Int → Sl → Int → Sl → Heap → (Int → Heap → Prop) → Prop) : Prop := ∀ {low most thieves : Int} {td pk : Sl} {h : Heap} {todos : List DTd} {picks : List Int} {Q : Int → Heap → Prop}, Arr h KTd td todos → Arr h ki pk picks → Q (judgeE low most todos thieves picks) h → c low most td thieves pk h Q
theorem rbad_spec {c1} (i1 : CapC c1) : JudgeC (ref3_Bad.M c1) := by
  intro low most thieves td pk h todos picks Q ht hp hQ
  have htl := ht.1
  have hpl := hp.1
  have j7 : ∀ b : Bool, b = decide (4096 < todos.length ∨ 1048576 < picks.length) → ref3_Bad.j7 c1 low most td thieves Q (b, ()) h := by
    rintro b rfl
    refine dcase (fun e => ?_) (fun e => ?_)
    · unfold judgeE at hQ; rw [if_pos e] at hQ; exact hQ
    · refine i1 (fun q => ⟨fun z => (by cases z), fun _ => ?_⟩) (fun q => ⟨fun _ => ?_, fun z => (by cases z)⟩)
      · have j5 : ∀ b : Bool, b = decide (thieves < 0 ∨ 3 < thieves) → ref3_Bad.j5 td Q (b, ()) h := by
          rintro b rfl
          refine dcase (fun f => ?_) (fun f => ?_)
          · unfold judgeE at hQ; rw [if_neg e, if_neg (fun n => n q), if_pos f] at hQ; exact hQ
          · refine Loop.up todos.length (fun s => s.1) (fun i s k => k = h ∧ ∀ (j : Nat) t, j < i → todos[j]? = some t → t.1 = 0 ∨ t.1 = 1) rfl ⟨rfl, fun j t hj => absurd hj (Nat.not_lt_zero _)⟩ ?_
            rintro i ⟨i', u⟩ k go hi hc ⟨rfl, hI⟩ hgo
            dsimp only at hc; subst hc
            refine dcase (fun g => ?_) (fun g => ?_)
            · have g : (i : Int) < (td.len : Int) := g
              have hib : 0 ≤ (i : Int) ∧ (i : Int) < (td.len : Int) := ⟨by omega, g⟩
              obtain ⟨a, ha⟩ := ht.addr (by omega)
              have hx : todos[i]? = some todos[i] := by simp [show i < todos.length by omega]
              generalize todos[i] = t at hx
              have ldT : ∀ {K : Int → Prop}, K t.1 → (0 ≤ (i : Int) ∧ (i : Int) < (td.len : Int)) ∧ deref td.a fun a => ld ((.int .i64) : Kd) k ((a.add (((i : Nat) : Int).toNat * 2)).add 0) K := by
                intro K hK
                refine ⟨hib, ?_⟩
                rw [ha, Int.toNat_natCast]
                exact deref_some3 (ht.ldPart (kp := ki) (y := (t.1 : Int)) ha hx ⟨[], _, rfl, rfl⟩ rfl hK)
              have bad : ¬ (t.1 = 0 ∨ t.1 = 1) → Q 31 k := fun n => by
                unfold judgeE at hQ
                rw [if_neg e, if_neg (fun n => n q), if_neg f, if_pos ⟨t, List.mem_of_getElem? hx, not_or.1 n⟩] at hQ; exact hQ
              have good : t.1 = 0 ∨ t.1 = 1 → ref3_Bad.j2 Q go ((i : Int), u) (false, ()) k := fun n => ⟨fun z => (by cases z), fun _ => hgo (by omega) _ _ (by show w64 ((i : Int) + 1) = _; rw [w64_of] <;> omega) ⟨rfl, fun j t' hj hx' => by
                by_cases z : j = i
                · subst z; rw [hx] at hx'; cases hx'; exact n
                · exact hI j t' (by omega) hx'⟩⟩
              refine ⟨hib, (ldT (K := fun t21 => (((decide (t21 ≠ 0)) = true → (0 ≤ (i : Int) ∧ (i : Int) < (td.len : Int)) ∧ deref td.a fun a22 => ld ((.int .i64) : Kd) k ((a22.add (((i : Nat) : Int).toNat * 2)).add 0) fun t23 => ref3_Bad.j2 Q go ((i : Int), u) ((decide (t23 ≠ 1)), ()) k) ∧ ((decide (t21 ≠ 0)) = false → ref3_Bad.j2 Q go ((i : Int), u) (false, ()) k))) ?_).2⟩
              refine dcase (fun n => ldT ?_) (fun n => good (.inl (Decidable.not_not.1 n)))
              have n : t.1 ≠ 0 := n
              by_cases m : t.1 = 1
              · have : decide (t.1 ≠ 1) = false := decide_eq_false (fun q => q m)
                rw [this]
                exact good (.inr m)
              · have : decide (t.1 ≠ 1) = true := decide_eq_true m
                rw [this]
                exact ⟨fun _ => bad (fun q => q.elim n m), fun z => (by cases z)⟩
            · have g : ¬ (i : Int) < (td.len : Int) := g
              unfold judgeE at hQ
              rw [if_neg e, if_neg (fun n => n q), if_neg f, if_neg] at hQ
              · exact hQ
              · rintro ⟨t, ht', hn⟩
                obtain ⟨j, hj⟩ := List.mem_iff_getElem?.1 ht'
                exact (hI j t (by have := (List.getElem?_eq_some_iff.1 hj).1; omega) hj).elim hn.1 hn.2
        refine dcase (fun f => j5 _ ?_) (fun f => j5 _ ?_)
        · simp [f]
        · simp [f]
      · unfold judgeE at hQ; rw [if_neg e, if_pos q] at hQ; exact hQ
  refine dcase (fun f => j7 _ ?_) (fun f => j7 _ ?_)
  · have f : (4096 : Int) < (td.len : Int) := f
    rw [decide_eq_true]; exact .inl (by omega)
  · have f : ¬ (4096 : Int) < (td.len : Int) := f
    by_cases q : (1048576 : Int) < (pk.len : Int)
    · rw [decide_eq_true q, decide_eq_true]; exact .inr (by omega)
    · rw [decide_eq_false q, decide_eq_false]; omega
/-- The reference's New, on a new memory. -/
def RNew3C (c : Option Addr → Int → Int → Heap → ((Den KP2 × (Int × Unit)) → Heap → Prop) → Prop) : Prop := ∀ {h0 h : Heap} {b : Nat} {S : Nat → Prop} {low most : Int} {Q : (Den KP2 × (Int × Unit)) → Heap → Prop}, CapE low most → RMem h0 b ⟨1048576, [], [], 0, true⟩ S h →
  (∀ lg S' h', RMem h0 b ⟨1048576, laid low [], lg, 0, true⟩ S' h' → Step S S' h h' → Q ((0, (most, ())), (0, ())) h') → c (some (ptr b)) low most h Q
theorem rnew3_spec {c1 cd cs} (i1 : CapC c1) (iD : MDoC cd) (iS : WStoreC cs) : RNew3C (ref3_New.M c1 cd cs) := by
  intro h0 h b S low most Q hc R hQ
  obtain ⟨q1, q2, q3⟩ := hc
  refine i1 (fun _ => ⟨fun e => (by cases e), fun _ => ?_⟩) fun q => absurd ⟨q1, q2, q3⟩ q
  have w1 : w64 (4 + low) = 4 + low := by rw [w64_of] <;> omega
  rw [w1]
  have e1 : arenaI ⟨1048576, [], [], 0, true⟩ (.rs (4 + low)) = (some 0, ⟨1048576, List.replicate (4 + low).toNat 0, [(0, (4, (0, (4 + low, (0, (true, ()))))))], 0, true⟩) := by
    show (if 4 + low < 1 then _ else if (1048576 : Int) - 0 < 4 + low then _ else _) = _
    rw [if_neg (by omega), if_neg (by omega)]
    rfl
  refine iD (r := .rs (4 + low)) R (by decide) (by decide) (by decide) fun S1 h1 R1 s1 => ?_
  rw [e1] at R1
  rw [e1]
  refine ⟨fun e => (by cases e), fun _ => iS ?_⟩
  have hl : ((List.replicate (4 + low).toNat (0 : Int)).length : Int) = 4 + low := by rw [List.length_replicate]; omega
  have w2 : w64 ((0 : Int) + 2) = 2 := by rw [w64_of] <;> decide
  have w3 : w64 ((0 : Int) + 3) = 3 := by rw [w64_of] <;> decide
  show cd (some (ptr b)) (wSt (w64 ((0 : Int) + 2)) (w64 ((0 : Int) + 3))) h1 _
  rw [w2, w3]
  have e2 : arenaI ⟨1048576, List.replicate (4 + low).toNat 0, [(0, (4, (0, (4 + low, (0, (true, ()))))))], 0, true⟩ (.st 2 3) = (some 0, ⟨1048576, (List.replicate (4 + low).toNat 0).set 2 3, [(0, (4, (0, (4 + low, (0, (true, ()))))))] ++ [(0, (1, (2, (3, (0, (true, ()))))))], 0, true⟩) := if_pos ⟨by decide, by show (2 : Int) < ((List.replicate (4 + low).toNat (0 : Int)).length : Int); omega⟩
  refine iD (r := .st 2 3) R1 (by show (1 : Nat) ≤ 1000000000; decide) (by show ((List.replicate (4 + low).toNat (0 : Int)).length : Int) ≤ 1048576; omega) (by show (1048576 : Int) ≤ 1048576; decide) fun S2 h2 R2 s2 => ?_
  rw [e2] at R2
  refine iS ?_
  show cd (some (ptr b)) (wSt (w64 ((0 : Int) + 3)) low) h2 _
  rw [w3]
  have hl2 : (((List.replicate (4 + low).toNat (0 : Int)).set 2 3).length : Int) = 4 + low := by rw [List.length_set]; exact hl
  have e3 : arenaI ⟨1048576, (List.replicate (4 + low).toNat 0).set 2 3, [(0, (4, (0, (4 + low, (0, (true, ()))))))] ++ [(0, (1, (2, (3, (0, (true, ()))))))], 0, true⟩ (.st 3 low) = (some 0, ⟨1048576, ((List.replicate (4 + low).toNat 0).set 2 3).set 3 low, ([(0, (4, (0, (4 + low, (0, (true, ()))))))] ++ [(0, (1, (2, (3, (0, (true, ()))))))]) ++ [(0, (1, (3, (low, (0, (true, ()))))))], 0, true⟩) := if_pos ⟨by decide, by show (3 : Int) < (((List.replicate (4 + low).toNat (0 : Int)).set 2 3).length : Int); omega⟩
  refine iD (r := .st 3 low) R2 (by show (2 : Nat) ≤ 1000000000; decide) (by show (((List.replicate (4 + low).toNat (0 : Int)).set 2 3).length : Int) ≤ 1048576; omega) (by show (1048576 : Int) ≤ 1048576; decide) fun S3 h3 R3 s3 => ?_
  rw [e3] at R3
  exact hQ _ S3 h3 R3 ((s1.trans s2).trans s3)
/-- The reference's Rest. -/
def RRestC (c : Option Addr → Den KP2 → Heap → (Sl → Heap → Prop) → Prop) : Prop := ∀ {h0 h : Heap} {b : Nat} {S : Nat → Prop} {m : AS} {most : Int} {Q : Sl → Heap → Prop}, RMem h0 b m S h → RestOk m.cs → (∀ s h', New h h' ki s (ctn m.cs) → Q s h') → c (some (ptr b)) (0, (most, ())) h Q
theorem rrest_spec {ca} (iA : WAtC ca) : RRestC (ref3_Rest.M ca) := by
  rintro h0 h b S m most Q ⟨_, c, l, rfl, o⟩ hr hQ
  obtain ⟨t0, bn, a3, c1', ln, sz⟩ := hr
  have hsl := o.cell.len
  have rd : ∀ {k : Heap} {x : Int} {K : Int → Prop}, le h k → 0 ≤ x → x < (m.cs.length : Int) → K (gt m.cs x) → deref c.a fun a => ld ki k (a.add (x.toNat * 1)) K := fun {k x K} l x0 x1 hK => by
    refine (o.cell.arr.le l).at (i := x) x0 (by omega) rfl fun y hy => ?_
    rw [gt_get x0 x1] at hy; cases hy; exact hK
  have w2 : w64 ((0 : Int) + 2) = 2 := by rw [w64_of] <;> omega
  have w1 : w64 ((0 : Int) + 1) = 1 := by rw [w64_of] <;> omega
  have lr := le.refl h
  have cA0 : (0 : Int) ≤ cA m.cs := by omega
  have cAl : cA m.cs < (m.cs.length : Int) := by omega
  refine deref_some3 (o.ld0 ?_)
  show (0 ≤ w64 ((0 : Int) + 2) ∧ w64 ((0 : Int) + 2) < (c.len : Int)) ∧ _
  rw [w2]
  refine ⟨⟨by omega, by omega⟩, rd lr (by omega) (by omega) (deref_some3 (o.ld0 ⟨⟨cA0, (show cA m.cs < (c.len : Int) by omega)⟩, rd lr cA0 cAl (deref_some3 (o.ld0 ⟨⟨(show (0 : Int) ≤ 0 by decide), (show (0 : Int) < (c.len : Int) by omega)⟩, rd lr (show (0 : Int) ≤ 0 by decide) (show (0 : Int) < (m.cs.length : Int) by omega) ?_⟩))⟩))⟩
  refine Loop.up (gt m.cs 1 - gt m.cs 0).toNat (fun s => s.2.1 - gt m.cs 0) (fun i s k => New h k ki s.1 ((List.range i).map fun (k : Nat) => cE m.cs (gt m.cs 0 + (k : Int)))) (Int.sub_self _) (New.nil h ki) ?_
  rintro i ⟨acc, j, u⟩ k go hi hc na hgo
  dsimp only at hc na
  have lk := na.le
  have ok := o.more lk
  obtain rfl : j = gt m.cs 0 + (i : Int) := by omega
  refine deref_some3 (ok.ld0 ?_)
  show (0 ≤ w64 ((0 : Int) + 1) ∧ w64 ((0 : Int) + 1) < (c.len : Int)) ∧ deref c.a fun a => ld ki k (a.add ((w64 ((0 : Int) + 1)).toNat * 1)) _
  rw [w1]
  refine ⟨⟨by omega, by omega⟩, rd lk (by omega) (by omega) (dcase (fun e => ?_) (fun e => ?_))⟩
  · have e : gt m.cs 0 + (i : Int) < gt m.cs 1 := e
    have hpl : placeD (cA m.cs) (cC m.cs) (gt m.cs 0 + (i : Int)) = pl (cA m.cs) (cC m.cs) (gt m.cs 0 + (i : Int)) := placeD_pl (by omega) (by omega) c1' (by omega) (by omega)
    have hpr := pl_range (a := cA m.cs) (i := gt m.cs 0 + (i : Int)) c1'
    refine deref_some3 (ok.ld0 (iA (show cC m.cs ≠ 0 by omega) ⟨ld_sees3 (ok.ld0 rfl), ?_⟩))
    show (0 ≤ atR (cA m.cs) (cC m.cs) (gt m.cs 0 + (i : Int)) ∧ atR (cA m.cs) (cC m.cs) (gt m.cs 0 + (i : Int)) < (c.len : Int)) ∧ deref c.a fun a => ld ki k (a.add ((atR (cA m.cs) (cC m.cs) (gt m.cs 0 + (i : Int))).toNat * 1)) _
    rw [atR_place, hpl]
    have hacl := na.len
    rw [List.length_map, List.length_range] at hacl
    refine ⟨⟨by omega, by omega⟩, rd lk (by omega) (by omega) (na.app rfl rfl (by omega) fun t k2 n2 => ?_)⟩
    refine hgo (by omega) _ _ ?_ ?_
    · show w64 (gt m.cs 0 + (i : Int) + 1) - gt m.cs 0 = _
      rw [w64_of] <;> omega
    · dsimp only
      rw [range_map_snoc]; exact n2
  · have e : ¬ gt m.cs 0 + (i : Int) < gt m.cs 1 := e
    obtain rfl : i = (gt m.cs 1 - gt m.cs 0).toNat := by omega
    exact hQ acc k na
theorem modR_mod {x n : Int} (h0 : 0 < n) (h1 : n ≤ 1000000000) : modR x n = x % n := by
  have hr := mod_range (x := x) h0
  unfold modR
  have h2 : Int.tmod x n = x % n ∨ Int.tmod x n = x % n - n := by
    rcases tmod_emod x n h0 with ⟨_, q⟩ | ⟨_, q⟩
    · exact .inr (by omega)
    · exact .inl q
  rcases h2 with e | e
  · rw [e, if_neg (by omega)]
  · by_cases z : x % n - n < 0
    · rw [e, if_pos z, show x % n - n + n = x % n by omega, w64_of (by omega) (by omega)]
    · omega
theorem RG.addA {h0 h h1 h' : Heap} {g b : Nat} {most : Int} {td ac ac' ca : Sl} {tds : List DTd} {nx : Nat} {es : List (Den KRa)} {S : Nat → Prop} {N : Nat} {p : PS} (o : RG h0 h g b most td ac ca tds nx es S N p) {e' : Den KRa} {a' : DOp × Int} (n : New h0 h1 KRa ac' (es ++ [e'])) (x : Ext (blkOf ac) h h1) (nb : ∀ x, blkOf ac' x → blkOf ac x ∨ h x = none) (ob : Obj h' g KSt (stV b most td nx ac' ca)) (x2 : Ext (· = g) h1 h') (E : ElS h0 h most (fpS3 g ac ca S) N e' a') :
    RG h0 h' g b most td ac' ca tds nx (es ++ [e']) S N { p with acts := p.acts ++ [a'] } := by
  have f : ∀ x, x = g → h0 x = none := fun x hx => by subst hx; exact o.ng
  have st0 : Step (blkOf ac) (blkOf ac') h h1 := ⟨x, nb⟩
  have st : Step (fpS3 g ac ca S) (fpS3 g ac' ca S) h h' := ⟨(x.mono fun x q => .inr (.inr (.inl q))).trans (x2.mono fun x q => .inl q), fun x q => by
    rcases q with q | q | q | q
    · exact .inl (.inl q)
    · exact .inl (.inr (.inl q))
    · rcases nb x q with r | r
      · exact .inl (.inr (.inr (.inl r)))
      · exact .inr r
    · exact .inl (.inr (.inr (.inr q)))⟩
  have g2' : ¬ blkOf ac' g := st0.off (T := (· = g)) (fun x e q => by subst e; exact o.g2 q) (fun x e => by subst e; exact o.obj.live) g rfl
  have s1' : ∀ x, blkOf ac' x → ¬ S x := fun x q r => st0.off (T := S) (fun x q r => o.s1 x r q) (fun x q => o.mem.live q) x r q
  have s3' : Apart ac' ca := fun x r q => st0.off (T := blkOf ca) (fun x q r => o.s3 x r q) (fun x q => o.calls.own.live x q) x q r
  refine ⟨ob, (o.mem.ext x (fun x q r => o.s1 x r q) o.acts.new).ext x2 (fun x q r => by subst r; exact o.g1 q) f, o.tda, o.nxl, o.tdp, n.ext x2 (fun x q r => by subst r; exact g2' q) f, ?_, fun i e q => ?_, (o.calls.ext x (fun x q r => o.s3 x r q) o.acts.new).ext x2 (fun x q r => by subst r; exact o.g3 q) f, o.ng, o.g1, g2', o.g3, s1', o.s2, s3'⟩
  · rw [List.length_append]
    show es.length + [e'].length = (p.acts ++ [a']).length
    rw [List.length_append, o.elen]; rfl
  · by_cases c : i < es.length
    · rw [List.getElem?_append_left c] at q
      have := (o.el i e q).step st
      have ha : ({ p with acts := p.acts ++ [a'] } : PS).act i = p.act i := by
        unfold PS.act
        rw [List.getElem?_append_left (by rw [← o.elen]; exact c)]
      rw [ha]; exact this
    · have hi := (List.getElem?_eq_some_iff.1 q).1
      rw [List.length_append, List.length_singleton] at hi
      obtain rfl : i = es.length := by omega
      rw [List.getElem?_append_right (Nat.le_refl _), Nat.sub_self] at q
      cases q
      have ha : ({ p with acts := p.acts ++ [a'] } : PS).act es.length = a' := by
        unfold PS.act
        rw [o.elen, List.getElem?_append_right (Nat.le_refl _), Nat.sub_self]; rfl
      rw [ha]; exact E.step st
def Play3C (c : Int → Int → Sl → Int → Sl → Heap → ((Den KRu × (Int × Unit)) → Heap → Prop) → Prop) : Prop := ∀ {low most thieves : Int} {td pk : Sl} {h : Heap} {todos : List DTd} {picks : List Int} {Q : (Den KRu × (Int × Unit)) → Heap → Prop}, Arr h KTd td todos → Arr h ki pk picks → (judgeE low most todos thieves picks ≠ 0 → Q ((Sl.none, (Sl.none, (Sl.none, ()))), (judgeE low most todos thieves picks, ())) h) →
  (judgeE low most todos thieves picks = 0 → ∀ ca re lg h', PlayR h h' (playOf low most todos thieves picks) ca re lg → Q ((ca, (re, (lg, ()))), (0, ())) h') → c low most td thieves pk h Q
theorem rplay3_spec {cB cN cM cP cR} (iB : JudgeC cB) (iN : RNew3C cN) (iM : WModC cM) (iP : RPickC cP) (iR : RRestC cR) : Play3C (ref3_Play.M cB cN cM cP cR) := by
  intro low most thieves td pk h todos picks Q ht hp hE hQ
  refine iB ht hp (dcase (fun e => hE e) (fun e => ?_))
  have e : judgeE low most todos thieves picks = 0 := Decidable.not_not.1 e
  have hQ := hQ e
  have hj : ¬ (4096 < todos.length ∨ 1048576 < picks.length) ∧ CapE low most ∧ ¬ (thieves < 0 ∨ 3 < thieves) ∧ ∀ t ∈ todos, (t.1 : Int) = 0 ∨ (t.1 : Int) = 1 := by
    unfold judgeE at e
    by_cases a : 4096 < todos.length ∨ 1048576 < picks.length
    · rw [if_pos a] at e; cases e
    · by_cases b : CapE low most
      · by_cases c : thieves < 0 ∨ 3 < thieves
        · rw [if_neg a, if_neg (fun n => n b), if_pos c] at e; cases e
        · by_cases d : ∃ t ∈ todos, t.1 ≠ 0 ∧ t.1 ≠ 1
          · rw [if_neg a, if_neg (fun n => n b), if_neg c, if_pos d] at e; cases e
          · refine ⟨a, b, c, fun t m => ?_⟩
            by_cases z : (t.1 : Int) = 0
            · exact .inl z
            · exact .inr (Decidable.byContradiction fun w => d ⟨t, m, z, w⟩)
      · rw [if_neg a, if_pos b] at e; cases e
  obtain ⟨j1, j2, j3, j4⟩ := hj
  have hpl := hp.1
  have wt : w64 (1 + thieves) = 1 + thieves := by rw [w64_of] <;> omega
  refine (@Obj.new h KMem (Sl.none, (1048576, (0, (Sl.none, ())))) _) fun b h1 hb ob lb => ?_
  have M1 : RMem h b ⟨1048576, [], [], 0, true⟩ (fpA b Sl.none Sl.none) h1 := ⟨rfl, Sl.none, Sl.none, rfl, ob, New.none lb ki, New.none lb KAcc, hb, no_blk3, no_blk3, fun x q => (no_blk3 q).elim⟩
  refine iN j2 M1 fun lg S2 h2 M2 s2 => ?_
  obtain ⟨_, c, l, rfl, o2⟩ := M2
  refine o2.obj.st (k := KMem) (kf := .sl) (off := 3) (v := ⟨none, 0, 0⟩) (x' := (c, ((1048576 : Int), ((0 : Int), (⟨none, 0, 0⟩, ()))))) rfl (by decide) rfl fun h3 ob3 x3 => ?_
  have fb : ∀ x, x = b → h x = none := fun x e => by subst e; exact hb
  have le3 : le h h3 := le_ext o2.le x3 fb
  have M3 : RMem h b ⟨1048576, laid low [], [], 0, true⟩ (fpA b c ⟨none, 0, 0⟩) h3 := ⟨rfl, c, _, rfl, ob3, o2.cell.ext x3 (fun x p q => by subst q; exact o2.b1 p) fb, New.none le3 KAcc, hb, o2.b1, no_blk3, fun x p q => (no_blk3 q).elim⟩
  refine (@Obj.new h3 KSt (stV b most td 0 Sl.none Sl.none) _) fun g h4 hg og lg4 => ?_
  have M4 := M3.ext (T := fun _ => False) lg4.toExt (fun _ _ => id) (fun _ q => q.elim)
  have le4 : le h h4 := le3.trans lg4
  have g0 : RG h h4 g b most td Sl.none Sl.none todos 0 [] (fpA b c ⟨none, 0, 0⟩) 0 { m := { sz := cellsOf low most, cs := laid low [], lg := [], who := 0, wt := true }, todos := todos, acts := [], calls := [] } :=
    ⟨og, M4, ht, Nat.zero_le _, rfl, New.none le4 KRa, rfl, fun i e q => (by cases q), New.none le4 KCl, le3.none hg, fun q => M3.live q hg, no_blk3, no_blk3, fun x q => (no_blk3 q).elim, fun x q => (no_blk3 q).elim, fun x q => (no_blk3 q).elim⟩
  have htn : (1 + thieves).toNat ≤ 4 := by omega
  refine Loop.up (1 + thieves).toNat (fun s => s.1) (fun i _ k => ∃ ac es, RG h k g b most td ac Sl.none todos 0 es (fpA b c ⟨none, 0, 0⟩) 0 { m := { sz := cellsOf low most, cs := laid low [], lg := [], who := 0, wt := true }, todos := todos, acts := List.replicate i (DOp.zero, -1), calls := [] }) rfl ⟨Sl.none, [], g0⟩ ?_
  rintro i ⟨i', u⟩ k go hi hc ⟨ac, es, gi⟩ hgo
  dsimp only at hc; subst hc
  have hel := gi.elen
  rw [show ({ m := { sz := cellsOf low most, cs := laid low [], lg := [], who := 0, wt := true }, todos := todos, acts := List.replicate i (DOp.zero, (-1 : Int)), calls := [] } : PS).acts = List.replicate i (DOp.zero, (-1 : Int)) from rfl, List.length_replicate] at hel
  refine dcase (fun f => ?_) (fun f => ?_)
  · have f : (i : Int) ≤ thieves := f
    have hal := gi.acts.len
    refine gi.ld5 (gi.acts.app3 rfl rfl (by omega) fun t h5 n5 x5 b5 => ?_)
    have ob5 := gi.obj.ext x5 gi.g2
    refine ob5.st (k := KSt) (kf := .sl) (off := 5) (v := t) (x' := stV b most td 0 t Sl.none) rfl (by decide) rfl fun h6 ob6 x6 => ?_
    have g6 := gi.addA (a' := (DOp.zero, -1)) n5 x5 b5 ob6 x6 ⟨0, 0, 0, 0, Sl.none, false, [], rfl, fun q => absurd q (by show ¬ (0 : Int) ≤ -1; decide), (New.none (le.refl k) ki).arr, fun x q => (no_blk3 q).elim, Nat.le_refl _⟩
    refine hgo (by omega) _ _ (by show w64 ((i : Int) + 1) = _; rw [w64_of] <;> omega) ⟨t, es ++ [((-1 : Int), (((0 : Int), (((0 : Int), ((0 : Int), ())), ((0 : Int), (Sl.none, (false, ()))))), ()))], ?_⟩
    rw [List.replicate_succ']
    exact g6
  · have f : ¬ (i : Int) ≤ thieves := f
    obtain rfl : i = (1 + thieves).toNat := by omega
    have gk : RG h k g b most td ac Sl.none todos 0 es (fpA b c ⟨none, 0, 0⟩) 0 (ps0 low most todos thieves) := gi
    have ok0 := ps0_ok (todos := todos) (thieves := thieves) j2 (by omega)
    have pi0 := ps0_pi (todos := todos) (thieves := thieves) j2 (by omega)
    have hac0 : (ps0 low most todos thieves).acts.length = (1 + thieves).toNat := List.length_replicate
    have hws : ∀ w ∈ whos thieves picks, w < (ps0 low most todos thieves).acts.length := fun w hw => by rw [hac0]; exact whos_mem (by omega) hw
    have hwl : (whos thieves picks).length = picks.length := List.length_map ..
    refine Loop.up picks.length (fun s => s.1) (fun i s k => ∃ ca nx es S, RG h k g b most td ac ca todos nx es S i ((ps0 low most todos thieves).run most 0 ((whos thieves picks).take i))) rfl ⟨_, 0, es, _, gk⟩ ?_
    rintro i ⟨i', u⟩ k go hi hc ⟨ca', nx', es', S', gi⟩ hgo
    dsimp only at hc; subst hc
    have hws' : ∀ w ∈ (whos thieves picks).take i, w < (ps0 low most todos thieves).acts.length := fun w hw => hws w (List.mem_of_mem_take hw)
    obtain ⟨oki, hli⟩ := run_ok (most := most) ((whos thieves picks).take i) (n := 0) ok0 hws'
    have htk : ((whos thieves picks).take i).length = i := by rw [List.length_take]; omega
    rw [htk] at oki
    have pii := pi0.runs ((whos thieves picks).take i) (n := 0) (by rw [htk]; omega) hws'
    rw [htk] at pii
    refine dcase (fun f => ?_) (fun f => ?_)
    · have f : (i : Int) < (pk.len : Int) := f
      refine ⟨⟨by omega, f⟩, (hp.le gi.le).at (by omega) f rfl fun x hx => ?_⟩
      rw [Int.toNat_natCast] at hx
      rw [wt]
      have hr := mod_range (x := x) (n := 1 + thieves) (by omega)
      refine iM (by omega) ?_
      have hwx : (whos thieves picks)[i]? = some (x % (1 + thieves)).toNat := by unfold whos; rw [List.getElem?_map, hx]; rfl
      have hmr : modR x (1 + thieves) = (((x % (1 + thieves)).toNat : Nat) : Int) := by rw [modR_mod (by omega) (by omega)]; exact (Int.toNat_of_nonneg hr.1).symm
      show cP (some (ptr g)) (modR x (1 + thieves)) (i : Int) k _
      rw [hmr]
      refine iP (NI := (0 : Int) + (i : Int)) gi oki (by omega) (by omega) (by rw [hli]; exact hws _ (List.mem_of_getElem? hwx)) pii (by omega) j4 (by omega) fun ca2 nx2 es2 S2 k2 g2 => ?_
      refine hgo (by omega) _ _ (by show w64 ((i : Int) + 1) = _; rw [w64_of] <;> omega) ⟨ca2, nx2, es2, S2, ?_⟩
      have hws1 : (whos thieves picks).take (i + 1) = (whos thieves picks).take i ++ [(x % (1 + thieves)).toNat] := by
        rw [List.take_add_one, hwx]; rfl
      rw [hws1, PS.run_snoc, htk, Nat.zero_add]
      exact g2
    · have f : ¬ (i : Int) < (pk.len : Int) := f
      obtain rfl : i = picks.length := by omega
      have hall : (whos thieves picks).take picks.length = whos thieves picks := by rw [← hwl, List.take_length]
      rw [hall] at gi oki hli pii
      have hro := pii.restOk (by omega)
      refine iR (most := most) gi.mem hro fun re h6 n6 => ?_
      have og6 := gi.obj.le n6.le
      have M6 := gi.mem.ext (T := fun _ => False) n6.le.toExt (fun _ _ => id) (fun _ q => q.elim)
      have liveg : ∀ x, blkOf re x → x ≠ g := fun x q e => by subst e; exact gi.obj.live (n6.new x q)
      have fg : ∀ x, x = g → h x = none := fun x e => by subst e; exact gi.ng
      rw [add_add']
      refine og6.st (k := KSt) (kf := .sl) (off := 7) (v := re) (x' := (some (ptr b), ((0, (most, ())), (td, ((nx' : Int), (ac, ((ca', (re, (Sl.none, ()))), ()))))))) rfl (by decide) rfl fun h7 og7 x7 => ?_
      have M7 := M6.ext x7 (fun x q r => by subst r; exact gi.g1 q) fg
      obtain ⟨_, cc, lgs, hS, o7⟩ := M7
      refine o7.ld3 ?_
      rw [add_add']
      refine og7.st (k := KSt) (kf := .sl) (off := 8) (v := lgs) (x' := (some (ptr b), ((0, (most, ())), (td, ((nx' : Int), (ac, ((ca', (re, (lgs, ()))), ()))))))) rfl (by decide) rfl fun h8 og8 x8 => ?_
      refine og8.ld (k := KSt) (kf := KRu) (y := (ca', (re, (lgs, ())))) (off := 6) ⟨[_, _, _, _, _, _], [], rfl, rfl⟩ ?_
      have nla : ∀ x, blkOf lgs x → S' x := fun x q => by rw [hS]; exact .inr (.inr q)
      have xg : Ext (· = g) h6 h8 := x7.trans x8
      refine hQ ca' re lgs h8 ⟨(gi.calls.more n6.le).ext xg (fun x q r => by subst r; exact gi.g3 q) fg, (n6.base gi.le).ext xg (fun x q r => liveg x q r) fg, o7.log.ext x8 (fun x q r => by subst r; exact gi.g1 (nla _ q)) fg, ?_, ?_, ?_⟩
      · exact fun x q r => gi.calls.own.live x q (n6.new x r)
      · exact fun x q r => gi.s2 x q (nla x r)
      · exact fun x q r => gi.mem.live (nla x r) (n6.new x q)
end Go.Mx
