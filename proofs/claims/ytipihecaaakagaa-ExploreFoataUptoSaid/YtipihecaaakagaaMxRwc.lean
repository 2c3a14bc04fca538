/-
  What is proved: plunderlaw22.ExploreFoata returns true and leaves its arguments as they were, for every input. Condition: what it reads is of bulk at most 1048576.
-/
import Derived.Test.YtipihecaaakagaaMxKh
import Derived.Test.YtipihecaaakagaaMxEe
import Derived.Test.YtipihecaaakagaaMxV
import Derived.Test.YtipihecaaakagaaMb
import Derived.WalkKit
import Derived.ProofKit
import Derived.JoinedCond
namespace Go.Proofs.Ytipihecaaakagaa.exploreFoata
open Go.ChangeShapes Go.WideShapes Go.ChangeAt Go.RowKit Go.Mx
set_option linter.unusedVariables false
set_option linter.unusedSimpArgs false
set_option maxRecDepth 100000

theorem own : ownKnob Try.prog.godebug = none := by kernel_rfl

theorem contains {s : Sl} {ls : List Int} {h : Heap} {Q : Bool → Heap → Prop} (ha : Arr h ki s ls) (hn : ls.length ≤ 1048576) (hQ : ∀ b : Bool, (b = true ↔ ∃ x ∈ ls, 0 < x) → Q b h) :
    CallT Try.prog 84 [Kd.val .sl s, Kd.val .fn (Value.func (.func 85) #[] #[])] false .bool h Q :=
  slices_ContainsFunc_int_int.br (contains_spec ha hn (f := Value.func (.func 85) #[] #[]) (cf := fun x0 x1 h K => FnT Try.prog x0 [Kd.val (.int .i64) x1] false .bool h K) (fun hq => FnT.of (f := 85) (by kernel_rfl) (explore_isScript_1.br hq)) slices_IndexFunc_int_int.br hQ)
theorem isScript {s : Sc} {t : Sl} {h : Heap} {bs ps : List Int} {xss : List (List Ac)} (r : ScR h s bs xss) (hs : Small bs xss) (hp : Arr h ki t ps) (hn : ps.length ≤ 1048576) {Q : Bool → Heap → Prop} (hQ : ∀ b h', (b = true ↔ ScriptP (xss.map List.length) ps) → le h h' → Q b h') :
    CallT Try.prog 57 [Kd.val kapiScene s, Kd.val .sl t] false .bool h Q := explore_isScript.br (isScript_spec r hs hp hn contains hQ)
theorem ready {s : Sc} {t : Sl} {h : Heap} {bs ps : List Int} {xss : List (List Ac)} (r : ScR h s bs xss) (hs : Small bs xss) (hp : Arr h ki t ps) (hn : ps.length ≤ 1048576) {Q : Int → Heap → Prop} (hQ : ∀ e h', Rdy s.1 bs.length xss ps e → le h h' → Q e h') :
    CallT Try.prog 41 [Kd.val kapiScene s, Kd.val .sl t] false ki h Q :=
  explore_ready.br (ready_spec r hs hp hn (fun q => explore_Check.br (check_spec r hs q)) (isScript r hs hp hn) hQ)
theorem depends {s : Sc} {x y : Ac} {h : Heap} {Q : Bool → Heap → Prop} (hQ : ∀ b : Bool, (b = true ↔ DepI s.1 (s.2.1.len : Int) x.2.1 x.2.2.1 x.2.2.2.1 y.2.1 y.2.2.1 y.2.2.2.1) → Q b h) : CallT Try.prog 37 [Kd.val kapiScene s, Kd.val kapiAct x, Kd.val kapiAct y] false .bool h Q :=
  explore_Depends.br (depends_spec explore_gives.br explore_touches.br hQ)
theorem rdepends {s : Sc} {x y : Ac} {h : Heap} {Q : Bool → Heap → Prop} (hQ : ∀ b : Bool, (b = true ↔ DepI s.1 (s.2.1.len : Int) x.2.1 x.2.2.1 x.2.2.2.1 y.2.1 y.2.2.1 y.2.2.2.1) → Q b h) : CallT Try.prog 72 [Kd.val kapiScene s, Kd.val kapiAct x, Kd.val kapiAct y] false .bool h Q :=
  ref22_Depends.br (rdepends_spec ref22_cell.br ref22_makes.br hQ)
theorem sort {sl : Sl} {h0 h : Heap} {ys : List Int} {Q : Unit → Heap → Prop} (n : New h0 h ki sl ys) (hl : ys.length ≤ 12) (hQ : ∀ zs h', New h0 h' ki sl zs → zs.Perm ys → zs.Pairwise (· ≤ ·) → Ext (blkOf sl) h h' → Q () h') :
    CallT Try.prog 70 [Kd.val .sl sl] true .nil h Q :=
  slices_Sort_int_int.br (sort_spec n hl (fun a b q => math_bits_Len.br (math_bits_Len64.br (len64_spec a b q)))
    (fun {n h ys Q} o hl2 q => slices_pdqsortOrdered_int.br (pdq_spec (by rw [← o.len]; exact hl2) (slices_insertionSortOrdered_int.br (insert_spec o (by omega) (fun q2 => cmp_Less_int.br (less_spec cmp_isNaN_int.br q2)) q)))) hQ)
theorem stepsJ {h : Heap} {s : Sc} {t : Sl} {bs ps : List Int} {xss : List (List Ac)} (r : ScR h s bs xss) (hp : Arr h ki t ps) (hn : ps.length ≤ 1048576) (hc : chkE s.1 bs.length xss = 0) (hS : ScriptP (xss.map List.length) ps) {Q : Sl → Heap → Prop} (hQ : ∀ l h', New h h' kexploredone l ((foaS s.1 bs.length xss ps).map toDone) → Q l h') :
    CallT Try.prog 64 [Kd.val kapiScene s, Kd.val .sl t] false .sl h Q :=
  explore_steps.br (steps_spec' r hp hn hc hS depends (by rw [r.beg]; exact hQ))
theorem formJ {s : Sc} {t : Sl} {h k : Heap} {bs ps : List Int} {xss : List (List Ac)} (r : ScR h s bs xss) (hp : Arr h ki t ps) (hn : ps.length ≤ 1048576) {Q : Sl → Heap → Prop} (l : le h k) (hc : chkE s.1 bs.length xss = 0) (hS : ScriptP (xss.map List.length) ps) (f1 : (foaS s.1 bs.length xss ps).length ≤ 12) (f2 : ∀ c ∈ foaS s.1 bs.length xss ps, c.2 < 12)
    (hQ : ∀ o els (zss : List (List Int)) h', Nest k h' ki o els zss → zss.length = (formR (foaS s.1 bs.length xss ps)).length → (∀ (i : Nat) (z : List Int), zss[i]? = some z → z.Perm (((formR (foaS s.1 bs.length xss ps))[i]?).getD []) ∧ z.Pairwise (· ≤ ·)) → Q o h') :
    CallT Try.prog 42 [Kd.val kapiScene s, Kd.val .sl t] false .sl k Q :=
  explore_form.br (form_spec f1 f2 (stepsJ (r.le l) (hp.le l) hn hc hS) sort hQ)
theorem rbad {s : Sc} {t : Sl} {h : Heap} {bs ps : List Int} {xss : List (List Ac)} (r : ScR h s bs xss) (hs : Small bs xss) (hp : Arr h ki t ps) (hn : ps.length ≤ 1048576) {Q : Int → Heap → Prop} (hQ : ∀ e, Rdy s.1 bs.length xss ps e → Q e h) :
    CallT Try.prog 44 [Kd.val kapiScene s, Kd.val .sl t] false ki h Q :=
  ref22_Bad.br (bad_spec (fun q2 => ref22_Check.br (rcheck_spec r hs ref22_acts.br q2)) (fun hc q2 => ref22_Script.br (rscript_spec r hs hc hp hn (fun q3 => ref22_acts.br (acts_spec r hs q3)) q2)) hQ)
theorem rrow {s : Sc} {t : Sl} {h : Heap} {bs ps : List Int} {xss : List (List Ac)} (r : ScR h s bs xss) (hp : Arr h ki t ps) (hn : ps.length ≤ 1048576) {Q : Sl → Heap → Prop} (hc : chkE s.1 bs.length xss = 0) (hS : ScriptP (xss.map List.length) ps) (hQ : ∀ l h', New h h' kref22Act l (rowP xss ps ps.length) → Q l h') :
    CallT Try.prog 45 [Kd.val kapiScene s, Kd.val .sl t] false .sl h Q := ref22_Row.br (row_spec r hp hn hc hS hQ)
theorem foata {s : Sc} {t : Sl} {h : Heap} {bs ps : List Int} {xss : List (List Ac)} {Q : (Sl × (Int × Unit)) → Heap → Prop} (r : ScR h s bs xss) (hs : Small bs xss) (hp : Arr h ki t ps) (hn : ps.length ≤ 1048576) (hQ : ∀ o e h', Rdy s.1 bs.length xss ps e → FoR h h' o (foataP s.1 bs.length xss ps e) → Q (o, (e, ())) h') :
    CallT Try.prog 13 [Kd.val kapiScene s, Kd.val .sl t] true (.pair .sl (.pair (.int .i64) .nil)) h Q :=
  explore_Foata.br (foata_spec r hs (ready r hs hp hn) (formJ r hp hn) hQ)
theorem rfoata {s : Sc} {t : Sl} {h : Heap} {bs ps : List Int} {xss : List (List Ac)} {Q : (Sl × (Int × Unit)) → Heap → Prop} (r : ScR h s bs xss) (hs : Small bs xss) (hp : Arr h ki t ps) (hn : ps.length ≤ 1048576) (hQ : ∀ o e h', Rdy s.1 bs.length xss ps e → FoR h h' o (foataP s.1 bs.length xss ps e) → Q (o, (e, ())) h') :
    CallT Try.prog 17 [Kd.val kapiScene s, Kd.val .sl t] true (.pair .sl (.pair (.int .i64) .nil)) h Q :=
  ref22_Foata.br (rfoata_spec r hs (rbad r hs hp hn) (rrow r hp hn) (fun q => ref22_bound.br (rbound_spec rdepends q)) hQ)
theorem call (s : Sc) (t : Sl) (W : World) (bs ps : List Int) (xss : List (List Ac)) (r : ScR (view W) s bs xss) (hs : Small bs xss) (hp : Arr (view W) ki t ps) (hn : ps.length ≤ 1048576) :
    CallT Try.prog 3 [Kd.val kapiScene s, Kd.val .sl t] false .bool (view W) fun b h' => b = true ∧ le (view W) h' :=
  law22_ExploreFoata.br (exploreFoata_spec r hs hp hn (fun h' l => ⟨rfl, l⟩) law22_copied.br law22_moved.br law22_turned.br foata law22_back.br law22_written.br (fun a b c q => law22_spoilt.br (spoilt_spec a b c law22_longer.br q)) rfoata
    (fun a b c d q => law22_sameLists.br (sameLists_spec a b c d law22_same.br q)) (fun a b c d e => law22_alike.br (alike_spec a b c d law22_marked.br law22_sameCells.br e)) (fun a b c q => law22_kept.br (kept_spec a b c law22_same.br q)) (fun a b c q => law22_apart.br (apart_spec a b c law22_longer.br q)))

theorem contract (H : Type) (enc : TypeId × Value → H) (W : World) (base : Nat) (args : Array Value) (ds gs : List (DataW H)) (before : List MemPlace)
    (hval : ∀ (j : Nat) t v, Try.f3.params[j]? = some t → args[j]? = some v → Value.okWide Try.prog W .any base t v)
    (hW : DataW.Whole enc Try.prog Try.f3.params.toList Rows.exploreFoataSpec.vars false W args.toList ds gs before) (hk : Rows.uptoSmall H (ds ++ gs) = true) :
    Calls Try.prog 3 args W fun e W' => ∃ v, e = .returned v ∧ Rows.exploreFoataSpec.post enc Try.prog Try.f3 false true false false W args v W' := by
  have hW' := hW
  obtain ⟨p, q, hA, hV, rfl, hfz, hnd⟩ := hW
  obtain ⟨rfl, rfl⟩ := trodVars_none hV
  rw [List.append_nil] at hk
  have hB : Rows.uptoBulkAll ds ≤ 1048576 := of_decide_eq_true hk
  obtain ⟨es, e1, e2, e3⟩ := args_of (P := Try.prog) (base := base) (m := 6) (B := 1048576) (ts := Try.f3.params.toList) (ks := [kapiScene, .sl]) (by kernel_rfl) (fun j t v a b => hval j t v (by simpa using a) (by simpa using b)) hA hB
  rcases es with _ | ⟨⟨k1, x1⟩, _ | ⟨⟨k2, x2⟩, _ | ⟨_, _⟩⟩⟩
  · cases e1
  · cases e1
  · simp only [List.map_cons, List.map_nil, List.cons.injEq, and_true] at e1
    obtain ⟨rfl, rfl⟩ := e1
    rw [Try.params3] at e3 hA
    obtain ⟨f1, f2, _⟩ := e3
    obtain ⟨bs, xss, g1, g2⟩ := DataOf.scene (m := 3) f1 (by kernel_rfl) (by kernel_rfl) (by kernel_rfl) (by kernel_rfl)
    obtain ⟨ps, g3, g4, _⟩ := f2.arr (ke := ki) (by kernel_rfl)
    obtain ⟨v0, vs0, d0, ds0, p0, q0, _, rfl, _, _, r0⟩ := trodAll_cons hA
    obtain ⟨v1, vs1, d1, ds1, p1, q1, _, rfl, _, _, r1⟩ := trodAll_cons r0
    obtain ⟨_, rfl, _⟩ := trodAll_nil r1
    refine law_post (bT := Try.f3.resultTypes.getD 0 0) (by kernel_rfl) (by kernel_rfl) (by kernel_rfl) rfl (by kernel_rfl) hW' (fun _ => ⟨rfl, rfl, rfl⟩) ?_
    rw [e2]
    exact call x1 x2 W bs ps xss g1 g2 g3 (by rw [g3.1]; exact g4)
  · cases e1

theorem lifted (os : Os) (started : os.Started) (H : Type) (enc : TypeId × Value → H) (F : Stop.Interp) :
    ReturnsInHanded {} Try.checked os 3 .any ((Rows.OpenSpec.upto Rows.exploreFoataSpec).pre6 enc Try.prog Try.f3 Rows.exploreFoataUptoRow.domain false) (((Rows.OpenSpec.upto Rows.exploreFoataSpec).at F).post enc Try.prog Try.f3 false true false false) := by
  refine returnsInHanded_of_cond (C := Try.checked) (s := Rows.OpenSpec.upto Rows.exploreFoataSpec) (k := Rows.uptoSmall) rfl own started (by kernel_rfl) Try.func3
    (OpenSpec.witness (enc := enc) (C := Try.checked) (s := Rows.OpenSpec.upto Rows.exploreFoataSpec) (k := Rows.uptoSmall) rfl false ⟨#[], #[.agg #[.int .i64 0, .slice none 0 0, .slice none 0 0], .slice none 0 0], []⟩ 8 (by kernel_rfl) (by kernel_rfl) (by kernel_rfl)
      (x := ([.agg [.lit (.int .i64 0), .nil, .nil], .nil], [], [])) (by kernel_rfl) rfl (by kernel_rfl)) ?_
  intro W base args ds gs before hval hW _ hk _
  exact contract H enc W base args ds gs before hval hW hk

theorem over : Rows.exploreFoataUptoRow.holds Try.pinned (Rows.OpenSpec.upto Rows.exploreFoataSpec) :=
  OpenClaim.holds_of_cond 3 Try.f3 rfl rfl rfl rfl rfl rfl rfl ⟨rfl, rfl, rfl, rfl, rfl⟩ rfl rfl rfl rfl rfl (by kernel_rfl) Try.func3 (by kernel_rfl)
    (of_decide_eq_true (by kernel_rfl)) (by unfold Func.isWrapper; first | (rw [if_pos (by decide +kernel)]; kernel_rfl) | (rw [if_neg (by decide +kernel)]; exact ⟨rfl, rfl⟩))
    (fun os started H enc _ F => lifted os started H enc F)

theorem proved : Rows.ExploreFoataUptoSaid :=
  over
end Go.Proofs.Ytipihecaaakagaa.exploreFoata
