/-
  What is proved: plunderlaw22.ExploreAlike returns true and leaves its arguments as they were, for every input. Condition: what it reads is of bulk at most 1048576.
-/
import Derived.Test.YtipihecaaakagaaMxKj
import Derived.Test.YtipihecaaakagaaMxEe
import Derived.Test.YtipihecaaakagaaMxV
import Derived.Test.YtipihecaaakagaaMb
import Derived.WalkKit
import Derived.ProofKit
import Derived.JoinedCond
namespace Go.Proofs.Ytipihecaaakagaa.exploreAlike
open Go.ChangeShapes Go.WideShapes Go.ChangeAt Go.RowKit Go.Mx
set_option linter.unusedVariables false
set_option linter.unusedSimpArgs false
set_option maxRecDepth 100000

theorem own : ownKnob Try.prog.godebug = none := by kernel_rfl

theorem contains {s : Sl} {ls : List Int} {h : Heap} {Q : Bool → Heap → Prop} (ha : Arr h ki s ls) (hn : ls.length ≤ 1048576) (hQ : ∀ b : Bool, (b = true ↔ ∃ x ∈ ls, 0 < x) → Q b h) :
    CallT Try.prog 84 [Kd.val .sl s, Kd.val .fn (Value.func (.func 85) #[] #[])] false .bool h Q :=
  slices_ContainsFunc_int_int.br (contains_spec ha hn (f := Value.func (.func 85) #[] #[]) (cf := fun x0 x1 h K => FnT Try.prog x0 [Kd.val (.int .i64) x1] false .bool h K) (fun hq => FnT.of (f := 85) (by kernel_rfl) (explore_isScript_1.br hq)) slices_IndexFunc_int_int.br hQ)
theorem isScript {s : Sc} {t : Sl} {h : Heap} {bs ps : List Int} {xss : List (List Ac)} (r : ScR h s bs xss) (hs : Small bs xss) (hp : Arr h ki t ps) (hn : ps.length ≤ 1048576) {Q : Bool → Heap → Prop} (hQ : ∀ b h', (b = true ↔ ScriptP (xss.map List.length) ps) → le h h' → Q b h') :
    CallT Try.prog 57 [Kd.val kapiScene s, Kd.val .sl t] false .bool h Q := explore_isScript.br (isScript_spec r hs hp hn contains hQ)
theorem ready {s : Sc} {t : Sl} {h : Heap} {bs ps : List Int} {xss : List (List Ac)} (r : ScR h s bs xss) (hs : Small bs xss) (hp : Arr h ki t ps) (hn : ps.length ≤ 1048576) {Q : Int → Heap → Prop} (hQ : ∀ e h', Rdy s.1 bs.length xss ps e → le h h' → Q e h') :
    CallT Try.prog 41 [Kd.val kapiScene s, Kd.val .sl t] false ki h Q :=
  explore_ready.br (ready_spec r hs hp hn (fun q => explore_Check.br (check_spec r hs q)) (isScript r hs hp hn) hQ)
theorem depends {s : Sc} {x y : Ac} {h : Heap} {Q : Bool → Heap → Prop} (hQ : ∀ b : Bool, (b = true ↔ DepI s.1 (s.2.1.len : Int) x.2.1 x.2.2.1 x.2.2.2.1 y.2.1 y.2.2.1 y.2.2.2.1) → Q b h) : CallT Try.prog 37 [Kd.val kapiScene s, Kd.val kapiAct x, Kd.val kapiAct y] false .bool h Q :=
  explore_Depends.br (depends_spec explore_gives.br explore_touches.br hQ)
theorem rdepends {s : Sc} {x y : Ac} {h : Heap} {Q : Bool → Heap → Prop} (hQ : ∀ b : Bool, (b = true ↔ DepI s.1 (s.2.1.len : Int) x.2.1 x.2.2.1 x.2.2.2.1 y.2.1 y.2.2.1 y.2.2.2.1) → Q b h) : CallT Try.prog 72 [Kd.val kapiScene s, Kd.val kapiAct x, Kd.val kapiAct y] false .bool h Q :=
  ref22_Depends.br (rdepends_spec ref22_cell.br ref22_makes.br hQ)
theorem sort {sl : Sl} {h0 h : Heap} {ys : List Int} {Q : Unit → Heap → Prop} (n : New h0 h ki sl ys) (hl : ys.length ≤ 12) (hQ : ∀ zs h', New h0 h' ki sl zs → zs.Perm ys → zs.Pairwise (· ≤ ·) → Ext (blkOf sl) h h' → Q () h') :
    CallT Try.prog 70 [Kd.val .sl sl] true .nil h Q :=
  slices_Sort_int_int.br (sort_spec n hl (fun a b q => math_bits_Len.br (math_bits_Len64.br (len64_spec a b q)))
    (fun {n h ys Q} o hl2 q => slices_pdqsortOrdered_int.br (pdq_spec (by rw [← o.len]; exact hl2) (slices_insertionSortOrdered_int.br (insert_spec o (by omega) (fun q2 => cmp_Less_int.br (less_spec cmp_isNaN_int.br q2)) q)))) hQ)
theorem stepsJ {h : Heap} {s : Sc} {t : Sl} {bs ps : List Int} {xss : List (List Ac)} (r : ScR h s bs xss) (hp : Arr h ki t ps) (hn : ps.length ≤ 1048576) (hc : chkE s.1 bs.length xss = 0) (hS : ScriptP (xss.map List.length) ps) {Q : Sl → Heap → Prop} (hQ : ∀ l h', New h h' kexploredone l ((foaS s.1 bs.length xss ps).map toDone) → Q l h') :
    CallT Try.prog 64 [Kd.val kapiScene s, Kd.val .sl t] false .sl h Q :=
  explore_steps.br (steps_spec' r hp hn hc hS depends (by rw [r.beg]; exact hQ))
theorem formJ {s : Sc} {t : Sl} {h k : Heap} {bs ps : List Int} {xss : List (List Ac)} (r : ScR h s bs xss) (hp : Arr h ki t ps) (hn : ps.length ≤ 1048576) {Q : Sl → Heap → Prop} (l : le h k) (hc : chkE s.1 bs.length xss = 0) (hS : ScriptP (xss.map List.length) ps) (f1 : (foaS s.1 bs.length xss ps).length ≤ 12) (f2 : ∀ c ∈ foaS s.1 bs.length xss ps, c.2 < 12)
    (hQ : ∀ o els (zss : List (List Int)) h', Nest k h' ki o els zss → zss.length = (formR (foaS s.1 bs.length xss ps)).length → (∀ (i : Nat) (z : List Int), zss[i]? = some z → z.Perm (((formR (foaS s.1 bs.length xss ps))[i]?).getD []) ∧ z.Pairwise (· ≤ ·)) → Q o h') :
    CallT Try.prog 42 [Kd.val kapiScene s, Kd.val .sl t] false .sl k Q :=
  explore_form.br (form_spec f1 f2 (stepsJ (r.le l) (hp.le l) hn hc hS) sort hQ)
theorem rbad {s : Sc} {t : Sl} {h : Heap} {bs ps : List Int} {xss : List (List Ac)} (r : ScR h s bs xss) (hs : Small bs xss) (hp : Arr h ki t ps) (hn : ps.length ≤ 1048576) {Q : Int → Heap → Prop} (hQ : ∀ e, Rdy s.1 bs.length xss ps e → Q e h) :
    CallT Try.prog 44 [Kd.val kapiScene s, Kd.val .sl t] false ki h Q :=
  ref22_Bad.br (bad_spec (fun q2 => ref22_Check.br (rcheck_spec r hs ref22_acts.br q2)) (fun hc q2 => ref22_Script.br (rscript_spec r hs hc hp hn (fun q3 => ref22_acts.br (acts_spec r hs q3)) q2)) hQ)
theorem rrow {s : Sc} {t : Sl} {h : Heap} {bs ps : List Int} {xss : List (List Ac)} (r : ScR h s bs xss) (hp : Arr h ki t ps) (hn : ps.length ≤ 1048576) {Q : Sl → Heap → Prop} (hc : chkE s.1 bs.length xss = 0) (hS : ScriptP (xss.map List.length) ps) (hQ : ∀ l h', New h h' kref22Act l (rowP xss ps ps.length) → Q l h') :
    CallT Try.prog 45 [Kd.val kapiScene s, Kd.val .sl t] false .sl h Q := ref22_Row.br (row_spec r hp hn hc hS hQ)
theorem rscript {s : Sc} {t : Sl} {h : Heap} {bs ps : List Int} {xss : List (List Ac)} (r : ScR h s bs xss) (hs : Small bs xss) (hp : Arr h ki t ps) (hn : ps.length ≤ 1048576) {Q : Bool → Heap → Prop} (hc : chkE s.1 bs.length xss = 0) (hQ : ∀ b, (b = true ↔ ScriptP (xss.map List.length) ps) → Q b h) :
    CallT Try.prog 61 [Kd.val kapiScene s, Kd.val .sl t] false .bool h Q := ref22_Script.br (rscript_spec r hs hc hp hn (fun q3 => ref22_acts.br (acts_spec r hs q3)) hQ)
theorem equal1 {h : Heap} {a b : Sl} {xs ys : List Int} {Q : Bool → Heap → Prop} (ha : Arr h ki a xs) (hb : Arr h ki b ys) (hn : xs.length ≤ 1000000) (hQ : Q (decide (xs = ys)) h) : CallT Try.prog 59 [Kd.val .sl a, Kd.val .sl b] false .bool h Q :=
  explore_Alike_1.br (slices_Equal_int_int.br (equal_spec ha hb hn hQ))
theorem equal1F : callOk Try.prog 59 = true := by kernel_rfl
theorem equal2 {h : Heap} {a b : Sl} {xs ys : List Int} {Q : Bool → Heap → Prop} (ha : Arr h ki a xs) (hb : Arr h ki b ys) (hn : xs.length ≤ 1000000) (hQ : Q (decide (xs = ys)) h) : FnT Try.prog (Value.func (.func 59) #[] #[]) [Kd.val .sl a, Kd.val .sl b] false .bool h Q :=
  FnT.of (first := #[]) (captured := #[]) (vs := [Kd.val .sl a, Kd.val .sl b]) equal1F (equal1 ha hb hn hQ)
theorem equalFn {h h1 h2 : Heap} {a b : Sl} {ea eb : List Sl} {xss yss : List (List Int)} {Q : Bool → Heap → Prop} (na : Nest h1 h ki a ea xss) (nb : Nest h2 h ki b eb yss) (hl : xss.length ≤ 1000000) (hr : ∀ xs ∈ xss, xs.length ≤ 1000000) (hQ : Q (decide (xss = yss)) h) :
    CallT Try.prog 58 [Kd.val .sl a, Kd.val .sl b, Kd.val .fn (Value.func (.func 59) #[] #[])] false .bool h Q :=
  slices_EqualFunc_int_int_int_int.br (equalFunc_spec na nb hl hr (cf := fun x0 x1 x2 h K => FnT Try.prog x0 [Kd.val .sl x1, Kd.val .sl x2] false .bool h K) equal2 hQ)
theorem alikeJ {s : Sc} {t u : Sl} {h : Heap} {bs ps qs : List Int} {xss : List (List Ac)} {Q : (Bool × (Int × Unit)) → Heap → Prop} (r : ScR h s bs xss) (hs : Small bs xss) (hp : Arr h ki t ps ∧ ps.length ≤ 1048576) (hq : Arr h ki u qs ∧ qs.length ≤ 1048576) (hQ : ∀ b e h', AlR s.1 bs.length xss ps qs b e → le h h' → Q (b, (e, ())) h') :
    CallT Try.prog 29 [Kd.val kapiScene s, Kd.val .sl t, Kd.val .sl u] true (.pair .bool (.pair (.int .i64) .nil)) h Q :=
  explore_Alike.br (alikeP_spec r hs (ready r hs hp.1 hp.2) (fun l q => isScript (r.le l) hs (hq.1.le l) hq.2 q) (fun {k ps t Q} l hp hc hS f1 f2 q => explore_form.br (form_spec f1 f2 (stepsJ (r.le l) (hp.1.le l) hp.2 hc hS) sort q)) equalFn hp hq hQ)
theorem rfirst {sc : Sc} {h : Heap} {rl : Sl} {l : List Rc} {w : Int} {Q : Int → Heap → Prop} {n : Int} (hn : (sc.2.1.len : Int) = n) (a : Arr h kref22Act rl l) (b : l.length ≤ 1000000) (hQ : Q (match firstR (bdA sc.1 n) w l with | none => -1 | some k => (k : Int)) h) :
    CallT Try.prog 87 [Kd.val kapiScene sc, Kd.val .sl rl, Kd.val ki w] false ki h Q := by
  subst hn
  exact ref22_first.br (first_spec a b w (fun q => ref22_bound.br (rbound_spec rdepends q)) hQ)
theorem ralikeJ {s : Sc} {t u : Sl} {h : Heap} {bs ps qs : List Int} {xss : List (List Ac)} {Q : (Bool × (Int × Unit)) → Heap → Prop} (r : ScR h s bs xss) (hs : Small bs xss) (hp : Arr h ki t ps ∧ ps.length ≤ 1048576) (hq : Arr h ki u qs ∧ qs.length ≤ 1048576) (hQ : ∀ b e h', AlR s.1 bs.length xss ps qs b e → le h h' → Q (b, (e, ())) h') :
    CallT Try.prog 30 [Kd.val kapiScene s, Kd.val .sl t, Kd.val .sl u] true (.pair .bool (.pair (.int .i64) .nil)) h Q :=
  ref22_Alike.br (ralikeP_spec r hs (rbad r hs hp.1 hp.2) (rscript r hs hq.1 hq.2) (fun hc hS hSq q => ref22_same.br (rsame_spec hq.1 (by have := ten hs.2.1 hs.2.2 hc hSq; omega) (by rw [rowP_len]; have := ten hs.2.1 hs.2.2 hc hS; omega) (rrow r hp.1 hp.2 hc hS) (rfirst r.beg) (fun a b q => ref22_without.br (without_spec a b q)) q)) hQ)
theorem call (s : Sc) (t u : Sl) (W : World) (bs ps qs : List Int) (xss : List (List Ac)) (r : ScR (view W) s bs xss) (hs : Small bs xss) (hp : Arr (view W) ki t ps) (hn : ps.length ≤ 1048576) (hq : Arr (view W) ki u qs) (hqn : qs.length ≤ 1048576) :
    CallT Try.prog 5 [Kd.val kapiScene s, Kd.val .sl t, Kd.val .sl u] false .bool (view W) fun b h' => b = true ∧ le (view W) h' :=
  law22_ExploreAlike.br (exploreAlike_spec r hs hp hn hq hqn (fun h' l => ⟨rfl, l⟩) law22_copied.br law22_turned.br law22_moved.br alikeJ law22_back.br law22_written.br ralikeJ
    (fun a b c d e => law22_alike.br (alike_spec a b c d law22_marked.br law22_sameCells.br e)) (fun a b c q => law22_kept.br (kept_spec a b c law22_same.br q)))

theorem contract (H : Type) (enc : TypeId × Value → H) (W : World) (base : Nat) (args : Array Value) (ds gs : List (DataW H)) (before : List MemPlace)
    (hval : ∀ (j : Nat) t v, Try.f5.params[j]? = some t → args[j]? = some v → Value.okWide Try.prog W .any base t v)
    (hW : DataW.Whole enc Try.prog Try.f5.params.toList Rows.exploreAlikeSpec.vars false W args.toList ds gs before) (hk : Rows.uptoSmall H (ds ++ gs) = true) :
    Calls Try.prog 5 args W fun e W' => ∃ v, e = .returned v ∧ Rows.exploreAlikeSpec.post enc Try.prog Try.f5 false true false false W args v W' := by
  have hW' := hW
  obtain ⟨p, q, hA, hV, rfl, hfz, hnd⟩ := hW
  obtain ⟨rfl, rfl⟩ := trodVars_none hV
  rw [List.append_nil] at hk
  have hB : Rows.uptoBulkAll ds ≤ 1048576 := of_decide_eq_true hk
  obtain ⟨es, e1, e2, e3⟩ := args_of (P := Try.prog) (base := base) (m := 6) (B := 1048576) (ts := Try.f5.params.toList) (ks := [kapiScene, .sl, .sl]) (by kernel_rfl) (fun j t v a b => hval j t v (by simpa using a) (by simpa using b)) hA hB
  rcases es with _ | ⟨⟨k1, x1⟩, _ | ⟨⟨k2, x2⟩, _ | ⟨⟨k3, x3⟩, _ | ⟨_, _⟩⟩⟩⟩
  · cases e1
  · cases e1
  · cases e1
  · simp only [List.map_cons, List.map_nil, List.cons.injEq, and_true] at e1
    obtain ⟨rfl, rfl, rfl⟩ := e1
    rw [Try.params5] at e3 hA
    obtain ⟨f1, f2, f3, _⟩ := e3
    obtain ⟨bs, xss, g1, g2⟩ := DataOf.scene (m := 3) f1 (by kernel_rfl) (by kernel_rfl) (by kernel_rfl) (by kernel_rfl)
    obtain ⟨ps, g3, g4, _⟩ := f2.arr (ke := ki) (by kernel_rfl)
    obtain ⟨qs, g5, g6, _⟩ := f3.arr (ke := ki) (by kernel_rfl)
    obtain ⟨v0, vs0, d0, ds0, p0, q0, _, rfl, _, _, r0⟩ := trodAll_cons hA
    obtain ⟨v1, vs1, d1, ds1, p1, q1, _, rfl, _, _, r1⟩ := trodAll_cons r0
    obtain ⟨v2, vs2, d2, ds2, p2, q2, _, rfl, _, _, r2⟩ := trodAll_cons r1
    obtain ⟨_, rfl, _⟩ := trodAll_nil r2
    refine law_post (bT := Try.f5.resultTypes.getD 0 0) (by kernel_rfl) (by kernel_rfl) (by kernel_rfl) rfl (by kernel_rfl) hW' (fun _ => ⟨rfl, rfl, rfl⟩) ?_
    rw [e2]
    exact call x1 x2 x3 W bs ps qs xss g1 g2 g3 (by rw [g3.1]; exact g4) g5 (by rw [g5.1]; exact g6)
  · cases e1

theorem lifted (os : Os) (started : os.Started) (H : Type) (enc : TypeId × Value → H) (F : Stop.Interp) :
    ReturnsInHanded {} Try.checked os 5 .any ((Rows.OpenSpec.upto Rows.exploreAlikeSpec).pre6 enc Try.prog Try.f5 Rows.exploreAlikeUptoRow.domain false) (((Rows.OpenSpec.upto Rows.exploreAlikeSpec).at F).post enc Try.prog Try.f5 false true false false) := by
  refine returnsInHanded_of_cond (C := Try.checked) (s := Rows.OpenSpec.upto Rows.exploreAlikeSpec) (k := Rows.uptoSmall) rfl own started (by kernel_rfl) Try.func5
    (OpenSpec.witness (enc := enc) (C := Try.checked) (s := Rows.OpenSpec.upto Rows.exploreAlikeSpec) (k := Rows.uptoSmall) rfl false ⟨#[], #[.agg #[.int .i64 0, .slice none 0 0, .slice none 0 0], .slice none 0 0, .slice none 0 0], []⟩ 8 (by kernel_rfl) (by kernel_rfl) (by kernel_rfl)
      (x := ([.agg [.lit (.int .i64 0), .nil, .nil], .nil, .nil], [], [])) (by kernel_rfl) rfl (by kernel_rfl)) ?_
  intro W base args ds gs before hval hW _ hk _
  exact contract H enc W base args ds gs before hval hW hk

theorem over : Rows.exploreAlikeUptoRow.holds Try.pinned (Rows.OpenSpec.upto Rows.exploreAlikeSpec) :=
  OpenClaim.holds_of_cond 5 Try.f5 rfl rfl rfl rfl rfl rfl rfl ⟨rfl, rfl, rfl, rfl, rfl⟩ rfl rfl rfl rfl rfl (by kernel_rfl) Try.func5 (by kernel_rfl)
    (of_decide_eq_true (by kernel_rfl)) (by unfold Func.isWrapper; first | (rw [if_pos (by decide +kernel)]; kernel_rfl) | (rw [if_neg (by decide +kernel)]; exact ⟨rfl, rfl⟩))
    (fun os started H enc _ F => lifted os started H enc F)

theorem proved : Rows.ExploreAlikeUptoSaid :=
  over
end Go.Proofs.Ytipihecaaakagaa.exploreAlike
