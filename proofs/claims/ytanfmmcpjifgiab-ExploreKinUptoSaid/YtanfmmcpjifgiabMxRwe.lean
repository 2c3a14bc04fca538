/-
  What is proved: plunderlaw22.ExploreKin returns true and leaves its arguments as they were, for every input. Condition: what it reads is of bulk at most 1048576.
-/
import Derived.Test.YtanfmmcpjifgiabMxKo
import Derived.Test.YtanfmmcpjifgiabMxEe
import Derived.Test.YtanfmmcpjifgiabMxV
import Derived.Test.YtanfmmcpjifgiabMb
import Derived.WalkKit
import Derived.ProofKit
import Derived.JoinedCond
namespace Go.Proofs.Ytanfmmcpjifgiab.exploreKin
open Go.ChangeShapes Go.WideShapes Go.ChangeAt Go.RowKit Go.Mx
set_option linter.unusedVariables false
set_option linter.unusedSimpArgs false
set_option maxRecDepth 100000

theorem own : ownKnob Try.prog.godebug = none := by kernel_rfl

theorem contains {s : Sl} {ls : List Int} {h : Heap} {Q : Bool → Heap → Prop} (ha : Arr h ki s ls) (hn : ls.length ≤ 1048576) (hQ : ∀ b : Bool, (b = true ↔ ∃ x ∈ ls, 0 < x) → Q b h) :
    CallT Try.prog 81 [Kd.val .sl s, Kd.val .fn (Value.func (.func 82) #[] #[])] false .bool h Q :=
  slices_ContainsFunc_int_int.br (contains_spec ha hn (f := Value.func (.func 82) #[] #[]) (cf := fun x0 x1 h K => FnT Try.prog x0 [Kd.val (.int .i64) x1] false .bool h K) (fun hq => FnT.of (f := 82) (by kernel_rfl) (explore_isScript_1.br hq)) slices_IndexFunc_int_int.br hQ)
theorem isScript {s : Sc} {t : Sl} {h : Heap} {bs ps : List Int} {xss : List (List Ac)} (r : ScR h s bs xss) (hs : Small bs xss) (hp : Arr h ki t ps) (hn : ps.length ≤ 1048576) {Q : Bool → Heap → Prop} (hQ : ∀ b h', (b = true ↔ ScriptP (xss.map List.length) ps) → le h h' → Q b h') :
    CallT Try.prog 64 [Kd.val kapiScene s, Kd.val .sl t] false .bool h Q := explore_isScript.br (isScript_spec r hs hp hn contains hQ)
theorem ready {s : Sc} {t : Sl} {h : Heap} {bs ps : List Int} {xss : List (List Ac)} (r : ScR h s bs xss) (hs : Small bs xss) (hp : Arr h ki t ps) (hn : ps.length ≤ 1048576) {Q : Int → Heap → Prop} (hQ : ∀ e h', Rdy s.1 bs.length xss ps e → le h h' → Q e h') :
    CallT Try.prog 47 [Kd.val kapiScene s, Kd.val .sl t] false ki h Q :=
  explore_ready.br (ready_spec r hs hp hn (fun q => explore_Check.br (check_spec r hs q)) (isScript r hs hp hn) hQ)
theorem depends {s : Sc} {x y : Ac} {h : Heap} {Q : Bool → Heap → Prop} (hQ : ∀ b : Bool, (b = true ↔ DepI s.1 (s.2.1.len : Int) x.2.1 x.2.2.1 x.2.2.2.1 y.2.1 y.2.2.1 y.2.2.2.1) → Q b h) : CallT Try.prog 11 [Kd.val kapiScene s, Kd.val kapiAct x, Kd.val kapiAct y] false .bool h Q :=
  explore_Depends.br (depends_spec explore_gives.br explore_touches.br hQ)
theorem rdepends {s : Sc} {x y : Ac} {h : Heap} {Q : Bool → Heap → Prop} (hQ : ∀ b : Bool, (b = true ↔ DepI s.1 (s.2.1.len : Int) x.2.1 x.2.2.1 x.2.2.2.1 y.2.1 y.2.2.1 y.2.2.2.1) → Q b h) : CallT Try.prog 13 [Kd.val kapiScene s, Kd.val kapiAct x, Kd.val kapiAct y] false .bool h Q :=
  ref22_Depends.br (rdepends_spec ref22_cell.br ref22_makes.br hQ)
theorem stepsJ {h : Heap} {s : Sc} {t : Sl} {bs ps : List Int} {xss : List (List Ac)} (r : ScR h s bs xss) (hp : Arr h ki t ps) (hn : ps.length ≤ 1048576) (hc : chkE s.1 bs.length xss = 0) (hS : ScriptP (xss.map List.length) ps) {Q : Sl → Heap → Prop} (hQ : ∀ l h', New h h' kexploredone l ((foaS s.1 bs.length xss ps).map toDone) → Q l h') :
    CallT Try.prog 48 [Kd.val kapiScene s, Kd.val .sl t] false .sl h Q :=
  explore_steps.br (steps_spec' r hp hn hc hS depends (by rw [r.beg]; exact hQ))
theorem rbad {s : Sc} {t : Sl} {h : Heap} {bs ps : List Int} {xss : List (List Ac)} (r : ScR h s bs xss) (hs : Small bs xss) (hp : Arr h ki t ps) (hn : ps.length ≤ 1048576) {Q : Int → Heap → Prop} (hQ : ∀ e, Rdy s.1 bs.length xss ps e → Q e h) :
    CallT Try.prog 50 [Kd.val kapiScene s, Kd.val .sl t] false ki h Q :=
  ref22_Bad.br (bad_spec (fun q2 => ref22_Check.br (rcheck_spec r hs ref22_acts.br q2)) (fun hc q2 => ref22_Script.br (rscript_spec r hs hc hp hn (fun q3 => ref22_acts.br (acts_spec r hs q3)) q2)) hQ)
theorem rrow {s : Sc} {t : Sl} {h : Heap} {bs ps : List Int} {xss : List (List Ac)} (r : ScR h s bs xss) (hp : Arr h ki t ps) (hn : ps.length ≤ 1048576) {Q : Sl → Heap → Prop} (hc : chkE s.1 bs.length xss = 0) (hS : ScriptP (xss.map List.length) ps) (hQ : ∀ l h', New h h' kref22Act l (rowP xss ps ps.length) → Q l h') :
    CallT Try.prog 61 [Kd.val kapiScene s, Kd.val .sl t] false .sl h Q := ref22_Row.br (row_spec r hp hn hc hS hQ)
theorem rfirst {sc : Sc} {h : Heap} {rl : Sl} {l : List Rc} {w : Int} {Q : Int → Heap → Prop} {n : Int} (hn : (sc.2.1.len : Int) = n) (a : Arr h kref22Act rl l) (b : l.length ≤ 1000000) (hQ : Q (match firstR (bdA sc.1 n) w l with | none => -1 | some k => (k : Int)) h) :
    CallT Try.prog 62 [Kd.val kapiScene sc, Kd.val .sl rl, Kd.val ki w] false ki h Q := by
  subst hn
  exact ref22_first.br (first_spec a b w (fun q => ref22_bound.br (rbound_spec rdepends q)) hQ)
theorem acts {s : Sc} {h : Heap} {bs : List Int} {xss : List (List Ac)} (r : ScR h s bs xss) (hs : Small bs xss) {Q : Int → Heap → Prop} (hQ : Q (((xss.map List.length).sum : Nat) : Int) h) : CallT Try.prog 40 [Kd.val kapiScene s] false ki h Q :=
  ref22_acts.br (acts_spec r hs (by rw [actsE_sum hs.2.1 hs.2.2]; exact hQ))
theorem more {h0 : Heap} {s : Sc} {bs : List Int} {xss : List (List Ac)} (r : ScR h0 s bs xss) (hs : Small bs xss) (hc : chkE s.1 bs.length xss = 0) {Q : Sl → Heap → Prop} (hQ : ∀ l' els' h', Nest h0 h' ki l' els' ([] ++ allS xss) → Q l' h') :
    CallT Try.prog 60 [Kd.val kapiScene s, Kd.val .sl ⟨none, 0, 0⟩, Kd.val .sl ⟨none, 0, 0⟩] false .sl h0 Q :=
  more_spec r rfl (chkE_ok hc).2.2.2.1 (total := (xss.map List.length).sum) (by have h1 := (chkE_ok hc).2.2.2.2.1; rw [actsE_sum hs.2.1 hs.2.2] at h1; omega) (F := fun x0 x1 x2 h K => CallT Try.prog 60 [Kd.val kapiScene x0, Kd.val .sl x1, Kd.val .sl x2] false .sl h K)
    (fun l q => acts (r.le l) hs q) ref22_more.br (xss.map List.length).sum [] ⟨none, 0, 0⟩ ⟨none, 0, 0⟩ h0 [] [] Q (by simp) (New.nil h0 ki).arr (New.nil h0 ki).own.live (fun x hx => absurd hx no_blk) (Nest.nil h0 ki)
    (by have h1 := (chkE_ok hc).2.2.2.2.1; rw [actsE_sum hs.2.1 hs.2.2] at h1; have h2 : 4 ^ (xss.map List.length).sum ≤ 4 ^ 10 := Nat.pow_le_pow_right (by omega) (by omega); have h3 : (4 : Nat) ^ 10 = 1048576 := by decide
        rw [List.length_nil]; omega) (fun l' els' h' n' _ => hQ l' els' h' n')
theorem kinJ {s : Sc} {t : Sl} {h : Heap} {bs ps : List Int} {xss : List (List Ac)} {Q : Den kcellsledger → Heap → Prop} (r : ScR h s bs xss) (hs : Small bs xss) (hp : Arr h ki t ps) (hn : ps.length ≤ 1048576) (hQ : ∀ e h', Rdy s.1 bs.length xss ps e → le h h' → Q (kinP s.1 bs.length xss ps e, (e, ())) h') :
    CallT Try.prog 23 [Kd.val kapiScene s, Kd.val .sl t] true kcellsledger h Q :=
  explore_Kin.br (kin_spec r hs (ready r hs hp hn) (fun l hc hS q => stepsJ (r.le l) (hp.le l) hn hc hS q) depends
    (fun {h0 h s6 m nA B lens f n Q} hB h4 hm hn hb hl hz hA hW q => ways_spec (F := fun x0 x1 x2 h K => CallT Try.prog 49 [Kd.val .sl x0, Kd.val (.arr 4 (.int .i64)) x1, Kd.val .map x2] false (.int .i64) h K) explore_ways.br hB h4 hm n f h Q hn hb hl hz hA hW (fun h' a _ => q h' a)) hQ)
theorem rkinJ {s : Sc} {t : Sl} {h : Heap} {bs ps : List Int} {xss : List (List Ac)} {Q : Den kcellsledger → Heap → Prop} (r : ScR h s bs xss) (hs : Small bs xss) (hp : Arr h ki t ps) (hn : ps.length ≤ 1048576) (hQ : ∀ e h', Rdy s.1 bs.length xss ps e → le h h' → Q (kinP s.1 bs.length xss ps e, (e, ())) h') :
    CallT Try.prog 25 [Kd.val kapiScene s, Kd.val .sl t] true kcellsledger h Q :=
  ref22_Kin.br (rkin_spec r hs (rbad r hs hp hn) (fun hc q => ref22_Scripts.br (scripts_spec (more r hs hc) q))
    (fun l hc hS hSq hu hl q => ref22_same.br (rsame_spec hu hl (by rw [rowP_len]; have := ten hs.2.1 hs.2.2 hc hS; omega) (rrow (r.le l) (hp.le l) hn hc hS) (rfirst r.beg) (fun a b q => ref22_without.br (without_spec a b q)) q)) hQ)
theorem call (s : Sc) (t : Sl) (W : World) (bs ps : List Int) (xss : List (List Ac)) (r : ScR (view W) s bs xss) (hs : Small bs xss) (hp : Arr (view W) ki t ps) (hn : ps.length ≤ 1048576) :
    CallT Try.prog 6 [Kd.val kapiScene s, Kd.val .sl t] false .bool (view W) fun b h' => b = true ∧ le (view W) h' :=
  law22_ExploreKin.br (exploreKin_spec r hs hp hn (fun h' l => ⟨rfl, l⟩) law22_copied.br law22_moved.br law22_turned.br kinJ law22_back.br law22_written.br rkinJ
    (fun a b c d e => law22_alike.br (alike_spec a b c d law22_marked.br law22_sameCells.br e)) (fun a b c q => law22_kept.br (kept_spec a b c law22_same.br q)))

theorem contract (H : Type) (enc : TypeId × Value → H) (W : World) (base : Nat) (args : Array Value) (ds gs : List (DataW H)) (before : List MemPlace)
    (hval : ∀ (j : Nat) t v, Try.f6.params[j]? = some t → args[j]? = some v → Value.okWide Try.prog W .any base t v)
    (hW : DataW.Whole enc Try.prog Try.f6.params.toList Rows.exploreKinSpec.vars false W args.toList ds gs before) (hk : Rows.uptoSmall H (ds ++ gs) = true) :
    Calls Try.prog 6 args W fun e W' => ∃ v, e = .returned v ∧ Rows.exploreKinSpec.post enc Try.prog Try.f6 false true false false W args v W' := by
  have hW' := hW
  obtain ⟨p, q, hA, hV, rfl, hfz, hnd⟩ := hW
  obtain ⟨rfl, rfl⟩ := trodVars_none hV
  rw [List.append_nil] at hk
  have hB : Rows.uptoBulkAll ds ≤ 1048576 := of_decide_eq_true hk
  obtain ⟨es, e1, e2, e3⟩ := args_of (P := Try.prog) (base := base) (m := 6) (B := 1048576) (ts := Try.f6.params.toList) (ks := [kapiScene, .sl]) (by kernel_rfl) (fun j t v a b => hval j t v (by simpa using a) (by simpa using b)) hA hB
  rcases es with _ | ⟨⟨k1, x1⟩, _ | ⟨⟨k2, x2⟩, _ | ⟨_, _⟩⟩⟩
  · cases e1
  · cases e1
  · simp only [List.map_cons, List.map_nil, List.cons.injEq, and_true] at e1
    obtain ⟨rfl, rfl⟩ := e1
    rw [Try.params6] at e3 hA
    obtain ⟨f1, f2, _⟩ := e3
    obtain ⟨bs, xss, g1, g2⟩ := DataOf.scene (m := 3) f1 (by kernel_rfl) (by kernel_rfl) (by kernel_rfl) (by kernel_rfl)
    obtain ⟨ps, g3, g4, _⟩ := f2.arr (ke := ki) (by kernel_rfl)
    obtain ⟨v0, vs0, d0, ds0, p0, q0, _, rfl, _, _, r0⟩ := trodAll_cons hA
    obtain ⟨v1, vs1, d1, ds1, p1, q1, _, rfl, _, _, r1⟩ := trodAll_cons r0
    obtain ⟨_, rfl, _⟩ := trodAll_nil r1
    refine law_post (bT := Try.f6.resultTypes.getD 0 0) (by kernel_rfl) (by kernel_rfl) (by kernel_rfl) rfl (by kernel_rfl) hW' (fun _ => ⟨rfl, rfl, rfl⟩) ?_
    rw [e2]
    exact call x1 x2 W bs ps xss g1 g2 g3 (by rw [g3.1]; exact g4)
  · cases e1

theorem lifted (os : Os) (started : os.Started) (H : Type) (enc : TypeId × Value → H) (F : Stop.Interp) :
    ReturnsInHanded {} Try.checked os 6 .any ((Rows.OpenSpec.upto Rows.exploreKinSpec).pre6 enc Try.prog Try.f6 Rows.exploreKinUptoRow.domain false) (((Rows.OpenSpec.upto Rows.exploreKinSpec).at F).post enc Try.prog Try.f6 false true false false) := by
  refine returnsInHanded_of_cond (C := Try.checked) (s := Rows.OpenSpec.upto Rows.exploreKinSpec) (k := Rows.uptoSmall) rfl own started (by kernel_rfl) Try.func6
    (OpenSpec.witness (enc := enc) (C := Try.checked) (s := Rows.OpenSpec.upto Rows.exploreKinSpec) (k := Rows.uptoSmall) rfl false ⟨#[], #[.agg #[.int .i64 0, .slice none 0 0, .slice none 0 0], .slice none 0 0], []⟩ 8 (by kernel_rfl) (by kernel_rfl) (by kernel_rfl)
      (x := ([.agg [.lit (.int .i64 0), .nil, .nil], .nil], [], [])) (by kernel_rfl) rfl (by kernel_rfl)) ?_
  intro W base args ds gs before hval hW _ hk _
  exact contract H enc W base args ds gs before hval hW hk

theorem over : Rows.exploreKinUptoRow.holds Try.pinned (Rows.OpenSpec.upto Rows.exploreKinSpec) :=
  OpenClaim.holds_of_cond 6 Try.f6 rfl rfl rfl rfl rfl rfl rfl ⟨rfl, rfl, rfl, rfl, rfl⟩ rfl rfl rfl rfl rfl (by kernel_rfl) Try.func6 (by kernel_rfl)
    (of_decide_eq_true (by kernel_rfl)) (by unfold Func.isWrapper; first | (rw [if_pos (by decide +kernel)]; kernel_rfl) | (rw [if_neg (by decide +kernel)]; exact ⟨rfl, rfl⟩))
    (fun os started H enc _ F => lifted os started H enc F)

theorem proved : Rows.ExploreKinUptoSaid :=
  over
end Go.Proofs.Ytanfmmcpjifgiab.exploreKin
