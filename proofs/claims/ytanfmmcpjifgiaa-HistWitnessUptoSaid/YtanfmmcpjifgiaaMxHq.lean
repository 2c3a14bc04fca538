/-
  What is proved: plunderlaw4.HistWitness returns true and leaves its arguments as they were, for every input. Condition: what it reads is of bulk at most 1048576.
-/
import Derived.Test.YtanfmmcpjifgiaaMxHp
import Derived.Test.YtanfmmcpjifgiaaMxV
import Derived.Test.YtanfmmcpjifgiaaMb
import Derived.WalkKit
import Derived.ProofKit
import Derived.JoinedCond
namespace Go.Proofs.Ytanfmmcpjifgiaa.histWitness
open Go.ChangeShapes Go.WideShapes Go.ChangeAt Go.RowKit Go.Mx
set_option linter.unusedVariables false
set_option linter.unusedSimpArgs false
set_option maxRecDepth 100000

theorem own : ownKnob Try.prog.godebug = none := by kernel_rfl

theorem order {l : Sl} {m : Int} {h : Heap} {us : List Cl} {Q : (Sl × (Int × Unit)) → Heap → Prop} (ha : Arr h kapiCall l us) (hn : l.len ≤ 2097152) (hQ : ∀ r e os h', OrdR us m e os → New h h' ki r os → Q (r, (e, ())) h') :
    CallT Try.prog 20 [Kd.val .sl l, Kd.val (.int .i64) m] true (.pair .sl (.pair (.int .i64) .nil)) h Q :=
  hist_Order.br (horder_spec ha hn (F := fun x0 x1 x2 h K => CallT Try.prog 32 [Kd.val .ptr x0, Kd.val (.arr 4 (.int .i64)) x1, Kd.val .sl x2] false .bool h K) hist_goodMost.br (fun h1 h2 h3 => hist_history.br (history_spec h1 h2 (fun g => hist_sound.br (sound_spec hist_may.br g)) h3))
    slices_Clone_int_int.br hist_search_done.br hist_row_does.br hist_search_waits.br hist_search_from.br hQ)
theorem legal {a o : Sl} {m : Int} {h : Heap} {us : List Cl} {vs : List Int} {Q : Bool → Heap → Prop} (ha : Arr h kapiCall a us) (ho : Arr h ki o vs) (hn : a.len ≤ 2097152) (hm : o.len ≤ 2097152) (hQ : ∀ (b : Bool) h', (b = true ↔ OkL us m vs) → le h h' → Q b h') :
    CallT Try.prog 18 [Kd.val .sl a, Kd.val (.int .i64) m, Kd.val .sl o] false .bool h Q :=
  hist_Legal.br (hlegal_spec ha ho hn hm hist_goodMost.br (fun h1 h2 h3 => hist_history.br (history_spec h1 h2 (fun g => hist_sound.br (sound_spec hist_may.br g)) h3)) hist_row_does.br hQ)
theorem serial {l : Sl} {m : Int} {h : Heap} {us : List Td} {Q : (Sl × (Sl × (Int × Unit))) → Heap → Prop} (ha : Arr h kapiTodo l us) (hQ : ∀ s r h', New h h' kapiCall s (csE us m) → Q (s, (r, (serE us m, ()))) h') :
    CallT Try.prog 15 [Kd.val .sl l, Kd.val (.int .i64) m] true (.pair .sl (.pair .sl (.pair (.int .i64) .nil))) h Q :=
  hist_Serial.br (hserial_all ha hist_goodMost.br hist_row_does.br slices_Clone_int64_int64.br fun s r h' a _ _ => hQ s r h' a)

theorem call (todos : Sl) (most : Int) (wide : Sl) (pick : Int) (W : World) (ts : List Td) (vs : List Wi) (ha : Arr (view W) kapiTodo todos ts) (hw : Arr (view W) klaw4Wide wide vs) (hn : todos.len ≤ 1048576) :
    CallT Try.prog 8 [Kd.val .sl todos, Kd.val (.int .i64) most, Kd.val .sl wide, Kd.val (.int .i64) pick] false .bool (view W) fun b h' => b = true ∧ le (view W) h' :=
  law4_HistWitness.br (histWitness_spec ha hw hn law4_mod.br serial order law4_widened.br legal (fun a b q => hist_Cut.br (cut_spec a b q)) (fun h' l => ⟨rfl, l⟩))

theorem contract (H : Type) (enc : TypeId × Value → H) (W : World) (base : Nat) (args : Array Value) (ds gs : List (DataW H)) (before : List MemPlace)
    (hval : ∀ (j : Nat) t v, Try.f8.params[j]? = some t → args[j]? = some v → Value.okWide Try.prog W .any base t v)
    (hW : DataW.Whole enc Try.prog Try.f8.params.toList Rows.histWitnessSpec.vars false W args.toList ds gs before) (hk : Rows.uptoSmall H (ds ++ gs) = true) :
    Calls Try.prog 8 args W fun e W' => ∃ v, e = .returned v ∧ Rows.histWitnessSpec.post enc Try.prog Try.f8 false true false false W args v W' := by
  have hW' := hW
  obtain ⟨p, q, hA, hV, rfl, hfz, hnd⟩ := hW
  obtain ⟨rfl, rfl⟩ := trodVars_none hV
  rw [List.append_nil] at hk
  have hB : Rows.uptoBulkAll ds ≤ 1048576 := of_decide_eq_true hk
  obtain ⟨es, e1, e2, e3⟩ := args_of (P := Try.prog) (base := base) (m := 3) (B := 1048576) (ts := Try.f8.params.toList) (ks := [.sl, .int .i64, .sl, .int .i64]) (by kernel_rfl) (fun j t v a b => hval j t v (by simpa using a) (by simpa using b)) hA hB
  rcases es with _ | ⟨⟨k1, x1⟩, _ | ⟨⟨k2, x2⟩, _ | ⟨⟨k3, x3⟩, _ | ⟨⟨k4, x4⟩, _ | ⟨_, _⟩⟩⟩⟩⟩
  · cases e1
  · cases e1
  · cases e1
  · cases e1
  · simp only [List.map_cons, List.map_nil, List.cons.injEq, and_true] at e1
    obtain ⟨rfl, rfl, rfl, rfl⟩ := e1
    rw [Try.params8] at e3 hA
    obtain ⟨f1, f2, f3, f4, _⟩ := e3
    obtain ⟨xs, g1, g2, _⟩ := f1.arr (ke := kapiTodo) (by kernel_rfl)
    obtain ⟨ys, g3, g4, _⟩ := f3.arr (ke := klaw4Wide) (by kernel_rfl)
    obtain ⟨v0, vs0, d0, ds0, p0, q0, _, rfl, _, _, r0⟩ := trodAll_cons hA
    obtain ⟨v1, vs1, d1, ds1, p1, q1, _, rfl, _, _, r1⟩ := trodAll_cons r0
    obtain ⟨v2, vs2, d2, ds2, p2, q2, _, rfl, _, _, r2⟩ := trodAll_cons r1
    obtain ⟨v3, vs3, d3, ds3, p3, q3, _, rfl, _, _, r3⟩ := trodAll_cons r2
    obtain ⟨_, rfl, _⟩ := trodAll_nil r3
    refine law_post (bT := Try.f8.resultTypes.getD 0 0) (by kernel_rfl) (by kernel_rfl) (by kernel_rfl) rfl (by kernel_rfl) hW' (fun _ => ⟨rfl, rfl, rfl⟩) ?_
    rw [e2]
    exact call x1 x2 x3 x4 W xs ys g1 g3 g2
  · cases e1

theorem lifted (os : Os) (started : os.Started) (H : Type) (enc : TypeId × Value → H) (F : Stop.Interp) :
    ReturnsInHanded {} Try.checked os 8 .any ((Rows.OpenSpec.upto Rows.histWitnessSpec).pre6 enc Try.prog Try.f8 Rows.histWitnessUptoRow.domain false) (((Rows.OpenSpec.upto Rows.histWitnessSpec).at F).post enc Try.prog Try.f8 false true false false) := by
  refine returnsInHanded_of_cond (C := Try.checked) (s := Rows.OpenSpec.upto Rows.histWitnessSpec) (k := Rows.uptoSmall) rfl own started (by kernel_rfl) Try.func8
    (OpenSpec.witness (enc := enc) (C := Try.checked) (s := Rows.OpenSpec.upto Rows.histWitnessSpec) (k := Rows.uptoSmall) rfl false ⟨#[], #[.slice none 0 0, .int .i64 0, .slice none 0 0, .int .i64 0], []⟩ 8 (by kernel_rfl) (by kernel_rfl) (by kernel_rfl)
      (x := ([.nil, .lit (.int .i64 0), .nil, .lit (.int .i64 0)], [], [])) (by kernel_rfl) rfl (by kernel_rfl)) ?_
  intro W base args ds gs before hval hW _ hk _
  exact contract H enc W base args ds gs before hval hW hk

theorem over : Rows.histWitnessUptoRow.holds Try.pinned (Rows.OpenSpec.upto Rows.histWitnessSpec) :=
  OpenClaim.holds_of_cond 8 Try.f8 rfl rfl rfl rfl rfl rfl rfl ⟨rfl, rfl, rfl, rfl, rfl⟩ rfl rfl rfl rfl rfl (by kernel_rfl) Try.func8 (by kernel_rfl)
    (of_decide_eq_true (by kernel_rfl)) (by unfold Func.isWrapper; first | (rw [if_pos (by decide +kernel)]; kernel_rfl) | (rw [if_neg (by decide +kernel)]; exact ⟨rfl, rfl⟩))
    (fun os started H enc _ F => lifted os started H enc F)

theorem proved : Rows.HistWitnessUptoSaid :=
  over
end Go.Proofs.Ytanfmmcpjifgiaa.histWitness
