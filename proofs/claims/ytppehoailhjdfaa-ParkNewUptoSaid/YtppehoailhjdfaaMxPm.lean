/-
  What is proved: plunderlaw9.ParkNew returns true and leaves its arguments as they were, for every input. Condition: what it reads is of bulk at most 1048576.
-/
import Derived.Test.YtppehoailhjdfaaMxPl
import Derived.Test.YtppehoailhjdfaaMxV
import Derived.Test.YtppehoailhjdfaaMb
import Derived.WalkKit
import Derived.ProofKit
import Derived.JoinedCond
namespace Go.Proofs.Ytppehoailhjdfaa.parkNew
open Go.ChangeShapes Go.WideShapes Go.ChangeAt Go.RowKit Go.Mx
set_option linter.unusedVariables false
set_option linter.unusedSimpArgs false
set_option maxRecDepth 100000

theorem own : ownKnob Try.prog.godebug = none := by kernel_rfl

theorem reserve {h0 h : Heap} {b : Nat} {c l : Sl} {sz : Int} {cs : List Int} {lg : List Acc} {who : Int} {wt : Bool} (o : Ar h0 h b c l sz cs lg who wt) (hl : lg.length ≤ 1000000000) (hf : (cs.length : Int) ≤ sz) (hz : sz ≤ 1048576) {n : Int} {Q : Den K2 → Heap → Prop} (hC : n < 1 → Q (0, (21, ())) h) (hR : 1 ≤ n → sz - (cs.length : Int) < n → Q (0, (22, ())) h)
    (hQ : ∀ c' l' h', 1 ≤ n → n ≤ sz - (cs.length : Int) → Ar h0 h' b c' l' sz (cs ++ List.replicate n.toNat 0) (wl wt lg (who, (4, ((cs.length : Int), (n, (0, (true, ()))))))) who wt → Step (fpA b c l) (fpA b c' l') h h' → Q ((cs.length : Int), (0, ())) h') :
    CallT Try.prog 52 [Kd.val .ptr (some (ptr b)), Kd.val ki n] true K2 h Q :=
  cells_Arena_Reserve.br (reserve_spec o hl hf hz cells_ledger_refuse.br cells_ledger_take.br cells_Arena_note.br hC hR hQ)
theorem arena {h : Heap} {size : Int} {s : Sl} {bs : List Int} {Q : (Option Addr × (Bool × Unit)) → Heap → Prop} (ha : Arr h ki s bs) (h0 : 0 ≤ size) (h1 : size ≤ 1048576) (hb : (bs.length : Int) ≤ size) (hQ : ∀ b c l h', Ar h h' b c l size bs [] 0 true → Q (some (ptr b), (true, ())) h') :
    CallT Try.prog 10 [Kd.val ki size, Kd.val .sl s] true (.pair .ptr (.pair .bool .nil)) h Q :=
  law9_arena.br (arena_spec ha h0 h1 hb (fun hq => cells_New.br (cnew_spec cells_good.br (fun q => absurd ⟨h0, h1⟩ q) (fun _ => hq))) (fun o a b c d e => reserve o a b h1 c d e)
    (fun o a b c => cells_Arena_Store.br (store_spec o a cells_ledger_has.br (fun h => cells_Arena_outside.br h) cells_Arena_note.br b c)) cells_Arena_Watch.br hQ)
theorem pnew {h0 h : Heap} {b : Nat} {c l : Sl} {sz w : Int} {cs : List Int} {Q : (Den K2 × (Int × Unit)) → Heap → Prop} (o : Ar h0 h b c l sz cs [] 0 true) (hf : (cs.length : Int) ≤ sz) (hz : sz ≤ 1048576)
    (hQ : ∀ c' l' h', Ar h0 h' b c' l' sz (parkC w sz cs) (parkL w sz cs [] 0) 0 true → Step (fpA b c l) (fpA b c' l') h h' → Q (parkR w sz cs.length) h') :
    CallT Try.prog 11 [Kd.val .iface (.iface 24 (.pointer (some (ptr b)))), Kd.val ki w] true (.pair K2 (.pair ki .nil)) h Q :=
  park_New.br (pnew_spec (v := .iface 24 (.pointer (some (ptr b)))) o trivial rfl park_Cells.br (fun c d e => InvT.of (f := 52) (by kernel_rfl) (reserve o (by simp) hf hz c d e)) (NilT.of (f := 52) (by kernel_rfl) _) hQ)
theorem pnil {h : Heap} {w : Int} {Q : (Den K2 × (Int × Unit)) → Heap → Prop} (hQ : Q ((0, (0, ())), (1, ())) h) :
    CallT Try.prog 11 [Kd.val .iface .nilIface, Kd.val ki w] true (.pair K2 (.pair ki .nil)) h Q :=
  park_New.br ⟨trivial, fun _ => hQ, fun e => (by cases e)⟩
theorem rnew {h0 h : Heap} {b : Nat} {c l : Sl} {sz w : Int} {cs : List Int} {Q : (Den K2 × (Int × Unit)) → Heap → Prop} (o : MmS h0 h b c l sz cs [] 0) (hf : (cs.length : Int) ≤ sz) (hz : sz ≤ 1048576)
    (hQ : ∀ c' l' h', MmS h0 h' b c' l' sz (parkC w sz cs) (parkL w sz cs [] 0) 0 → Step (fpA b c l) (fpA b c' l') h h' → Q (parkR w sz cs.length) h') :
    CallT Try.prog 12 [Kd.val .ptr (some (ptr b)), Kd.val ki w] true (.pair K2 (.pair ki .nil)) h Q :=
  ref9_New.br (rnew_spec o (fun c d => ref3_Mem_Do.br (do_reserve o (by simp) hf hz c d)) hQ)

theorem call (size : Int) (s : Sl) (workers : Int) (W : World) (bs : List Int) (ha : Arr (view W) ki s bs) (hcap : s.len ≤ s.cap) :
    CallT Try.prog 3 [Kd.val (.int .i64) size, Kd.val .sl s, Kd.val (.int .i64) workers] false .bool (view W) fun b h' => b = true ∧ le (view W) h' :=
  law9_ParkNew.br (parkNew_spec ha hcap law9_mod.br arena pnew pnil rnew cells_Arena_Cells.br law9_sameInts.br cells_Arena_Log.br law9_sameLog.br park_Cells.br ref9_Cells.br (fun h' l => ⟨rfl, l⟩))

theorem contract (H : Type) (enc : TypeId × Value → H) (W : World) (base : Nat) (args : Array Value) (ds gs : List (DataW H)) (before : List MemPlace)
    (hval : ∀ (j : Nat) t v, Try.f3.params[j]? = some t → args[j]? = some v → Value.okWide Try.prog W .any base t v)
    (hW : DataW.Whole enc Try.prog Try.f3.params.toList Rows.parkNewSpec.vars false W args.toList ds gs before) (hk : Rows.uptoSmall H (ds ++ gs) = true) :
    Calls Try.prog 3 args W fun e W' => ∃ v, e = .returned v ∧ Rows.parkNewSpec.post enc Try.prog Try.f3 false true false false W args v W' := by
  have hW' := hW
  obtain ⟨p, q, hA, hV, rfl, hfz, hnd⟩ := hW
  obtain ⟨rfl, rfl⟩ := trodVars_none hV
  rw [List.append_nil] at hk
  have hB : Rows.uptoBulkAll ds ≤ 1048576 := of_decide_eq_true hk
  obtain ⟨es, e1, e2, e3⟩ := args_of (P := Try.prog) (base := base) (m := 3) (B := 1048576) (ts := Try.f3.params.toList) (ks := [.int .i64, .sl, .int .i64]) (by kernel_rfl) (fun j t v a b => hval j t v (by simpa using a) (by simpa using b)) hA hB
  rcases es with _ | ⟨⟨k1, x1⟩, _ | ⟨⟨k2, x2⟩, _ | ⟨⟨k3, x3⟩, _ | ⟨_, _⟩⟩⟩⟩
  · cases e1
  · cases e1
  · cases e1
  · simp only [List.map_cons, List.map_nil, List.cons.injEq, and_true] at e1
    obtain ⟨rfl, rfl, rfl⟩ := e1
    rw [Try.params3] at e3 hA
    obtain ⟨f1, f2, f3, _⟩ := e3
    obtain ⟨xs, g1, _, g3, _⟩ := f2.arr (ke := ki) (by kernel_rfl)
    obtain ⟨v0, vs0, d0, ds0, p0, q0, _, rfl, _, _, r0⟩ := trodAll_cons hA
    obtain ⟨v1, vs1, d1, ds1, p1, q1, _, rfl, _, _, r1⟩ := trodAll_cons r0
    obtain ⟨v2, vs2, d2, ds2, p2, q2, _, rfl, _, _, r2⟩ := trodAll_cons r1
    obtain ⟨_, rfl, _⟩ := trodAll_nil r2
    refine law_post (bT := Try.f3.resultTypes.getD 0 0) (by kernel_rfl) (by kernel_rfl) (by kernel_rfl) rfl (by kernel_rfl) hW' (fun _ => ⟨rfl, rfl, rfl⟩) ?_
    rw [e2]
    exact call x1 x2 x3 W xs g1 g3
  · cases e1

theorem lifted (os : Os) (started : os.Started) (H : Type) (enc : TypeId × Value → H) (F : Stop.Interp) :
    ReturnsInHanded {} Try.checked os 3 .any ((Rows.OpenSpec.upto Rows.parkNewSpec).pre6 enc Try.prog Try.f3 Rows.parkNewUptoRow.domain false) (((Rows.OpenSpec.upto Rows.parkNewSpec).at F).post enc Try.prog Try.f3 false true false false) := by
  refine returnsInHanded_of_cond (C := Try.checked) (s := Rows.OpenSpec.upto Rows.parkNewSpec) (k := Rows.uptoSmall) rfl own started (by kernel_rfl) Try.func3
    (OpenSpec.witness (enc := enc) (C := Try.checked) (s := Rows.OpenSpec.upto Rows.parkNewSpec) (k := Rows.uptoSmall) rfl false ⟨#[], #[.int .i64 0, .slice none 0 0, .int .i64 0], []⟩ 8 (by kernel_rfl) (by kernel_rfl) (by kernel_rfl)
      (x := ([.lit (.int .i64 0), .nil, .lit (.int .i64 0)], [], [])) (by kernel_rfl) rfl (by kernel_rfl)) ?_
  intro W base args ds gs before hval hW _ hk _
  exact contract H enc W base args ds gs before hval hW hk

theorem over : Rows.parkNewUptoRow.holds Try.pinned (Rows.OpenSpec.upto Rows.parkNewSpec) :=
  OpenClaim.holds_of_cond 3 Try.f3 rfl rfl rfl rfl rfl rfl rfl ⟨rfl, rfl, rfl, rfl, rfl⟩ rfl rfl rfl rfl rfl (by kernel_rfl) Try.func3 (by kernel_rfl)
    (of_decide_eq_true (by kernel_rfl)) (by unfold Func.isWrapper; first | (rw [if_pos (by decide +kernel)]; kernel_rfl) | (rw [if_neg (by decide +kernel)]; exact ⟨rfl, rfl⟩))
    (fun os started H enc _ F => lifted os started H enc F)

theorem proved : Rows.ParkNewUptoSaid :=
  over
end Go.Proofs.Ytppehoailhjdfaa.parkNew
