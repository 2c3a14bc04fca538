/-
  What is proved: plunderlaw3.DequeNew returns true and leaves its arguments as they were, for every input. Condition: what it reads is of bulk at most 1048576.
-/
import Derived.Test.YtppehoailhjdfaaMxDb
import Derived.Test.YtppehoailhjdfaaMxV
import Derived.Test.YtppehoailhjdfaaMb
import Derived.WalkKit
import Derived.ProofKit
import Derived.JoinedCond
namespace Go.Proofs.Ytppehoailhjdfaa.dequeNew
open Go.ChangeShapes Go.WideShapes Go.ChangeAt Go.RowKit Go.Mx
set_option linter.unusedVariables false
set_option linter.unusedSimpArgs false
set_option maxRecDepth 100000

theorem own : ownKnob Try.prog.godebug = none := by kernel_rfl

theorem reserve {h0 h : Heap} {b : Nat} {c l : Sl} {sz : Int} {cs : List Int} {lg : List Acc} {who : Int} {wt : Bool} (o : Ar h0 h b c l sz cs lg who wt) (hl : lg.length ≤ 1000000000) (hf : (cs.length : Int) ≤ sz) (hz : sz ≤ 1048576) {n : Int} {Q : Den K2 → Heap → Prop} (hC : n < 1 → Q (0, (21, ())) h) (hR : 1 ≤ n → sz - (cs.length : Int) < n → Q (0, (22, ())) h)
    (hQ : ∀ c' l' h', 1 ≤ n → n ≤ sz - (cs.length : Int) → Ar h0 h' b c' l' sz (cs ++ List.replicate n.toNat 0) (wl wt lg (who, (4, ((cs.length : Int), (n, (0, (true, ()))))))) who wt → Step (fpA b c l) (fpA b c' l') h h' → Q ((cs.length : Int), (0, ())) h') :
    CallT Try.prog 52 [Kd.val .ptr (some (ptr b)), Kd.val ki n] true K2 h Q :=
  cells_Arena_Reserve.br (reserve_spec o hl hf hz cells_ledger_refuse.br cells_ledger_take.br cells_Arena_note.br hC hR hQ)
theorem store {h0 h : Heap} {b : Nat} {c l : Sl} {sz : Int} {cs : List Int} {lg : List Acc} {who : Int} {wt : Bool} (o : Ar h0 h b c l sz cs lg who wt) (hl : lg.length ≤ 1000000000) {addr v : Int} {Q : Int → Heap → Prop} (hE : ¬ (0 ≤ addr ∧ addr < (cs.length : Int)) → Q 20 h)
    (hQ : ∀ l' h', 0 ≤ addr ∧ addr < (cs.length : Int) → Ar h0 h' b c l' sz (cs.set addr.toNat v) (wl wt lg (who, (1, (addr, (v, (0, (true, ()))))))) who wt → Step (fpA b c l) (fpA b c l') h h' → Q 0 h') :
    CallT Try.prog 53 [Kd.val .ptr (some (ptr b)), Kd.val ki addr, Kd.val ki v] false ki h Q :=
  cells_Arena_Store.br (store_spec o hl cells_ledger_has.br (fun h => cells_Arena_outside.br h) cells_Arena_note.br hE hQ)
theorem arena {h : Heap} {size : Int} {s : Sl} {bs : List Int} {Q : (Option Addr × (Bool × Unit)) → Heap → Prop} (ha : Arr h ki s bs) (h0 : 0 ≤ size) (h1 : size ≤ 1048576) (hb : (bs.length : Int) ≤ size) (hQ : ∀ b c l h', Ar h h' b c l size bs [] 0 true → Q (some (ptr b), (true, ())) h') :
    CallT Try.prog 20 [Kd.val ki size, Kd.val .sl s] true (.pair .ptr (.pair .bool .nil)) h Q :=
  law3_arena.br (arena3 (arena_spec ha h0 h1 hb (fun hq => cells_New.br (cnew_spec cells_good.br (fun q => absurd ⟨h0, h1⟩ q) (fun _ => hq))) (fun o a b c d e => reserve o a b h1 c d e) (fun o a b c => store o a b c) cells_Arena_Watch.br hQ))
theorem dnew {h0 h : Heap} {b : Nat} {c l : Sl} {sz low most : Int} {cs : List Int} {Q : (Den K2 × (Int × Unit)) → Heap → Prop} (o : Ar h0 h b c l sz cs [] 0 true) (hf : (cs.length : Int) ≤ sz) (hz : sz ≤ 1048576)
    (hQ : ∀ c' l' h', Ar h0 h' b c' l' sz (dqC sz low most cs) (dqL sz low most cs [] 0) 0 true → Step (fpA b c l) (fpA b c' l') h h' → Q (dqR sz low most cs) h') :
    CallT Try.prog 21 [Kd.val .iface (.iface 24 (.pointer (some (ptr b)))), Kd.val ki low, Kd.val ki most] true (.pair K2 (.pair ki .nil)) h Q :=
  deque_New.br (dnew_spec (v := .iface 24 (.pointer (some (ptr b)))) o (by simp) hf hz trivial rfl deque_capsOK.br (fun c d e => InvT.of (f := 52) (by kernel_rfl) (reserve o (by simp) hf hz c d e))
    (fun o a b c => InvT.of (f := 53) (by kernel_rfl) (store o a b c)) hQ)
theorem dnil {h : Heap} {a w : Int} {Q : (Den K2 × (Int × Unit)) → Heap → Prop} (hQ : Q ((0, (0, ())), (1, ())) h) :
    CallT Try.prog 21 [Kd.val .iface .nilIface, Kd.val ki a, Kd.val ki w] true (.pair K2 (.pair ki .nil)) h Q :=
  deque_New.br ⟨trivial, fun _ => hQ, fun e => (by cases e)⟩
theorem rdnew {h0 h : Heap} {b : Nat} {c l : Sl} {sz low most : Int} {cs : List Int} {Q : (Den K2 × (Int × Unit)) → Heap → Prop} (o : MmS h0 h b c l sz cs [] 0) (hf : (cs.length : Int) ≤ sz) (hz : sz ≤ 1048576)
    (hQ : ∀ c' l' h', MmS h0 h' b c' l' sz (dqC sz low most cs) (dqL sz low most cs [] 0) 0 → Step (fpA b c l) (fpA b c' l') h h' → Q (dqR sz low most cs) h') :
    CallT Try.prog 22 [Kd.val .ptr (some (ptr b)), Kd.val ki low, Kd.val ki most] true (.pair K2 (.pair ki .nil)) h Q :=
  ref3_New.br (rdnew_spec o (by simp) hf hz ref3_CapOK.br ref3_Mem_Do.br ref3_store.br hQ)
theorem deny {h0 h : Heap} {d b : Nat} {c l : Sl} {n low : Int} {Q : (Den K2 × (Int × Unit)) → Heap → Prop} (n0 : 0 ≤ n) (n3 : n ≤ 3) (q1 : 1 ≤ low) (q2 : low ≤ 5) (o : DnS h0 h d b c l 40 n 0 [] [])
    (hE : n < 3 → ∀ h', le h0 h' → Go.Mx.Obj h' d KDn (some (ptr b), (n, (n + 1, ()))) → Q ((0, (0, ())), (77, ())) h') (hQ : n = 3 → ∀ h', le h0 h' → Go.Mx.Obj h' d KDn (some (ptr b), (n, (3, ()))) → Q ((0, (2 * low, ())), (0, ())) h') :
    CallT Try.prog 21 [Kd.val .iface (.iface 131 (.pointer (some (ptr d)))), Kd.val ki low, Kd.val ki (2 * low)] true (.pair K2 (.pair ki .nil)) h Q :=
  deque_New.br (deny_spec (v := .iface 131 (.pointer (some (ptr d)))) n0 n3 q1 q2 o trivial rfl deque_capsOK.br
    (fun o k0 k1 hl m0 m1 hf hR hQ => InvT.of (f := 133) (by kernel_rfl) (law3_Deny_Reserve.br (dnRes_spec o k0 k1 hl law3_Deny_refuses.br m0 m1 hf (by decide) (fun a hq => reserve a (by omega) hf (by decide) (fun e => absurd e (by omega)) (fun _ e => absurd e (by omega)) (fun c' l' h' _ _ a' s' => hq c' l' h' a' s')) hR hQ)))
    (fun o k0 k1 hl m0 m1 hR hQ => InvT.of (f := 134) (by kernel_rfl) (law3_Deny_Store.br (dnSto_spec o k0 k1 hl law3_Deny_refuses.br m0 m1 (fun a hq => store a (by omega) (fun e => absurd ⟨m0, m1⟩ e) (fun l' h' _ a' s' => hq l' h' a' s')) hR hQ))) hE hQ)
theorem stops {h : Heap} {a : Int} {Q : Bool → Heap → Prop} (hQ : ∀ h', le h h' → Q true h') : CallT Try.prog 25 [Kd.val ki a] false .bool h Q :=
  law3_stops.br (stops_spec law3_mod.br (fun hq => arena (bs := []) ⟨rfl, Nat.le_refl _, rfl⟩ (by decide) (by decide) (by decide) hq) deny hQ)

theorem call (size : Int) (s : Sl) (first most : Int) (W : World) (bs : List Int) (ha : Arr (view W) ki s bs) (hcap : s.len ≤ s.cap) :
    CallT Try.prog 4 [Kd.val (.int .i64) size, Kd.val .sl s, Kd.val (.int .i64) first, Kd.val (.int .i64) most] false .bool (view W) fun b h' => b = true ∧ le (view W) h' :=
  law3_DequeNew.br (dequeNew_spec ha hcap law3_mod.br arena dnew dnil rdnew cells_Arena_Cells.br law3_sameInts.br cells_Arena_Log.br law3_sameLog.br stops (fun p q => deque_Cells.br (dcells_spec deque_capsOK.br p q)) (fun p q => ref3_Cells.br (rcells3_spec ref3_CapOK.br p q)) (fun h' l => ⟨rfl, l⟩))

theorem contract (H : Type) (enc : TypeId × Value → H) (W : World) (base : Nat) (args : Array Value) (ds gs : List (DataW H)) (before : List MemPlace)
    (hval : ∀ (j : Nat) t v, Try.f4.params[j]? = some t → args[j]? = some v → Value.okWide Try.prog W .any base t v)
    (hW : DataW.Whole enc Try.prog Try.f4.params.toList Rows.dequeNewSpec.vars false W args.toList ds gs before) (hk : Rows.uptoSmall H (ds ++ gs) = true) :
    Calls Try.prog 4 args W fun e W' => ∃ v, e = .returned v ∧ Rows.dequeNewSpec.post enc Try.prog Try.f4 false true false false W args v W' := by
  have hW' := hW
  obtain ⟨p, q, hA, hV, rfl, hfz, hnd⟩ := hW
  obtain ⟨rfl, rfl⟩ := trodVars_none hV
  rw [List.append_nil] at hk
  have hB : Rows.uptoBulkAll ds ≤ 1048576 := of_decide_eq_true hk
  obtain ⟨es, e1, e2, e3⟩ := args_of (P := Try.prog) (base := base) (m := 3) (B := 1048576) (ts := Try.f4.params.toList) (ks := [.int .i64, .sl, .int .i64, .int .i64]) (by kernel_rfl) (fun j t v a b => hval j t v (by simpa using a) (by simpa using b)) hA hB
  rcases es with _ | ⟨⟨k1, x1⟩, _ | ⟨⟨k2, x2⟩, _ | ⟨⟨k3, x3⟩, _ | ⟨⟨k4, x4⟩, _ | ⟨_, _⟩⟩⟩⟩⟩
  · cases e1
  · cases e1
  · cases e1
  · cases e1
  · simp only [List.map_cons, List.map_nil, List.cons.injEq, and_true] at e1
    obtain ⟨rfl, rfl, rfl, rfl⟩ := e1
    rw [Try.params4] at e3 hA
    obtain ⟨f1, f2, f3, f4, _⟩ := e3
    obtain ⟨xs, g1, _, g3, _⟩ := f2.arr (ke := ki) (by kernel_rfl)
    obtain ⟨v0, vs0, d0, ds0, p0, q0, _, rfl, _, _, r0⟩ := trodAll_cons hA
    obtain ⟨v1, vs1, d1, ds1, p1, q1, _, rfl, _, _, r1⟩ := trodAll_cons r0
    obtain ⟨v2, vs2, d2, ds2, p2, q2, _, rfl, _, _, r2⟩ := trodAll_cons r1
    obtain ⟨v3, vs3, d3, ds3, p3, q3, _, rfl, _, _, r3⟩ := trodAll_cons r2
    obtain ⟨_, rfl, _⟩ := trodAll_nil r3
    refine law_post (bT := Try.f4.resultTypes.getD 0 0) (by kernel_rfl) (by kernel_rfl) (by kernel_rfl) rfl (by kernel_rfl) hW' (fun _ => ⟨rfl, rfl, rfl⟩) ?_
    rw [e2]
    exact call x1 x2 x3 x4 W xs g1 g3
  · cases e1

theorem lifted (os : Os) (started : os.Started) (H : Type) (enc : TypeId × Value → H) (F : Stop.Interp) :
    ReturnsInHanded {} Try.checked os 4 .any ((Rows.OpenSpec.upto Rows.dequeNewSpec).pre6 enc Try.prog Try.f4 Rows.dequeNewUptoRow.domain false) (((Rows.OpenSpec.upto Rows.dequeNewSpec).at F).post enc Try.prog Try.f4 false true false false) := by
  refine returnsInHanded_of_cond (C := Try.checked) (s := Rows.OpenSpec.upto Rows.dequeNewSpec) (k := Rows.uptoSmall) rfl own started (by kernel_rfl) Try.func4
    (OpenSpec.witness (enc := enc) (C := Try.checked) (s := Rows.OpenSpec.upto Rows.dequeNewSpec) (k := Rows.uptoSmall) rfl false ⟨#[], #[.int .i64 0, .slice none 0 0, .int .i64 0, .int .i64 0], []⟩ 8 (by kernel_rfl) (by kernel_rfl) (by kernel_rfl)
      (x := ([.lit (.int .i64 0), .nil, .lit (.int .i64 0), .lit (.int .i64 0)], [], [])) (by kernel_rfl) rfl (by kernel_rfl)) ?_
  intro W base args ds gs before hval hW _ hk _
  exact contract H enc W base args ds gs before hval hW hk

theorem over : Rows.dequeNewUptoRow.holds Try.pinned (Rows.OpenSpec.upto Rows.dequeNewSpec) :=
  OpenClaim.holds_of_cond 4 Try.f4 rfl rfl rfl rfl rfl rfl rfl ⟨rfl, rfl, rfl, rfl, rfl⟩ rfl rfl rfl rfl rfl (by kernel_rfl) Try.func4 (by kernel_rfl)
    (of_decide_eq_true (by kernel_rfl)) (by unfold Func.isWrapper; first | (rw [if_pos (by decide +kernel)]; kernel_rfl) | (rw [if_neg (by decide +kernel)]; exact ⟨rfl, rfl⟩))
    (fun os started H enc _ F => lifted os started H enc F)

theorem proved : Rows.DequeNewUptoSaid :=
  over
end Go.Proofs.Ytppehoailhjdfaa.dequeNew
