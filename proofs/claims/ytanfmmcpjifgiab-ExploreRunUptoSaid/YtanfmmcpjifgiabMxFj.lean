/-
  What is proved: plunderlaw22.ExploreRun returns true and leaves its arguments as they were, for every input. Condition: what it reads is of bulk at most 1048576.
-/
import Derived.Test.YtanfmmcpjifgiabMxFi
import Derived.Test.YtanfmmcpjifgiabMxEe
import Derived.Test.YtanfmmcpjifgiabMxV
import Derived.Test.YtanfmmcpjifgiabMb
import Derived.WalkKit
import Derived.ProofKit
import Derived.JoinedCond
namespace Go.Proofs.Ytanfmmcpjifgiab.exploreRun
open Go.ChangeShapes Go.WideShapes Go.ChangeAt Go.RowKit Go.Mx
set_option linter.unusedVariables false
set_option linter.unusedSimpArgs false
set_option maxRecDepth 100000

theorem own : ownKnob Try.prog.godebug = none := by kernel_rfl

theorem contains {s : Sl} {ls : List Int} {h : Heap} {Q : Bool → Heap → Prop} (ha : Arr h ki s ls) (hn : ls.length ≤ 1048576) (hQ : ∀ b : Bool, (b = true ↔ ∃ x ∈ ls, 0 < x) → Q b h) :
    CallT Try.prog 81 [Kd.val .sl s, Kd.val .fn (Value.func (.func 82) #[] #[])] false .bool h Q :=
  slices_ContainsFunc_int_int.br (contains_spec ha hn (f := Value.func (.func 82) #[] #[]) (cf := fun x0 x1 h K => FnT Try.prog x0 [Kd.val (.int .i64) x1] false .bool h K) (fun hq => FnT.of (f := 82) (by kernel_rfl) (explore_isScript_1.br hq)) slices_IndexFunc_int_int.br hQ)
theorem ready {s : Sc} {t : Sl} {h : Heap} {bs ps : List Int} {xss : List (List Ac)} (r : ScR h s bs xss) (hs : Small bs xss) (hp : Arr h ki t ps) (hn : ps.length ≤ 1048576) {Q : Int → Heap → Prop} (hQ : ∀ e h', Rdy s.1 bs.length xss ps e → le h h' → Q e h') :
    CallT Try.prog 47 [Kd.val kapiScene s, Kd.val .sl t] false ki h Q :=
  explore_ready.br (ready_spec r hs hp hn (fun q => explore_Check.br (check_spec r hs q)) (fun q => explore_isScript.br (isScript_spec r hs hp hn contains q)) hQ)
theorem reserve {h0 h : Heap} {b : Nat} {c l : Sl} {sz : Int} {cs : List Int} {lg : List Acc} {who : Int} {wt : Bool} (o : Ar h0 h b c l sz cs lg who wt) (hl : lg.length ≤ 1000000000) (hf : (cs.length : Int) ≤ sz) (hz : sz ≤ 1048576) {n : Int} {Q : Den K2 → Heap → Prop} (hC : n < 1 → Q (0, (21, ())) h) (hR : 1 ≤ n → sz - (cs.length : Int) < n → Q (0, (22, ())) h)
    (hQ : ∀ c' l' h', 1 ≤ n → n ≤ sz - (cs.length : Int) → Ar h0 h' b c' l' sz (cs ++ List.replicate n.toNat 0) (wl wt lg (who, (4, ((cs.length : Int), (n, (0, (true, ()))))))) who wt → Step (fpA b c l) (fpA b c' l') h h' → Q ((cs.length : Int), (0, ())) h') :
    CallT Try.prog 67 [Kd.val .ptr (some (ptr b)), Kd.val ki n] true K2 h Q :=
  cells_Arena_Reserve.br (reserve_spec o hl hf hz cells_ledger_refuse.br cells_ledger_take.br cells_Arena_note.br hC hR hQ)
theorem act {h0 h : Heap} {b : Nat} {c l : Sl} {sz : Int} {cs : List Int} (o : Ar h0 h b c l sz cs [] 0 false) (hf : (cs.length : Int) ≤ sz) (hz : sz ≤ 1048576) {x : Ac} (hx : badE x = false) {Q : Ef → Heap → Prop} (hQ : ∀ c' l' h', Ar h0 h' b c' l' sz (actP sz cs x).2 [] 0 false → Step (fpA b c l) (fpA b c' l') h h' → Q (actP sz cs x).1 h') :
    CallT Try.prog 69 [Kd.val .ptr (some (ptr b)), Kd.val kapiAct x] false kapiEffect h Q :=
  explore_act.br (act_spec o (by simp) hf hz cells_ledger_has.br (fun h => cells_Arena_outside.br h) cells_Arena_note.br cells_ledger_refuse.br cells_ledger_take.br cells_Arena_Load.br cells_Arena_Store.br cells_Arena_CAS.br cells_Arena_Add.br cells_Arena_Reserve.br hx hQ)
theorem play {h : Heap} {s : Sc} {t : Sl} {bs ps : List Int} {xss : List (List Ac)} (r : ScR h s bs xss) (hs : Small bs xss) (hp : Arr h ki t ps) (hn : ps.length ≤ 1048576) (hc : chkE s.1 bs.length xss = 0) (hS : ScriptP (xss.map List.length) ps) {Q : Den kapiEnding → Heap → Prop} (hQ : ∀ e h', EndR h h' e (playP s.1 bs xss ps) → Q e h') :
    CallT Try.prog 52 [Kd.val kapiScene s, Kd.val .sl t] false kapiEnding h Q :=
  explore_play.br (play_spec r hs hp hn hc hS (fun hz hq => cells_New.br (cnew_spec cells_good.br (fun q => absurd hz q) (fun _ => hq)))
    (fun {h0 h b c l sz n Q} o hz n1 n2 hq => reserve (cs := []) o (by simp) (by simp; omega) hz (fun e => absurd e (by omega)) (fun _ e => absurd e (by simp; omega)) (fun c' l' h' _ _ o' _ => hq _ c' l' h' (by rw [List.nil_append] at o'; exact o')))
    (fun o hb hq => cells_Arena_Store.br (store_spec o (by simp) cells_ledger_has.br (fun h => cells_Arena_outside.br h) cells_Arena_note.br (fun e => absurd hb e) (fun l' h' _ o' _ => hq _ l' h' o')))
    (fun a b c d e => act a b c d e) (fun o hn hq => cells_Arena_Cells.br (cells_spec o hn hq)) hQ)
theorem run {s : Sc} {t : Sl} {h : Heap} {bs ps : List Int} {xss : List (List Ac)} {Q : (Den kapiEnding × (Int × Unit)) → Heap → Prop} (r : ScR h s bs xss) (hs : Small bs xss) (hp : Arr h ki t ps) (hn : ps.length ≤ 1048576) (hQ : ∀ en e h', Rdy s.1 bs.length xss ps e → EndR h h' en (runP s.1 bs xss ps e) → Q (en, (e, ())) h') :
    CallT Try.prog 27 [Kd.val kapiScene s, Kd.val .sl t] true (.pair kapiEnding (.pair (.int .i64) .nil)) h Q :=
  explore_Run.br (run_spec (ready r hs hp hn) (fun l hc hS hq => play (r.le l) hs (hp.le l) hn hc hS hq) hQ)
theorem rrun {s : Sc} {t : Sl} {h : Heap} {bs ps : List Int} {xss : List (List Ac)} {Q : (Den kapiEnding × (Int × Unit)) → Heap → Prop} (r : ScR h s bs xss) (hs : Small bs xss) (hp : Arr h ki t ps) (hn : ps.length ≤ 1048576) (hQ : ∀ en e h', Rdy s.1 bs.length xss ps e → EndR h h' en (runP s.1 bs xss ps e) → Q (en, (e, ())) h') :
    CallT Try.prog 30 [Kd.val kapiScene s, Kd.val .sl t] true (.pair kapiEnding (.pair (.int .i64) .nil)) h Q :=
  ref22_Run.br (rrun_spec (fun q => ref22_Bad.br (bad_spec (fun q2 => ref22_Check.br (rcheck_spec r hs ref22_acts.br q2)) (fun hc q2 => ref22_Script.br (rscript_spec r hs hc hp hn (fun q3 => ref22_acts.br (acts_spec r hs q3)) q2)) q))
    (fun hc hS hq => ref22_play.br (rplay_spec r hp hn hc hS ref22_Row.br ref22_do.br hq)) hQ)

theorem call (s : Sc) (t : Sl) (W : World) (bs ps : List Int) (xss : List (List Ac)) (r : ScR (view W) s bs xss) (hs : Small bs xss) (hp : Arr (view W) ki t ps) (hn : ps.length ≤ 1048576) :
    CallT Try.prog 7 [Kd.val kapiScene s, Kd.val .sl t] false .bool (view W) fun b h' => b = true ∧ le (view W) h' :=
  law22_ExploreRun.br (exploreRun_spec r hs hp hn (fun h' l => ⟨rfl, l⟩) law22_copied.br law22_moved.br law22_turned.br run law22_back.br law22_written.br law22_effectsApart.br law22_cellsApart.br rrun
    (fun a b c d e q => law22_sameEnding.br (sameEnding_spec a b c d e law22_sameCells.br q)) (fun a b c d e => law22_alike.br (alike_spec a b c d law22_marked.br law22_sameCells.br e)) (fun a b c q => law22_kept.br (kept_spec a b c law22_same.br q)))

theorem contract (H : Type) (enc : TypeId × Value → H) (W : World) (base : Nat) (args : Array Value) (ds gs : List (DataW H)) (before : List MemPlace)
    (hval : ∀ (j : Nat) t v, Try.f7.params[j]? = some t → args[j]? = some v → Value.okWide Try.prog W .any base t v)
    (hW : DataW.Whole enc Try.prog Try.f7.params.toList Rows.exploreRunSpec.vars false W args.toList ds gs before) (hk : Rows.uptoSmall H (ds ++ gs) = true) :
    Calls Try.prog 7 args W fun e W' => ∃ v, e = .returned v ∧ Rows.exploreRunSpec.post enc Try.prog Try.f7 false true false false W args v W' := by
  have hW' := hW
  obtain ⟨p, q, hA, hV, rfl, hfz, hnd⟩ := hW
  obtain ⟨rfl, rfl⟩ := trodVars_none hV
  rw [List.append_nil] at hk
  have hB : Rows.uptoBulkAll ds ≤ 1048576 := of_decide_eq_true hk
  obtain ⟨es, e1, e2, e3⟩ := args_of (P := Try.prog) (base := base) (m := 6) (B := 1048576) (ts := Try.f7.params.toList) (ks := [kapiScene, .sl]) (by kernel_rfl) (fun j t v a b => hval j t v (by simpa using a) (by simpa using b)) hA hB
  rcases es with _ | ⟨⟨k1, x1⟩, _ | ⟨⟨k2, x2⟩, _ | ⟨_, _⟩⟩⟩
  · cases e1
  · cases e1
  · simp only [List.map_cons, List.map_nil, List.cons.injEq, and_true] at e1
    obtain ⟨rfl, rfl⟩ := e1
    rw [Try.params7] at e3 hA
    obtain ⟨f1, f2, _⟩ := e3
    obtain ⟨bs, xss, g1, g2⟩ := DataOf.scene (m := 3) f1 (by kernel_rfl) (by kernel_rfl) (by kernel_rfl) (by kernel_rfl)
    obtain ⟨ps, g3, g4, _⟩ := f2.arr (ke := ki) (by kernel_rfl)
    obtain ⟨v0, vs0, d0, ds0, p0, q0, _, rfl, _, _, r0⟩ := trodAll_cons hA
    obtain ⟨v1, vs1, d1, ds1, p1, q1, _, rfl, _, _, r1⟩ := trodAll_cons r0
    obtain ⟨_, rfl, _⟩ := trodAll_nil r1
    refine law_post (bT := Try.f7.resultTypes.getD 0 0) (by kernel_rfl) (by kernel_rfl) (by kernel_rfl) rfl (by kernel_rfl) hW' (fun _ => ⟨rfl, rfl, rfl⟩) ?_
    rw [e2]
    exact call x1 x2 W bs ps xss g1 g2 g3 (by rw [g3.1]; exact g4)
  · cases e1

theorem lifted (os : Os) (started : os.Started) (H : Type) (enc : TypeId × Value → H) (F : Stop.Interp) :
    ReturnsInHanded {} Try.checked os 7 .any ((Rows.OpenSpec.upto Rows.exploreRunSpec).pre6 enc Try.prog Try.f7 Rows.exploreRunUptoRow.domain false) (((Rows.OpenSpec.upto Rows.exploreRunSpec).at F).post enc Try.prog Try.f7 false true false false) := by
  refine returnsInHanded_of_cond (C := Try.checked) (s := Rows.OpenSpec.upto Rows.exploreRunSpec) (k := Rows.uptoSmall) rfl own started (by kernel_rfl) Try.func7
    (OpenSpec.witness (enc := enc) (C := Try.checked) (s := Rows.OpenSpec.upto Rows.exploreRunSpec) (k := Rows.uptoSmall) rfl false ⟨#[], #[.agg #[.int .i64 0, .slice none 0 0, .slice none 0 0], .slice none 0 0], []⟩ 8 (by kernel_rfl) (by kernel_rfl) (by kernel_rfl)
      (x := ([.agg [.lit (.int .i64 0), .nil, .nil], .nil], [], [])) (by kernel_rfl) rfl (by kernel_rfl)) ?_
  intro W base args ds gs before hval hW _ hk _
  exact contract H enc W base args ds gs before hval hW hk

theorem over : Rows.exploreRunUptoRow.holds Try.pinned (Rows.OpenSpec.upto Rows.exploreRunSpec) :=
  OpenClaim.holds_of_cond 7 Try.f7 rfl rfl rfl rfl rfl rfl rfl ⟨rfl, rfl, rfl, rfl, rfl⟩ rfl rfl rfl rfl rfl (by kernel_rfl) Try.func7 (by kernel_rfl)
    (of_decide_eq_true (by kernel_rfl)) (by unfold Func.isWrapper; first | (rw [if_pos (by decide +kernel)]; kernel_rfl) | (rw [if_neg (by decide +kernel)]; exact ⟨rfl, rfl⟩))
    (fun os started H enc _ F => lifted os started H enc F)

theorem proved : Rows.ExploreRunUptoSaid :=
  over
end Go.Proofs.Ytanfmmcpjifgiab.exploreRun
