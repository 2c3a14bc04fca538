/-
  The buffers' calls, joined.
-/
import Derived.Test.YtppehoailhjdfabMxBi
import Derived.Test.YtppehoailhjdfabMxV
import Derived.Test.YtppehoailhjdfabMb
set_option linter.unusedVariables false
set_option linter.unusedSimpArgs false
set_option maxRecDepth 100000
namespace Go.Mx
open Go.Proofs

theorem choose_listB {α β : Type} {R : α → β → Prop} : ∀ (l : List α), (∀ y ∈ l, ∃ x, R y x) → ∃ xs : List β, l.length = xs.length ∧ ∀ (i : Nat) y x, l[i]? = some y → xs[i]? = some x → R y x
  | [], _ => ⟨[], rfl, fun i y x h => by simp at h⟩
  | a :: l, h => by
    obtain ⟨x, hx⟩ := h a (by simp)
    obtain ⟨xs, h1, h2⟩ := choose_listB l fun y hy => h y (by simp [hy])
    refine ⟨x :: xs, by simp [h1], fun i y z => ?_⟩
    cases i with
    | zero => simp; rintro rfl rfl; exact hx
    | succ i => simpa using h2 i y z
theorem DataOf.arr2 {P : Program} {W : World} {B m : Nat} {T : TypeId} {ke : Kd} {s : Sl} (h : DataOf P W B (m + 1 + 1) T .sl s) (h1 : elemKd P T = some .sl) (h2 : elemKd P (elemT P T) = some ke) :
    ∃ xss : List (List (Den ke)), Arr2 (view W) ke s xss ∧ xss.length ≤ B ∧ ∀ xs ∈ xss, xs.length ≤ B := by
  obtain ⟨sls, a1, a2, _, _, _, a3⟩ := h.arr h1
  obtain ⟨xss, c1, c2⟩ := choose_listB (R := fun (y : Sl) (xs : List (Den ke)) => Arr (view W) ke y xs ∧ xs.length ≤ B) sls fun y hy => by
    obtain ⟨xs, b1, b2, _⟩ := (a3 y hy).arr h2
    exact ⟨xs, b1, by rw [b1.1]; exact b2⟩
  refine ⟨xss, ⟨sls, a1, c1, fun i sl xs p q => (c2 i sl xs p q).1⟩, by rw [← c1, a1.1]; exact a2, fun xs hx => ?_⟩
  obtain ⟨i, hi⟩ := List.mem_iff_getElem?.1 hx
  have hlt : i < sls.length := by rw [c1]; exact (List.getElem?_eq_some_iff.1 hi).1
  exact (c2 i sls[i] xs (by simp [hlt]) hi).2

theorem whoJ : WhoC fun x0 x1 h K => CallT Try.prog 76 [Kd.val .ptr x0, Kd.val (.int .i64) x1] true .nil h K := fun o q => cells_Arena_Who.br (who_spec o q)
theorem watchJ : WatchC fun x0 x1 h K => CallT Try.prog 50 [Kd.val .ptr x0, Kd.val .bool x1] true .nil h K := fun o q => cells_Arena_Watch.br (watch_spec o q)
theorem sizeJ : NumC (fun sz _ => sz) fun x0 h K => CallT Try.prog 84 [Kd.val .ptr x0] false (.int .i64) h K := fun o q => cells_Arena_Size.br ⟨fun e => (by cases e), fun _ => cells_ledger_Size.br ⟨fun e => (by cases e), fun _ => o.ld0 q⟩⟩
theorem markJ : NumC (fun _ n => n) fun x0 h K => CallT Try.prog 85 [Kd.val .ptr x0] false (.int .i64) h K := fun o q => cells_Arena_Mark.br ⟨fun e => (by cases e), fun _ => cells_ledger_Mark.br ⟨fun e => (by cases e), fun _ => o.ld1 q⟩⟩
theorem loadJ : LoadC fun x0 x1 h K => CallT Try.prog 81 [Kd.val .ptr x0, Kd.val (.int .i64) x1] true K2 h K := fun o hl hi q => cells_Arena_Load.br (load_spec o hl cells_ledger_has.br (fun h => cells_Arena_outside.br h) cells_Arena_note.br (fun e => absurd hi e) fun v l' h' a _ b s => q v l' h' a b s)
theorem storeJ : StoreC fun x0 x1 x2 h K => CallT Try.prog 77 [Kd.val .ptr x0, Kd.val (.int .i64) x1, Kd.val (.int .i64) x2] false (.int .i64) h K := fun o hl hi q => cells_Arena_Store.br (store_spec o hl cells_ledger_has.br (fun h => cells_Arena_outside.br h) cells_Arena_note.br (fun e => absurd hi e) fun l' h' _ b s => q l' h' b s)
theorem casJ : CasC fun x0 x1 x2 x3 h K => CallT Try.prog 82 [Kd.val .ptr x0, Kd.val (.int .i64) x1, Kd.val (.int .i64) x2, Kd.val (.int .i64) x3] true (.pair .bool (.pair (.int .i64) .nil)) h K := fun o hl hi q => cells_Arena_CAS.br (cas_spec o hl cells_ledger_has.br (fun h => cells_Arena_outside.br h) cells_Arena_note.br (fun e => absurd hi e) fun v l' h' a _ b s => q v l' h' a b s)
theorem addJ : AddC fun x0 x1 x2 h K => CallT Try.prog 83 [Kd.val .ptr x0, Kd.val (.int .i64) x1, Kd.val (.int .i64) x2] true K2 h K := fun o hl hi q => cells_Arena_Add.br (add_spec o hl cells_ledger_has.br (fun h => cells_Arena_outside.br h) cells_Arena_note.br (fun e => absurd hi e) fun v l' h' a _ b s => q v l' h' a b s)
theorem resJ : ResC fun x0 x1 h K => CallT Try.prog 86 [Kd.val .ptr x0, Kd.val (.int .i64) x1] true K2 h K := fun o hl hf hz h1 h2 q => cells_Arena_Reserve.br (reserve_spec o hl hf hz cells_ledger_refuse.br cells_ledger_take.br cells_Arena_note.br (fun e => absurd e (by omega)) (fun _ e => absurd e (by omega)) fun c' l' h' _ _ b s => q c' l' h' b s)
theorem acellsJ : ACellsC ki (fun x0 h K => CallT Try.prog 56 [Kd.val .ptr x0] false .sl h K) fun cs _ => cs := fun o hc _ q => cells_Arena_Cells.br (cells_spec o hc q)
theorem alogJ : ACellsC KAcc (fun x0 h K => CallT Try.prog 57 [Kd.val .ptr x0] false .sl h K) fun _ lg => lg := fun o _ hl q => cells_Arena_Log.br (log_spec o hl q)
theorem anewJ : ANewC fun x0 h K => CallT Try.prog 49 [Kd.val (.int .i64) x0] true KPl h K := fun hE hQ => cells_New.br (cnew_spec cells_good.br hE hQ)

theorem hasJ : HasC fun x0 x1 h K => CallT Try.prog 75 [Kd.val .ptr x0, Kd.val (.int .i64) x1] false .bool h K := fun R q => buffers_Memory_has.br (hasM_spec R q)
theorem viewJ : ViewC fun x0 x1 h K => CallT Try.prog 39 [Kd.val .ptr x0, Kd.val (.int .i64) x1] false .ptr h K := fun a b c d => buffers_Memory_View.br (view_spec hasJ a b c d)
theorem flushJ : FlushC fun x0 x1 h K => CallT Try.prog 40 [Kd.val .ptr x0, Kd.val (.int .i64) x1] false .bool h K := fun a b c d e => buffers_Memory_Flush.br (flush_spec hasJ whoJ storeJ a b c d e)
theorem drainJ : DrainC fun x0 x1 h K => CallT Try.prog 78 [Kd.val .ptr x0, Kd.val (.int .i64) x1] true .nil h K := fun a b c d e => buffers_Memory_drain.br (drain_spec flushJ a b c d e)
theorem waitJ : WaitC fun x0 x1 h K => CallT Try.prog 41 [Kd.val .ptr x0, Kd.val (.int .i64) x1] false .sl h K := fun a b c d => buffers_Memory_Waiting.br (waiting_spec hasJ a b c d)
theorem cellsJ : CellsC fun x0 h K => CallT Try.prog 16 [Kd.val .ptr x0] false .sl h K := fun a b c d => buffers_Memory_Cells.br (bcells_spec acellsJ a b c d)
theorem logJ : LogC fun x0 h K => CallT Try.prog 18 [Kd.val .ptr x0] false .sl h K := fun a b c d => buffers_Memory_Log.br (blog_spec alogJ a b c d)
theorem vnoneJ : VNoneC fun x0 x1 h K => CallT Try.prog 79 [Kd.val .ptr x0, Kd.val (.int .i64) x1] false .bool h K := fun a b c d e => buffers_View_none.br (vnone_spec markJ a b c d e)
theorem placeJ : PlC fun x0 h K => CallT Try.prog 80 [Kd.val KPl x0] false .ptr h K := fun o q => buffers_place_cells.br (place_spec whoJ o q)
theorem vloadJ : VLoadC fun x0 x1 h K => CallT Try.prog 43 [Kd.val .ptr x0, Kd.val (.int .i64) x1] true K2 h K := fun a b c d e => buffers_View_Load.br (vload_spec vnoneJ placeJ loadJ a b c d e)
theorem vstoreJ : VStoreC fun x0 x1 x2 h K => CallT Try.prog 44 [Kd.val .ptr x0, Kd.val (.int .i64) x1, Kd.val (.int .i64) x2] false (.int .i64) h K := fun a b c d e => buffers_View_Store.br (vstore_spec vnoneJ flushJ a b c d e)
theorem vcasJ : VCasC fun x0 x1 x2 x3 h K => CallT Try.prog 45 [Kd.val .ptr x0, Kd.val (.int .i64) x1, Kd.val (.int .i64) x2, Kd.val (.int .i64) x3] true (.pair .bool (.pair (.int .i64) .nil)) h K := fun a b c d e => buffers_View_CAS.br (vcas_spec vnoneJ drainJ placeJ casJ a b c d e)
theorem vaddJ : VAddC fun x0 x1 x2 h K => CallT Try.prog 46 [Kd.val .ptr x0, Kd.val (.int .i64) x1, Kd.val (.int .i64) x2] true K2 h K := fun a b c d e => buffers_View_Add.br (vadd_spec vnoneJ drainJ placeJ addJ a b c d e)
theorem vresJ : VResC fun x0 x1 h K => CallT Try.prog 47 [Kd.val .ptr x0, Kd.val (.int .i64) x1] true K2 h K := fun a b c d e => buffers_View_Reserve.br (vres_spec sizeJ markJ drainJ placeJ resJ a b c d e)
theorem vfenceJ : VFenceC fun x0 h K => CallT Try.prog 42 [Kd.val .ptr x0] true .nil h K := fun a b c d e => buffers_View_Fence.br (vfence_spec drainJ a b c d e)
theorem bnewJ : BNewC fun x0 x1 x2 h K => CallT Try.prog 12 [Kd.val (.int .i64) x0, Kd.val (.int .i64) x1, Kd.val (.int .i64) x2] true KPl h K := fun a b c => buffers_New.br (bnew_spec anewJ watchJ a b c)

end Go.Mx
