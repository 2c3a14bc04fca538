/-
  The bridges: a function's calls, by what it comes to over abstract heaps: printed by a program of this workplace.
-/
import Derived.Test.YtppehoailhjdfaaMd
import Derived.Test.YtppehoailhjdfaaProg
set_option linter.unusedVariables false
set_option maxRecDepth 100000
namespace Go.Mx
open Go.Proofs
theorem law9_ParkNew.br {size1 : Int} {begin2 : Sl} {workers3 : Int} {h : Heap} {Q : Bool → Heap → Prop} (H : law9_ParkNew.M (fun x0 x1 h K => CallT Try.prog 9 [Kd.val (.int .i64) x0, Kd.val (.int .i64) x1] false (.int .i64) h K) (fun x0 x1 h K => CallT Try.prog 10 [Kd.val (.int .i64) x0, Kd.val .sl x1] true (.pair .ptr (.pair .bool .nil)) h K) (fun x0 x1 h K => CallT Try.prog 11 [Kd.val .iface x0, Kd.val (.int .i64) x1] true (.pair kparkLot (.pair (.int .i64) .nil)) h K) (fun x0 x1 h K => CallT Try.prog 12 [Kd.val .ptr x0, Kd.val (.int .i64) x1] true (.pair kparkLot (.pair (.int .i64) .nil)) h K) (fun x0 h K => CallT Try.prog 14 [Kd.val .ptr x0] false .sl h K) (fun x0 x1 h K => CallT Try.prog 13 [Kd.val .sl x0, Kd.val .sl x1] false .bool h K) (fun x0 h K => CallT Try.prog 16 [Kd.val .ptr x0] false .sl h K) (fun x0 x1 h K => CallT Try.prog 15 [Kd.val .sl x0, Kd.val .sl x1] false .bool h K) (fun x0 h K => CallT Try.prog 17 [Kd.val (.int .i64) x0] false (.int .i64) h K) (fun x0 h K => CallT Try.prog 18 [Kd.val (.int .i64) x0] false (.int .i64) h K) size1 begin2 workers3 h Q) :
    CallT Try.prog 3 [Kd.val (.int .i64) size1, Kd.val .sl begin2, Kd.val (.int .i64) workers3] false .bool h Q :=
  fn_sound2 (c := weave (Try.f3.body.getD .skip) law9_ParkNew.mk) Try.func3 (by kernel_rfl) Try.ntmps3 (rs := [.tmp 6]) (by kernel_rfl) [⟨(.int .i64), size1⟩, ⟨.sl, begin2⟩, ⟨(.int .i64), workers3⟩] (by kernel_rfl) (by kernel_rfl) (by kernel_rfl) (by kernel_rfl) H

theorem law3_DequeNew.br {size1 : Int} {begin2 : Sl} {first3 : Int} {most4 : Int} {h : Heap} {Q : Bool → Heap → Prop} (H : law3_DequeNew.M (fun x0 x1 h K => CallT Try.prog 19 [Kd.val (.int .i64) x0, Kd.val (.int .i64) x1] false (.int .i64) h K) (fun x0 x1 h K => CallT Try.prog 20 [Kd.val (.int .i64) x0, Kd.val .sl x1] true (.pair .ptr (.pair .bool .nil)) h K) (fun x0 x1 x2 h K => CallT Try.prog 21 [Kd.val .iface x0, Kd.val (.int .i64) x1, Kd.val (.int .i64) x2] true (.pair kparkLot (.pair (.int .i64) .nil)) h K) (fun x0 x1 x2 h K => CallT Try.prog 22 [Kd.val .ptr x0, Kd.val (.int .i64) x1, Kd.val (.int .i64) x2] true (.pair kparkLot (.pair (.int .i64) .nil)) h K) (fun x0 h K => CallT Try.prog 14 [Kd.val .ptr x0] false .sl h K) (fun x0 x1 h K => CallT Try.prog 23 [Kd.val .sl x0, Kd.val .sl x1] false .bool h K) (fun x0 h K => CallT Try.prog 16 [Kd.val .ptr x0] false .sl h K) (fun x0 x1 h K => CallT Try.prog 24 [Kd.val .sl x0, Kd.val .sl x1] false .bool h K) (fun x0 h K => CallT Try.prog 25 [Kd.val (.int .i64) x0] false .bool h K) (fun x0 x1 h K => CallT Try.prog 26 [Kd.val (.int .i64) x0, Kd.val (.int .i64) x1] false (.int .i64) h K) (fun x0 x1 h K => CallT Try.prog 27 [Kd.val (.int .i64) x0, Kd.val (.int .i64) x1] false (.int .i64) h K) size1 begin2 first3 most4 h Q) :
    CallT Try.prog 4 [Kd.val (.int .i64) size1, Kd.val .sl begin2, Kd.val (.int .i64) first3, Kd.val (.int .i64) most4] false .bool h Q :=
  fn_sound2 (c := weave (Try.f4.body.getD .skip) law3_DequeNew.mk) Try.func4 (by kernel_rfl) Try.ntmps4 (rs := [.tmp 8]) (by kernel_rfl) [⟨(.int .i64), size1⟩, ⟨.sl, begin2⟩, ⟨(.int .i64), first3⟩, ⟨(.int .i64), most4⟩] (by kernel_rfl) (by kernel_rfl) (by kernel_rfl) (by kernel_rfl) H

theorem law3_DequeMicro.e1 {Q : Bool → Heap → Prop} (s : (Int × Den kref3Mem)) (h : Heap) : law3_DequeMicro.k7 (fun x0 x1 h K => CallT Try.prog 19 [Kd.val (.int .i64) x0, Kd.val (.int .i64) x1] false (.int .i64) h K) (fun x0 x1 h K => CallT Try.prog 20 [Kd.val (.int .i64) x0, Kd.val .sl x1] true (.pair .ptr (.pair .bool .nil)) h K) (fun x0 x1 x2 h K => CallT Try.prog 28 [Kd.val klaw3Move x0, Kd.val (.int .i64) x1, Kd.val (.int .i64) x2] true (.pair kdequeOp (.pair kref3Op .nil)) h K) (fun x0 x1 h K => CallT Try.prog 29 [Kd.val .ptr x0, Kd.val (.int .i64) x1] true .nil h K) (fun x0 x1 h K => CallT Try.prog 30 [Kd.val .iface x0, Kd.val kdequeOp x1] false kdequeOp h K) (fun x0 x1 h K => CallT Try.prog 31 [Kd.val .ptr x0, Kd.val kref3Op x1] false kref3Op h K) (fun x0 h K => CallT Try.prog 32 [Kd.val kref3Op x0] false kref3Want h K) (fun x0 h K => CallT Try.prog 33 [Kd.val (.int .i64) x0] true (.pair .ptr (.pair (.int .i64) .nil)) h K) (fun x0 h K => CallT Try.prog 34 [Kd.val kdequeOp x0] true kparkLot h K) (fun x0 h K => CallT Try.prog 35 [Kd.val kref3Op x0] true kparkLot h K) (fun x0 h K => CallT Try.prog 14 [Kd.val .ptr x0] false .sl h K) (fun x0 x1 h K => CallT Try.prog 23 [Kd.val .sl x0, Kd.val .sl x1] false .bool h K) (fun x0 h K => CallT Try.prog 16 [Kd.val .ptr x0] false .sl h K) (fun x0 x1 h K => CallT Try.prog 24 [Kd.val .sl x0, Kd.val .sl x1] false .bool h K) Q s h = interp Try.prog 222 (AC.rest 2 (weave (Try.f5.body.getD .skip) law3_DequeMicro.mk)) [] (setC [.slot 0 (.int .i64), .slot 1 .sl, .slot 2 (.int .i64), .slot 3 (.int .i64), .slot 4 .sl] s (addrS [])) (setB [.slot 0 (.int .i64), .slot 1 .sl, .slot 2 (.int .i64), .slot 3 (.int .i64), .slot 4 .sl] s []) h (retK Try.prog [.tmp 10] false .bool Q) (fun _ _ _ _ => False) (retK Try.prog [.tmp 10] false .bool Q) :=
  (by kernel_rfl)
theorem law3_DequeMicro.br {size1 : Int} {begin2 : Sl} {base3 : Int} {most4 : Int} {moves5 : Sl} {h : Heap} {Q : Bool → Heap → Prop} (H : law3_DequeMicro.M (fun x0 x1 h K => CallT Try.prog 19 [Kd.val (.int .i64) x0, Kd.val (.int .i64) x1] false (.int .i64) h K) (fun x0 x1 h K => CallT Try.prog 20 [Kd.val (.int .i64) x0, Kd.val .sl x1] true (.pair .ptr (.pair .bool .nil)) h K) (fun x0 x1 x2 h K => CallT Try.prog 28 [Kd.val klaw3Move x0, Kd.val (.int .i64) x1, Kd.val (.int .i64) x2] true (.pair kdequeOp (.pair kref3Op .nil)) h K) (fun x0 x1 h K => CallT Try.prog 29 [Kd.val .ptr x0, Kd.val (.int .i64) x1] true .nil h K) (fun x0 x1 h K => CallT Try.prog 30 [Kd.val .iface x0, Kd.val kdequeOp x1] false kdequeOp h K) (fun x0 x1 h K => CallT Try.prog 31 [Kd.val .ptr x0, Kd.val kref3Op x1] false kref3Op h K) (fun x0 h K => CallT Try.prog 32 [Kd.val kref3Op x0] false kref3Want h K) (fun x0 h K => CallT Try.prog 33 [Kd.val (.int .i64) x0] true (.pair .ptr (.pair (.int .i64) .nil)) h K) (fun x0 h K => CallT Try.prog 34 [Kd.val kdequeOp x0] true kparkLot h K) (fun x0 h K => CallT Try.prog 35 [Kd.val kref3Op x0] true kparkLot h K) (fun x0 h K => CallT Try.prog 14 [Kd.val .ptr x0] false .sl h K) (fun x0 x1 h K => CallT Try.prog 23 [Kd.val .sl x0, Kd.val .sl x1] false .bool h K) (fun x0 h K => CallT Try.prog 16 [Kd.val .ptr x0] false .sl h K) (fun x0 x1 h K => CallT Try.prog 24 [Kd.val .sl x0, Kd.val .sl x1] false .bool h K) size1 begin2 base3 most4 moves5 h Q) :
    CallT Try.prog 5 [Kd.val (.int .i64) size1, Kd.val .sl begin2, Kd.val (.int .i64) base3, Kd.val (.int .i64) most4, Kd.val .sl moves5] false .bool h Q :=
  fn_sound2 (c := weave (Try.f5.body.getD .skip) law3_DequeMicro.mk) Try.func5 (by kernel_rfl) Try.ntmps5 (rs := [.tmp 10]) (by kernel_rfl) [⟨(.int .i64), size1⟩, ⟨.sl, begin2⟩, ⟨(.int .i64), base3⟩, ⟨(.int .i64), most4⟩, ⟨.sl, moves5⟩] (by kernel_rfl) (by kernel_rfl) (by kernel_rfl) (cut_part 2 (cc := [.slot 0 (.int .i64), .slot 1 .sl, .slot 2 (.int .i64), .slot 3 (.int .i64), .slot 4 .sl]) (A := []) (b := (AC.rest 2 (weave (Try.f5.body.getD .skip) law3_DequeMicro.mk))) (by kernel_rfl) (fun s h => law3_DequeMicro.k7 (fun x0 x1 h K => CallT Try.prog 19 [Kd.val (.int .i64) x0, Kd.val (.int .i64) x1] false (.int .i64) h K) (fun x0 x1 h K => CallT Try.prog 20 [Kd.val (.int .i64) x0, Kd.val .sl x1] true (.pair .ptr (.pair .bool .nil)) h K) (fun x0 x1 x2 h K => CallT Try.prog 28 [Kd.val klaw3Move x0, Kd.val (.int .i64) x1, Kd.val (.int .i64) x2] true (.pair kdequeOp (.pair kref3Op .nil)) h K) (fun x0 x1 h K => CallT Try.prog 29 [Kd.val .ptr x0, Kd.val (.int .i64) x1] true .nil h K) (fun x0 x1 h K => CallT Try.prog 30 [Kd.val .iface x0, Kd.val kdequeOp x1] false kdequeOp h K) (fun x0 x1 h K => CallT Try.prog 31 [Kd.val .ptr x0, Kd.val kref3Op x1] false kref3Op h K) (fun x0 h K => CallT Try.prog 32 [Kd.val kref3Op x0] false kref3Want h K) (fun x0 h K => CallT Try.prog 33 [Kd.val (.int .i64) x0] true (.pair .ptr (.pair (.int .i64) .nil)) h K) (fun x0 h K => CallT Try.prog 34 [Kd.val kdequeOp x0] true kparkLot h K) (fun x0 h K => CallT Try.prog 35 [Kd.val kref3Op x0] true kparkLot h K) (fun x0 h K => CallT Try.prog 14 [Kd.val .ptr x0] false .sl h K) (fun x0 x1 h K => CallT Try.prog 23 [Kd.val .sl x0, Kd.val .sl x1] false .bool h K) (fun x0 h K => CallT Try.prog 16 [Kd.val .ptr x0] false .sl h K) (fun x0 x1 h K => CallT Try.prog 24 [Kd.val .sl x0, Kd.val .sl x1] false .bool h K) Q s h) (by kernel_rfl) law3_DequeMicro.e1) H

theorem law9_mod.br {x1 : Int} {n2 : Int} {h : Heap} {Q : Int → Heap → Prop} (H : law9_mod.M  x1 n2 h Q) :
    CallT Try.prog 9 [Kd.val (.int .i64) x1, Kd.val (.int .i64) n2] false (.int .i64) h Q :=
  fn_sound2 (c := weave (Try.f9.body.getD .skip) law9_mod.mk) Try.func9 (by kernel_rfl) Try.ntmps9 (rs := [.tmp 4]) (by kernel_rfl) [⟨(.int .i64), x1⟩, ⟨(.int .i64), n2⟩] (by kernel_rfl) (by kernel_rfl) (by kernel_rfl) (by kernel_rfl) H

theorem law9_arena.br {size1 : Int} {begin2 : Sl} {h : Heap} {Q : (Option Addr × (Bool × Unit)) → Heap → Prop} (H : law9_arena.M (fun x0 h K => CallT Try.prog 33 [Kd.val (.int .i64) x0] true (.pair .ptr (.pair (.int .i64) .nil)) h K) (fun x0 x1 h K => CallT Try.prog 52 [Kd.val .ptr x0, Kd.val (.int .i64) x1] true kparkLot h K) (fun x0 x1 x2 h K => CallT Try.prog 53 [Kd.val .ptr x0, Kd.val (.int .i64) x1, Kd.val (.int .i64) x2] false (.int .i64) h K) (fun x0 x1 h K => CallT Try.prog 54 [Kd.val .ptr x0, Kd.val .bool x1] true .nil h K) size1 begin2 h Q) :
    CallT Try.prog 10 [Kd.val (.int .i64) size1, Kd.val .sl begin2] true (.pair .ptr (.pair .bool .nil)) h Q :=
  fn_sound2 (c := weave (Try.f10.body.getD .skip) law9_arena.mk) Try.func10 (by kernel_rfl) Try.ntmps10 (rs := [.tmp 4, .tmp 5]) (by kernel_rfl) [⟨(.int .i64), size1⟩, ⟨.sl, begin2⟩] (by kernel_rfl) (by kernel_rfl) (by kernel_rfl) (by kernel_rfl) H

theorem park_New.br {m1 : Value} {workers2 : Int} {h : Heap} {Q : (Den kparkLot × (Int × Unit)) → Heap → Prop} (H : park_New.M (fun x0 h K => CallT Try.prog 17 [Kd.val (.int .i64) x0] false (.int .i64) h K) (fun x0 x1 h K => InvT Try.prog "Reserve" x0 [Kd.val (.int .i64) x1] true kparkLot h K) (NilT Try.prog) m1 workers2 h Q) :
    CallT Try.prog 11 [Kd.val .iface m1, Kd.val (.int .i64) workers2] true (.pair kparkLot (.pair (.int .i64) .nil)) h Q :=
  fn_sound2 (c := weave (Try.f11.body.getD .skip) park_New.mk) Try.func11 (by kernel_rfl) Try.ntmps11 (rs := [.cell 4 32, .tmp 5]) (by kernel_rfl) [⟨.iface, m1⟩, ⟨(.int .i64), workers2⟩] (by kernel_rfl) (by kernel_rfl) (by kernel_rfl) (by kernel_rfl) H

theorem ref9_New.br {m1 : Option Addr} {workers2 : Int} {h : Heap} {Q : (Den kparkLot × (Int × Unit)) → Heap → Prop} (H : ref9_New.M (fun x0 x1 h K => CallT Try.prog 55 [Kd.val .ptr x0, Kd.val kref3Want x1] true (.pair (.int .i64) (.pair .bool .nil)) h K) m1 workers2 h Q) :
    CallT Try.prog 12 [Kd.val .ptr m1, Kd.val (.int .i64) workers2] true (.pair kparkLot (.pair (.int .i64) .nil)) h Q :=
  fn_sound2 (c := weave (Try.f12.body.getD .skip) ref9_New.mk) Try.func12 (by kernel_rfl) Try.ntmps12 (rs := [.cell 4 36, .tmp 5]) (by kernel_rfl) [⟨.ptr, m1⟩, ⟨(.int .i64), workers2⟩] (by kernel_rfl) (by kernel_rfl) (by kernel_rfl) (by kernel_rfl) H

theorem law9_sameInts.br {a1 : Sl} {b2 : Sl} {h : Heap} {Q : Bool → Heap → Prop} (H : law9_sameInts.M  a1 b2 h Q) :
    CallT Try.prog 13 [Kd.val .sl a1, Kd.val .sl b2] false .bool h Q :=
  fn_sound2 (c := weave (Try.f13.body.getD .skip) law9_sameInts.mk) Try.func13 (by kernel_rfl) Try.ntmps13 (rs := [.tmp 4]) (by kernel_rfl) [⟨.sl, a1⟩, ⟨.sl, b2⟩] (by kernel_rfl) (by kernel_rfl) (by kernel_rfl) (by kernel_rfl) H

theorem cells_Arena_Cells.br {a1 : Option Addr} {h : Heap} {Q : Sl → Heap → Prop} (H : cells_Arena_Cells.M  a1 h Q) :
    CallT Try.prog 14 [Kd.val .ptr a1] false .sl h Q :=
  fn_sound2 (c := weave (Try.f14.body.getD .skip) cells_Arena_Cells.mk) Try.func14 (by kernel_rfl) Try.ntmps14 (rs := [.tmp 2]) (by kernel_rfl) [⟨.ptr, a1⟩] (by kernel_rfl) (by kernel_rfl) (by kernel_rfl) (by kernel_rfl) H

theorem law9_sameLog.br {a1 : Sl} {b2 : Sl} {h : Heap} {Q : Bool → Heap → Prop} (H : law9_sameLog.M  a1 b2 h Q) :
    CallT Try.prog 15 [Kd.val .sl a1, Kd.val .sl b2] false .bool h Q :=
  fn_sound2 (c := weave (Try.f15.body.getD .skip) law9_sameLog.mk) Try.func15 (by kernel_rfl) Try.ntmps15 (rs := [.tmp 4]) (by kernel_rfl) [⟨.sl, a1⟩, ⟨.sl, b2⟩] (by kernel_rfl) (by kernel_rfl) (by kernel_rfl) (by kernel_rfl) H

theorem cells_Arena_Log.br {a1 : Option Addr} {h : Heap} {Q : Sl → Heap → Prop} (H : cells_Arena_Log.M  a1 h Q) :
    CallT Try.prog 16 [Kd.val .ptr a1] false .sl h Q :=
  fn_sound2 (c := weave (Try.f16.body.getD .skip) cells_Arena_Log.mk) Try.func16 (by kernel_rfl) Try.ntmps16 (rs := [.tmp 2]) (by kernel_rfl) [⟨.ptr, a1⟩] (by kernel_rfl) (by kernel_rfl) (by kernel_rfl) (by kernel_rfl) H

theorem park_Cells.br {workers1 : Int} {h : Heap} {Q : Int → Heap → Prop} (H : park_Cells.M  workers1 h Q) :
    CallT Try.prog 17 [Kd.val (.int .i64) workers1] false (.int .i64) h Q :=
  fn_sound2 (c := weave (Try.f17.body.getD .skip) park_Cells.mk) Try.func17 (by kernel_rfl) Try.ntmps17 (rs := [.tmp 2]) (by kernel_rfl) [⟨(.int .i64), workers1⟩] (by kernel_rfl) (by kernel_rfl) (by kernel_rfl) (by kernel_rfl) H

theorem ref9_Cells.br {workers1 : Int} {h : Heap} {Q : Int → Heap → Prop} (H : ref9_Cells.M  workers1 h Q) :
    CallT Try.prog 18 [Kd.val (.int .i64) workers1] false (.int .i64) h Q :=
  fn_sound2 (c := weave (Try.f18.body.getD .skip) ref9_Cells.mk) Try.func18 (by kernel_rfl) Try.ntmps18 (rs := [.tmp 2]) (by kernel_rfl) [⟨(.int .i64), workers1⟩] (by kernel_rfl) (by kernel_rfl) (by kernel_rfl) (by kernel_rfl) H

theorem law3_mod.br {x1 : Int} {n2 : Int} {h : Heap} {Q : Int → Heap → Prop} (H : law3_mod.M  x1 n2 h Q) :
    CallT Try.prog 19 [Kd.val (.int .i64) x1, Kd.val (.int .i64) n2] false (.int .i64) h Q :=
  fn_sound2 (c := weave (Try.f19.body.getD .skip) law3_mod.mk) Try.func19 (by kernel_rfl) Try.ntmps19 (rs := [.tmp 4]) (by kernel_rfl) [⟨(.int .i64), x1⟩, ⟨(.int .i64), n2⟩] (by kernel_rfl) (by kernel_rfl) (by kernel_rfl) (by kernel_rfl) H

theorem law3_arena.br {size1 : Int} {begin2 : Sl} {h : Heap} {Q : (Option Addr × (Bool × Unit)) → Heap → Prop} (H : law3_arena.M (fun x0 h K => CallT Try.prog 33 [Kd.val (.int .i64) x0] true (.pair .ptr (.pair (.int .i64) .nil)) h K) (fun x0 x1 h K => CallT Try.prog 52 [Kd.val .ptr x0, Kd.val (.int .i64) x1] true kparkLot h K) (fun x0 x1 x2 h K => CallT Try.prog 53 [Kd.val .ptr x0, Kd.val (.int .i64) x1, Kd.val (.int .i64) x2] false (.int .i64) h K) (fun x0 x1 h K => CallT Try.prog 54 [Kd.val .ptr x0, Kd.val .bool x1] true .nil h K) size1 begin2 h Q) :
    CallT Try.prog 20 [Kd.val (.int .i64) size1, Kd.val .sl begin2] true (.pair .ptr (.pair .bool .nil)) h Q :=
  fn_sound2 (c := weave (Try.f20.body.getD .skip) law3_arena.mk) Try.func20 (by kernel_rfl) Try.ntmps20 (rs := [.tmp 4, .tmp 5]) (by kernel_rfl) [⟨(.int .i64), size1⟩, ⟨.sl, begin2⟩] (by kernel_rfl) (by kernel_rfl) (by kernel_rfl) (by kernel_rfl) H

theorem deque_New.br {m1 : Value} {low2 : Int} {most3 : Int} {h : Heap} {Q : (Den kparkLot × (Int × Unit)) → Heap → Prop} (H : deque_New.M (fun x0 x1 h K => CallT Try.prog 56 [Kd.val (.int .i64) x0, Kd.val (.int .i64) x1] false .bool h K) (fun x0 x1 h K => InvT Try.prog "Reserve" x0 [Kd.val (.int .i64) x1] true kparkLot h K) (fun x0 x1 x2 h K => InvT Try.prog "Store" x0 [Kd.val (.int .i64) x1, Kd.val (.int .i64) x2] false (.int .i64) h K) m1 low2 most3 h Q) :
    CallT Try.prog 21 [Kd.val .iface m1, Kd.val (.int .i64) low2, Kd.val (.int .i64) most3] true (.pair kparkLot (.pair (.int .i64) .nil)) h Q :=
  fn_sound2 (c := weave (Try.f21.body.getD .skip) deque_New.mk) Try.func21 (by kernel_rfl) Try.ntmps21 (rs := [.cell 6 46, .tmp 7]) (by kernel_rfl) [⟨.iface, m1⟩, ⟨(.int .i64), low2⟩, ⟨(.int .i64), most3⟩] (by kernel_rfl) (by kernel_rfl) (by kernel_rfl) (by kernel_rfl) H

theorem ref3_New.br {m1 : Option Addr} {first2 : Int} {most3 : Int} {h : Heap} {Q : (Den kparkLot × (Int × Unit)) → Heap → Prop} (H : ref3_New.M (fun x0 x1 h K => CallT Try.prog 57 [Kd.val (.int .i64) x0, Kd.val (.int .i64) x1] false .bool h K) (fun x0 x1 h K => CallT Try.prog 55 [Kd.val .ptr x0, Kd.val kref3Want x1] true (.pair (.int .i64) (.pair .bool .nil)) h K) (fun x0 x1 h K => CallT Try.prog 58 [Kd.val (.int .i64) x0, Kd.val (.int .i64) x1] false kref3Want h K) m1 first2 most3 h Q) :
    CallT Try.prog 22 [Kd.val .ptr m1, Kd.val (.int .i64) first2, Kd.val (.int .i64) most3] true (.pair kparkLot (.pair (.int .i64) .nil)) h Q :=
  fn_sound2 (c := weave (Try.f22.body.getD .skip) ref3_New.mk) Try.func22 (by kernel_rfl) Try.ntmps22 (rs := [.cell 6 49, .tmp 7]) (by kernel_rfl) [⟨.ptr, m1⟩, ⟨(.int .i64), first2⟩, ⟨(.int .i64), most3⟩] (by kernel_rfl) (by kernel_rfl) (by kernel_rfl) (by kernel_rfl) H

theorem law3_sameInts.br {a1 : Sl} {b2 : Sl} {h : Heap} {Q : Bool → Heap → Prop} (H : law3_sameInts.M  a1 b2 h Q) :
    CallT Try.prog 23 [Kd.val .sl a1, Kd.val .sl b2] false .bool h Q :=
  fn_sound2 (c := weave (Try.f23.body.getD .skip) law3_sameInts.mk) Try.func23 (by kernel_rfl) Try.ntmps23 (rs := [.tmp 4]) (by kernel_rfl) [⟨.sl, a1⟩, ⟨.sl, b2⟩] (by kernel_rfl) (by kernel_rfl) (by kernel_rfl) (by kernel_rfl) H

theorem law3_sameLog.br {a1 : Sl} {b2 : Sl} {h : Heap} {Q : Bool → Heap → Prop} (H : law3_sameLog.M  a1 b2 h Q) :
    CallT Try.prog 24 [Kd.val .sl a1, Kd.val .sl b2] false .bool h Q :=
  fn_sound2 (c := weave (Try.f24.body.getD .skip) law3_sameLog.mk) Try.func24 (by kernel_rfl) Try.ntmps24 (rs := [.tmp 4]) (by kernel_rfl) [⟨.sl, a1⟩, ⟨.sl, b2⟩] (by kernel_rfl) (by kernel_rfl) (by kernel_rfl) (by kernel_rfl) H

theorem law3_stops.br {first1 : Int} {h : Heap} {Q : Bool → Heap → Prop} (H : law3_stops.M (fun x0 x1 h K => CallT Try.prog 19 [Kd.val (.int .i64) x0, Kd.val (.int .i64) x1] false (.int .i64) h K) (fun x0 x1 h K => CallT Try.prog 20 [Kd.val (.int .i64) x0, Kd.val .sl x1] true (.pair .ptr (.pair .bool .nil)) h K) (fun x0 x1 x2 h K => CallT Try.prog 21 [Kd.val .iface x0, Kd.val (.int .i64) x1, Kd.val (.int .i64) x2] true (.pair kparkLot (.pair (.int .i64) .nil)) h K) first1 h Q) :
    CallT Try.prog 25 [Kd.val (.int .i64) first1] false .bool h Q :=
  fn_sound2 (c := weave (Try.f25.body.getD .skip) law3_stops.mk) Try.func25 (by kernel_rfl) Try.ntmps25 (rs := [.tmp 2]) (by kernel_rfl) [⟨(.int .i64), first1⟩] (by kernel_rfl) (by kernel_rfl) (by kernel_rfl) (by kernel_rfl) H

theorem deque_Cells.br {low1 : Int} {most2 : Int} {h : Heap} {Q : Int → Heap → Prop} (H : deque_Cells.M (fun x0 x1 h K => CallT Try.prog 56 [Kd.val (.int .i64) x0, Kd.val (.int .i64) x1] false .bool h K) low1 most2 h Q) :
    CallT Try.prog 26 [Kd.val (.int .i64) low1, Kd.val (.int .i64) most2] false (.int .i64) h Q :=
  fn_sound2 (c := weave (Try.f26.body.getD .skip) deque_Cells.mk) Try.func26 (by kernel_rfl) Try.ntmps26 (rs := [.tmp 4]) (by kernel_rfl) [⟨(.int .i64), low1⟩, ⟨(.int .i64), most2⟩] (by kernel_rfl) (by kernel_rfl) (by kernel_rfl) (by kernel_rfl) H

theorem ref3_Cells.br {first1 : Int} {most2 : Int} {h : Heap} {Q : Int → Heap → Prop} (H : ref3_Cells.M (fun x0 x1 h K => CallT Try.prog 57 [Kd.val (.int .i64) x0, Kd.val (.int .i64) x1] false .bool h K) first1 most2 h Q) :
    CallT Try.prog 27 [Kd.val (.int .i64) first1, Kd.val (.int .i64) most2] false (.int .i64) h Q :=
  fn_sound2 (c := weave (Try.f27.body.getD .skip) ref3_Cells.mk) Try.func27 (by kernel_rfl) Try.ntmps27 (rs := [.tmp 4]) (by kernel_rfl) [⟨(.int .i64), first1⟩, ⟨(.int .i64), most2⟩] (by kernel_rfl) (by kernel_rfl) (by kernel_rfl) (by kernel_rfl) H

theorem law3_born.br {v1 : Den klaw3Move} {base2 : Int} {most3 : Int} {h : Heap} {Q : (Den kdequeOp × (Den kref3Op × Unit)) → Heap → Prop} (H : law3_born.M (fun x0 x1 h K => CallT Try.prog 37 [Kd.val kparkLot x0, Kd.val (.int .i64) x1] false kdequeOp h K) (fun x0 h K => CallT Try.prog 38 [Kd.val kparkLot x0] false kdequeOp h K) (fun x0 h K => CallT Try.prog 39 [Kd.val kparkLot x0] false kdequeOp h K) (fun x0 h K => CallT Try.prog 40 [Kd.val kparkLot x0] false kdequeOp h K) v1 base2 most3 h Q) :
    CallT Try.prog 28 [Kd.val klaw3Move v1, Kd.val (.int .i64) base2, Kd.val (.int .i64) most3] true (.pair kdequeOp (.pair kref3Op .nil)) h Q :=
  fn_sound2 (c := weave (Try.f28.body.getD .skip) law3_born.mk) Try.func28 (by kernel_rfl) Try.ntmps28 (rs := [.cell 6 56, .cell 7 59]) (by kernel_rfl) [⟨klaw3Move, v1⟩, ⟨(.int .i64), base2⟩, ⟨(.int .i64), most3⟩] (by kernel_rfl) (by kernel_rfl) (by kernel_rfl) (by kernel_rfl) H

theorem cells_Arena_Who.br {a1 : Option Addr} {actor2 : Int} {h : Heap} {Q : Unit → Heap → Prop} (H : cells_Arena_Who.M  a1 actor2 h Q) :
    CallT Try.prog 29 [Kd.val .ptr a1, Kd.val (.int .i64) actor2] true .nil h Q :=
  fn_sound2 (c := weave (Try.f29.body.getD .skip) cells_Arena_Who.mk) Try.func29 (by kernel_rfl) Try.ntmps29 (rs := []) (by kernel_rfl) [⟨.ptr, a1⟩, ⟨(.int .i64), actor2⟩] (by kernel_rfl) (by kernel_rfl) (by kernel_rfl) (by kernel_rfl) H

theorem deque_Step.br {m1 : Value} {o2 : Den kdequeOp} {h : Heap} {Q : Den kdequeOp → Heap → Prop} (H : deque_Step.M (fun x0 x1 x2 h K => CallT Try.prog 59 [Kd.val kdequeOp x0, Kd.val (.int .i64) x1, Kd.val (.int .i64) x2] false kdequeOp h K) (fun x0 x1 h K => CallT Try.prog 60 [Kd.val kdequeOp x0, Kd.val .iface x1] true kparkLot h K) (fun x0 x1 h K => CallT Try.prog 61 [Kd.val kdequeOp x0, Kd.val (.int .i64) x1] false kdequeOp h K) (fun x0 x1 h K => CallT Try.prog 62 [Kd.val kdequeOp x0, Kd.val (.int .i64) x1] false kdequeOp h K) (fun x0 x1 h K => CallT Try.prog 63 [Kd.val kdequeOp x0, Kd.val (.int .i64) x1] false kdequeOp h K) (fun x0 x1 h K => CallT Try.prog 64 [Kd.val kdequeOp x0, Kd.val (.int .i64) x1] false kdequeOp h K) m1 o2 h Q) :
    CallT Try.prog 30 [Kd.val .iface m1, Kd.val kdequeOp o2] false kdequeOp h Q :=
  fn_sound2 (c := weave (Try.f30.body.getD .skip) deque_Step.mk) Try.func30 (by kernel_rfl) Try.ntmps30 (rs := [.cell 4 56]) (by kernel_rfl) [⟨.iface, m1⟩, ⟨kdequeOp, o2⟩] (by kernel_rfl) (by kernel_rfl) (by kernel_rfl) (by kernel_rfl) H

theorem ref3_Step.br {m1 : Option Addr} {o2 : Den kref3Op} {h : Heap} {Q : Den kref3Op → Heap → Prop} (H : ref3_Step.M (fun x0 h K => CallT Try.prog 32 [Kd.val kref3Op x0] false kref3Want h K) (fun x0 x1 h K => CallT Try.prog 55 [Kd.val .ptr x0, Kd.val kref3Want x1] true (.pair (.int .i64) (.pair .bool .nil)) h K) m1 o2 h Q) :
    CallT Try.prog 31 [Kd.val .ptr m1, Kd.val kref3Op o2] false kref3Op h Q :=
  fn_sound2 (c := weave (Try.f31.body.getD .skip) ref3_Step.mk) Try.func31 (by kernel_rfl) Try.ntmps31 (rs := [.cell 4 59]) (by kernel_rfl) [⟨.ptr, m1⟩, ⟨kref3Op, o2⟩] (by kernel_rfl) (by kernel_rfl) (by kernel_rfl) (by kernel_rfl) H

theorem ref3_Next.br {o1 : Den kref3Op} {h : Heap} {Q : Den kref3Want → Heap → Prop} (H : ref3_Next.M (fun x0 x1 h K => CallT Try.prog 65 [Kd.val (.int .i64) x0, Kd.val (.int .i64) x1] false kref3Want h K) (fun x0 x1 x2 h K => CallT Try.prog 66 [Kd.val kparkLot x0, Kd.val (.int .i64) x1, Kd.val .sl x2] false kref3Want h K) (fun x0 x1 h K => CallT Try.prog 67 [Kd.val kparkLot x0, Kd.val .sl x1] false kref3Want h K) (fun x0 x1 h K => CallT Try.prog 68 [Kd.val kparkLot x0, Kd.val .sl x1] false kref3Want h K) (fun x0 x1 h K => CallT Try.prog 69 [Kd.val kparkLot x0, Kd.val .sl x1] false kref3Want h K) o1 h Q) :
    CallT Try.prog 32 [Kd.val kref3Op o1] false kref3Want h Q :=
  fn_sound2 (c := weave (Try.f32.body.getD .skip) ref3_Next.mk) Try.func32 (by kernel_rfl) Try.ntmps32 (rs := [.cell 2 69]) (by kernel_rfl) [⟨kref3Op, o1⟩] (by kernel_rfl) (by kernel_rfl) (by kernel_rfl) (by kernel_rfl) H

theorem cells_New.br {size1 : Int} {h : Heap} {Q : (Option Addr × (Int × Unit)) → Heap → Prop} (H : cells_New.M (fun x0 h K => CallT Try.prog 70 [Kd.val (.int .i64) x0] false .bool h K) size1 h Q) :
    CallT Try.prog 33 [Kd.val (.int .i64) size1] true (.pair .ptr (.pair (.int .i64) .nil)) h Q :=
  fn_sound2 (c := weave (Try.f33.body.getD .skip) cells_New.mk) Try.func33 (by kernel_rfl) Try.ntmps33 (rs := [.tmp 2, .tmp 3]) (by kernel_rfl) [⟨(.int .i64), size1⟩] (by kernel_rfl) (by kernel_rfl) (by kernel_rfl) (by kernel_rfl) H

theorem deque_Answer.br {o1 : Den kdequeOp} {h : Heap} {Q : Den kparkLot → Heap → Prop} (H : deque_Answer.M  o1 h Q) :
    CallT Try.prog 34 [Kd.val kdequeOp o1] true kparkLot h Q :=
  fn_sound2 (c := weave (Try.f34.body.getD .skip) deque_Answer.mk) Try.func34 (by kernel_rfl) Try.ntmps34 (rs := [.tmp 2, .tmp 3]) (by kernel_rfl) [⟨kdequeOp, o1⟩] (by kernel_rfl) (by kernel_rfl) (by kernel_rfl) (by kernel_rfl) H

theorem ref3_Answer.br {o1 : Den kref3Op} {h : Heap} {Q : Den kparkLot → Heap → Prop} (H : ref3_Answer.M (fun x0 h K => CallT Try.prog 32 [Kd.val kref3Op x0] false kref3Want h K) o1 h Q) :
    CallT Try.prog 35 [Kd.val kref3Op o1] true kparkLot h Q :=
  fn_sound2 (c := weave (Try.f35.body.getD .skip) ref3_Answer.mk) Try.func35 (by kernel_rfl) Try.ntmps35 (rs := [.tmp 2, .tmp 3]) (by kernel_rfl) [⟨kref3Op, o1⟩] (by kernel_rfl) (by kernel_rfl) (by kernel_rfl) (by kernel_rfl) H

theorem deque_Push.br {d1 : Den kparkLot} {v2 : Int} {h : Heap} {Q : Den kdequeOp → Heap → Prop} (H : deque_Push.M (fun x0 x1 x2 x3 h K => CallT Try.prog 71 [Kd.val (.int .i64) x0, Kd.val (.int .i64) x1, Kd.val kparkLot x2, Kd.val (.int .i64) x3] false kdequeOp h K) d1 v2 h Q) :
    CallT Try.prog 37 [Kd.val kparkLot d1, Kd.val (.int .i64) v2] false kdequeOp h Q :=
  fn_sound2 (c := weave (Try.f37.body.getD .skip) deque_Push.mk) Try.func37 (by kernel_rfl) Try.ntmps37 (rs := [.cell 4 56]) (by kernel_rfl) [⟨kparkLot, d1⟩, ⟨(.int .i64), v2⟩] (by kernel_rfl) (by kernel_rfl) (by kernel_rfl) (by kernel_rfl) H

theorem deque_Pop.br {d1 : Den kparkLot} {h : Heap} {Q : Den kdequeOp → Heap → Prop} (H : deque_Pop.M (fun x0 x1 x2 x3 h K => CallT Try.prog 71 [Kd.val (.int .i64) x0, Kd.val (.int .i64) x1, Kd.val kparkLot x2, Kd.val (.int .i64) x3] false kdequeOp h K) d1 h Q) :
    CallT Try.prog 38 [Kd.val kparkLot d1] false kdequeOp h Q :=
  fn_sound2 (c := weave (Try.f38.body.getD .skip) deque_Pop.mk) Try.func38 (by kernel_rfl) Try.ntmps38 (rs := [.cell 2 56]) (by kernel_rfl) [⟨kparkLot, d1⟩] (by kernel_rfl) (by kernel_rfl) (by kernel_rfl) (by kernel_rfl) H

theorem deque_Steal.br {d1 : Den kparkLot} {h : Heap} {Q : Den kdequeOp → Heap → Prop} (H : deque_Steal.M (fun x0 x1 x2 x3 h K => CallT Try.prog 71 [Kd.val (.int .i64) x0, Kd.val (.int .i64) x1, Kd.val kparkLot x2, Kd.val (.int .i64) x3] false kdequeOp h K) d1 h Q) :
    CallT Try.prog 39 [Kd.val kparkLot d1] false kdequeOp h Q :=
  fn_sound2 (c := weave (Try.f39.body.getD .skip) deque_Steal.mk) Try.func39 (by kernel_rfl) Try.ntmps39 (rs := [.cell 2 56]) (by kernel_rfl) [⟨kparkLot, d1⟩] (by kernel_rfl) (by kernel_rfl) (by kernel_rfl) (by kernel_rfl) H

theorem deque_Look.br {d1 : Den kparkLot} {h : Heap} {Q : Den kdequeOp → Heap → Prop} (H : deque_Look.M (fun x0 x1 x2 x3 h K => CallT Try.prog 71 [Kd.val (.int .i64) x0, Kd.val (.int .i64) x1, Kd.val kparkLot x2, Kd.val (.int .i64) x3] false kdequeOp h K) d1 h Q) :
    CallT Try.prog 40 [Kd.val kparkLot d1] false kdequeOp h Q :=
  fn_sound2 (c := weave (Try.f40.body.getD .skip) deque_Look.mk) Try.func40 (by kernel_rfl) Try.ntmps40 (rs := [.cell 2 56]) (by kernel_rfl) [⟨kparkLot, d1⟩] (by kernel_rfl) (by kernel_rfl) (by kernel_rfl) (by kernel_rfl) H

theorem cells_Arena_Reserve.br {a1 : Option Addr} {n2 : Int} {h : Heap} {Q : Den kparkLot → Heap → Prop} (H : cells_Arena_Reserve.M (fun x0 x1 h K => CallT Try.prog 90 [Kd.val .ptr x0, Kd.val (.int .i64) x1] false (.int .i64) h K) (fun x0 x1 h K => CallT Try.prog 91 [Kd.val .ptr x0, Kd.val (.int .i64) x1] false (.int .i64) h K) (fun x0 x1 x2 x3 x4 x5 h K => CallT Try.prog 92 [Kd.val .ptr x0, Kd.val (.int .i64) x1, Kd.val (.int .i64) x2, Kd.val (.int .i64) x3, Kd.val (.int .i64) x4, Kd.val .bool x5] true .nil h K) a1 n2 h Q) :
    CallT Try.prog 52 [Kd.val .ptr a1, Kd.val (.int .i64) n2] true kparkLot h Q :=
  fn_sound2 (c := weave (Try.f52.body.getD .skip) cells_Arena_Reserve.mk) Try.func52 (by kernel_rfl) Try.ntmps52 (rs := [.tmp 4, .tmp 5]) (by kernel_rfl) [⟨.ptr, a1⟩, ⟨(.int .i64), n2⟩] (by kernel_rfl) (by kernel_rfl) (by kernel_rfl) (by kernel_rfl) H

theorem cells_Arena_Store.br {a1 : Option Addr} {addr2 : Int} {v3 : Int} {h : Heap} {Q : Int → Heap → Prop} (H : cells_Arena_Store.M (fun x0 x1 h K => CallT Try.prog 93 [Kd.val .ptr x0, Kd.val (.int .i64) x1] false .bool h K) (fun x0 x1 x2 x3 x4 x5 h K => CallT Try.prog 92 [Kd.val .ptr x0, Kd.val (.int .i64) x1, Kd.val (.int .i64) x2, Kd.val (.int .i64) x3, Kd.val (.int .i64) x4, Kd.val .bool x5] true .nil h K) a1 addr2 v3 h Q) :
    CallT Try.prog 53 [Kd.val .ptr a1, Kd.val (.int .i64) addr2, Kd.val (.int .i64) v3] false (.int .i64) h Q :=
  fn_sound2 (c := weave (Try.f53.body.getD .skip) cells_Arena_Store.mk) Try.func53 (by kernel_rfl) Try.ntmps53 (rs := [.tmp 6]) (by kernel_rfl) [⟨.ptr, a1⟩, ⟨(.int .i64), addr2⟩, ⟨(.int .i64), v3⟩] (by kernel_rfl) (by kernel_rfl) (by kernel_rfl) (by kernel_rfl) H

theorem cells_Arena_Watch.br {a1 : Option Addr} {on2 : Bool} {h : Heap} {Q : Unit → Heap → Prop} (H : cells_Arena_Watch.M  a1 on2 h Q) :
    CallT Try.prog 54 [Kd.val .ptr a1, Kd.val .bool on2] true .nil h Q :=
  fn_sound2 (c := weave (Try.f54.body.getD .skip) cells_Arena_Watch.mk) Try.func54 (by kernel_rfl) Try.ntmps54 (rs := []) (by kernel_rfl) [⟨.ptr, a1⟩, ⟨.bool, on2⟩] (by kernel_rfl) (by kernel_rfl) (by kernel_rfl) (by kernel_rfl) H

theorem ref3_Mem_Do.br {m1 : Option Addr} {w2 : Den kref3Want} {h : Heap} {Q : (Int × (Bool × Unit)) → Heap → Prop} (H : ref3_Mem_Do.M  m1 w2 h Q) :
    CallT Try.prog 55 [Kd.val .ptr m1, Kd.val kref3Want w2] true (.pair (.int .i64) (.pair .bool .nil)) h Q :=
  fn_sound2 (c := weave (Try.f55.body.getD .skip) ref3_Mem_Do.mk) Try.func55 (by kernel_rfl) Try.ntmps55 (rs := [.tmp 4, .tmp 5]) (by kernel_rfl) [⟨.ptr, m1⟩, ⟨kref3Want, w2⟩] (by kernel_rfl) (by kernel_rfl) (by kernel_rfl) (by kernel_rfl) H

theorem deque_capsOK.br {low1 : Int} {most2 : Int} {h : Heap} {Q : Bool → Heap → Prop} (H : deque_capsOK.M  low1 most2 h Q) :
    CallT Try.prog 56 [Kd.val (.int .i64) low1, Kd.val (.int .i64) most2] false .bool h Q :=
  fn_sound2 (c := weave (Try.f56.body.getD .skip) deque_capsOK.mk) Try.func56 (by kernel_rfl) Try.ntmps56 (rs := [.tmp 4]) (by kernel_rfl) [⟨(.int .i64), low1⟩, ⟨(.int .i64), most2⟩] (by kernel_rfl) (by kernel_rfl) (by kernel_rfl) (by kernel_rfl) H

theorem ref3_CapOK.br {first1 : Int} {most2 : Int} {h : Heap} {Q : Bool → Heap → Prop} (H : ref3_CapOK.M  first1 most2 h Q) :
    CallT Try.prog 57 [Kd.val (.int .i64) first1, Kd.val (.int .i64) most2] false .bool h Q :=
  fn_sound2 (c := weave (Try.f57.body.getD .skip) ref3_CapOK.mk) Try.func57 (by kernel_rfl) Try.ntmps57 (rs := [.tmp 4]) (by kernel_rfl) [⟨(.int .i64), first1⟩, ⟨(.int .i64), most2⟩] (by kernel_rfl) (by kernel_rfl) (by kernel_rfl) (by kernel_rfl) H

theorem ref3_store.br {addr1 : Int} {v2 : Int} {h : Heap} {Q : Den kref3Want → Heap → Prop} (H : ref3_store.M  addr1 v2 h Q) :
    CallT Try.prog 58 [Kd.val (.int .i64) addr1, Kd.val (.int .i64) v2] false kref3Want h Q :=
  fn_sound2 (c := weave (Try.f58.body.getD .skip) ref3_store.mk) Try.func58 (by kernel_rfl) Try.ntmps58 (rs := [.cell 4 69]) (by kernel_rfl) [⟨(.int .i64), addr1⟩, ⟨(.int .i64), v2⟩] (by kernel_rfl) (by kernel_rfl) (by kernel_rfl) (by kernel_rfl) H

theorem deque_Op_over.br {o1 : Den kdequeOp} {code2 : Int} {v3 : Int} {h : Heap} {Q : Den kdequeOp → Heap → Prop} (H : deque_Op_over.M  o1 code2 v3 h Q) :
    CallT Try.prog 59 [Kd.val kdequeOp o1, Kd.val (.int .i64) code2, Kd.val (.int .i64) v3] false kdequeOp h Q :=
  fn_sound2 (c := weave (Try.f59.body.getD .skip) deque_Op_over.mk) Try.func59 (by kernel_rfl) Try.ntmps59 (rs := [.cell 6 56]) (by kernel_rfl) [⟨kdequeOp, o1⟩, ⟨(.int .i64), code2⟩, ⟨(.int .i64), v3⟩] (by kernel_rfl) (by kernel_rfl) (by kernel_rfl) (by kernel_rfl) H

theorem deque_Op_access.br {o1 : Den kdequeOp} {m2 : Value} {h : Heap} {Q : Den kparkLot → Heap → Prop} (H : deque_Op_access.M (fun x0 x1 h K => InvT Try.prog "Load" x0 [Kd.val (.int .i64) x1] true kparkLot h K) (fun x0 x1 h K => InvT Try.prog "Reserve" x0 [Kd.val (.int .i64) x1] true kparkLot h K) (fun x0 x1 x2 h K => InvT Try.prog "Store" x0 [Kd.val (.int .i64) x1, Kd.val (.int .i64) x2] false (.int .i64) h K) (fun x0 x1 x2 h K => CallT Try.prog 94 [Kd.val (.int .i64) x0, Kd.val (.int .i64) x1, Kd.val (.int .i64) x2] false (.int .i64) h K) (fun x0 h K => CallT Try.prog 95 [Kd.val kdequeOp x0] false (.int .i64) h K) (fun x0 x1 x2 x3 h K => InvT Try.prog "CAS" x0 [Kd.val (.int .i64) x1, Kd.val (.int .i64) x2, Kd.val (.int .i64) x3] true (.pair .bool (.pair (.int .i64) .nil)) h K) (NilT Try.prog) o1 m2 h Q) :
    CallT Try.prog 60 [Kd.val kdequeOp o1, Kd.val .iface m2] true kparkLot h Q :=
  fn_sound2 (c := weave (Try.f60.body.getD .skip) deque_Op_access.mk) Try.func60 (by kernel_rfl) Try.ntmps60 (rs := [.tmp 4, .tmp 5]) (by kernel_rfl) [⟨kdequeOp, o1⟩, ⟨.iface, m2⟩] (by kernel_rfl) (by kernel_rfl) (by kernel_rfl) (by kernel_rfl) H

theorem deque_Op_pushed.br {o1 : Den kdequeOp} {got2 : Int} {h : Heap} {Q : Den kdequeOp → Heap → Prop} (H : deque_Op_pushed.M (fun x0 x1 x2 h K => CallT Try.prog 59 [Kd.val kdequeOp x0, Kd.val (.int .i64) x1, Kd.val (.int .i64) x2] false kdequeOp h K) o1 got2 h Q) :
    CallT Try.prog 61 [Kd.val kdequeOp o1, Kd.val (.int .i64) got2] false kdequeOp h Q :=
  fn_sound2 (c := weave (Try.f61.body.getD .skip) deque_Op_pushed.mk) Try.func61 (by kernel_rfl) Try.ntmps61 (rs := [.cell 4 56]) (by kernel_rfl) [⟨kdequeOp, o1⟩, ⟨(.int .i64), got2⟩] (by kernel_rfl) (by kernel_rfl) (by kernel_rfl) (by kernel_rfl) H

theorem deque_Op_popped.br {o1 : Den kdequeOp} {got2 : Int} {h : Heap} {Q : Den kdequeOp → Heap → Prop} (H : deque_Op_popped.M (fun x0 x1 x2 h K => CallT Try.prog 59 [Kd.val kdequeOp x0, Kd.val (.int .i64) x1, Kd.val (.int .i64) x2] false kdequeOp h K) o1 got2 h Q) :
    CallT Try.prog 62 [Kd.val kdequeOp o1, Kd.val (.int .i64) got2] false kdequeOp h Q :=
  fn_sound2 (c := weave (Try.f62.body.getD .skip) deque_Op_popped.mk) Try.func62 (by kernel_rfl) Try.ntmps62 (rs := [.cell 4 56]) (by kernel_rfl) [⟨kdequeOp, o1⟩, ⟨(.int .i64), got2⟩] (by kernel_rfl) (by kernel_rfl) (by kernel_rfl) (by kernel_rfl) H

theorem deque_Op_stolen.br {o1 : Den kdequeOp} {got2 : Int} {h : Heap} {Q : Den kdequeOp → Heap → Prop} (H : deque_Op_stolen.M (fun x0 x1 x2 h K => CallT Try.prog 59 [Kd.val kdequeOp x0, Kd.val (.int .i64) x1, Kd.val (.int .i64) x2] false kdequeOp h K) o1 got2 h Q) :
    CallT Try.prog 63 [Kd.val kdequeOp o1, Kd.val (.int .i64) got2] false kdequeOp h Q :=
  fn_sound2 (c := weave (Try.f63.body.getD .skip) deque_Op_stolen.mk) Try.func63 (by kernel_rfl) Try.ntmps63 (rs := [.cell 4 56]) (by kernel_rfl) [⟨kdequeOp, o1⟩, ⟨(.int .i64), got2⟩] (by kernel_rfl) (by kernel_rfl) (by kernel_rfl) (by kernel_rfl) H

theorem deque_Op_looked.br {o1 : Den kdequeOp} {got2 : Int} {h : Heap} {Q : Den kdequeOp → Heap → Prop} (H : deque_Op_looked.M (fun x0 x1 x2 h K => CallT Try.prog 59 [Kd.val kdequeOp x0, Kd.val (.int .i64) x1, Kd.val (.int .i64) x2] false kdequeOp h K) o1 got2 h Q) :
    CallT Try.prog 64 [Kd.val kdequeOp o1, Kd.val (.int .i64) got2] false kdequeOp h Q :=
  fn_sound2 (c := weave (Try.f64.body.getD .skip) deque_Op_looked.mk) Try.func64 (by kernel_rfl) Try.ntmps64 (rs := [.cell 4 56]) (by kernel_rfl) [⟨kdequeOp, o1⟩, ⟨(.int .i64), got2⟩] (by kernel_rfl) (by kernel_rfl) (by kernel_rfl) (by kernel_rfl) H

theorem ref3_end.br {code1 : Int} {v2 : Int} {h : Heap} {Q : Den kref3Want → Heap → Prop} (H : ref3_end.M  code1 v2 h Q) :
    CallT Try.prog 65 [Kd.val (.int .i64) code1, Kd.val (.int .i64) v2] false kref3Want h Q :=
  fn_sound2 (c := weave (Try.f65.body.getD .skip) ref3_end.mk) Try.func65 (by kernel_rfl) Try.ntmps65 (rs := [.cell 4 69]) (by kernel_rfl) [⟨(.int .i64), code1⟩, ⟨(.int .i64), v2⟩] (by kernel_rfl) (by kernel_rfl) (by kernel_rfl) (by kernel_rfl) H

theorem ref3_push.br {d1 : Den kparkLot} {v2 : Int} {h3 : Sl} {h : Heap} {Q : Den kref3Want → Heap → Prop} (H : ref3_push.M (fun x0 h K => CallT Try.prog 96 [Kd.val (.int .i64) x0] false kref3Want h K) (fun x0 x1 h K => CallT Try.prog 65 [Kd.val (.int .i64) x0, Kd.val (.int .i64) x1] false kref3Want h K) (fun x0 x1 x2 x3 x4 x5 h K => CallT Try.prog 97 [Kd.val kparkLot x0, Kd.val (.int .i64) x1, Kd.val (.int .i64) x2, Kd.val (.int .i64) x3, Kd.val (.int .i64) x4, Kd.val (.int .i64) x5] false kref3Want h K) (fun x0 x1 h K => CallT Try.prog 58 [Kd.val (.int .i64) x0, Kd.val (.int .i64) x1] false kref3Want h K) (fun x0 x1 x2 h K => CallT Try.prog 98 [Kd.val (.int .i64) x0, Kd.val (.int .i64) x1, Kd.val (.int .i64) x2] false (.int .i64) h K) d1 v2 h3 h Q) :
    CallT Try.prog 66 [Kd.val kparkLot d1, Kd.val (.int .i64) v2, Kd.val .sl h3] false kref3Want h Q :=
  fn_sound2 (c := weave (Try.f66.body.getD .skip) ref3_push.mk) Try.func66 (by kernel_rfl) Try.ntmps66 (rs := [.cell 6 69]) (by kernel_rfl) [⟨kparkLot, d1⟩, ⟨(.int .i64), v2⟩, ⟨.sl, h3⟩] (by kernel_rfl) (by kernel_rfl) (by kernel_rfl) (by kernel_rfl) H

theorem ref3_pop.br {d1 : Den kparkLot} {h2 : Sl} {h : Heap} {Q : Den kref3Want → Heap → Prop} (H : ref3_pop.M (fun x0 h K => CallT Try.prog 96 [Kd.val (.int .i64) x0] false kref3Want h K) (fun x0 x1 h K => CallT Try.prog 58 [Kd.val (.int .i64) x0, Kd.val (.int .i64) x1] false kref3Want h K) (fun x0 x1 h K => CallT Try.prog 65 [Kd.val (.int .i64) x0, Kd.val (.int .i64) x1] false kref3Want h K) (fun x0 x1 x2 h K => CallT Try.prog 98 [Kd.val (.int .i64) x0, Kd.val (.int .i64) x1, Kd.val (.int .i64) x2] false (.int .i64) h K) d1 h2 h Q) :
    CallT Try.prog 67 [Kd.val kparkLot d1, Kd.val .sl h2] false kref3Want h Q :=
  fn_sound2 (c := weave (Try.f67.body.getD .skip) ref3_pop.mk) Try.func67 (by kernel_rfl) Try.ntmps67 (rs := [.cell 4 69]) (by kernel_rfl) [⟨kparkLot, d1⟩, ⟨.sl, h2⟩] (by kernel_rfl) (by kernel_rfl) (by kernel_rfl) (by kernel_rfl) H

theorem ref3_steal.br {d1 : Den kparkLot} {h2 : Sl} {h : Heap} {Q : Den kref3Want → Heap → Prop} (H : ref3_steal.M (fun x0 h K => CallT Try.prog 96 [Kd.val (.int .i64) x0] false kref3Want h K) (fun x0 x1 h K => CallT Try.prog 65 [Kd.val (.int .i64) x0, Kd.val (.int .i64) x1] false kref3Want h K) (fun x0 x1 x2 h K => CallT Try.prog 98 [Kd.val (.int .i64) x0, Kd.val (.int .i64) x1, Kd.val (.int .i64) x2] false (.int .i64) h K) d1 h2 h Q) :
    CallT Try.prog 68 [Kd.val kparkLot d1, Kd.val .sl h2] false kref3Want h Q :=
  fn_sound2 (c := weave (Try.f68.body.getD .skip) ref3_steal.mk) Try.func68 (by kernel_rfl) Try.ntmps68 (rs := [.cell 4 69]) (by kernel_rfl) [⟨kparkLot, d1⟩, ⟨.sl, h2⟩] (by kernel_rfl) (by kernel_rfl) (by kernel_rfl) (by kernel_rfl) H

theorem ref3_look.br {d1 : Den kparkLot} {h2 : Sl} {h : Heap} {Q : Den kref3Want → Heap → Prop} (H : ref3_look.M (fun x0 h K => CallT Try.prog 96 [Kd.val (.int .i64) x0] false kref3Want h K) (fun x0 x1 h K => CallT Try.prog 65 [Kd.val (.int .i64) x0, Kd.val (.int .i64) x1] false kref3Want h K) d1 h2 h Q) :
    CallT Try.prog 69 [Kd.val kparkLot d1, Kd.val .sl h2] false kref3Want h Q :=
  fn_sound2 (c := weave (Try.f69.body.getD .skip) ref3_look.mk) Try.func69 (by kernel_rfl) Try.ntmps69 (rs := [.cell 4 69]) (by kernel_rfl) [⟨kparkLot, d1⟩, ⟨.sl, h2⟩] (by kernel_rfl) (by kernel_rfl) (by kernel_rfl) (by kernel_rfl) H

theorem cells_good.br {size1 : Int} {h : Heap} {Q : Bool → Heap → Prop} (H : cells_good.M  size1 h Q) :
    CallT Try.prog 70 [Kd.val (.int .i64) size1] false .bool h Q :=
  fn_sound2 (c := weave (Try.f70.body.getD .skip) cells_good.mk) Try.func70 (by kernel_rfl) Try.ntmps70 (rs := [.tmp 2]) (by kernel_rfl) [⟨(.int .i64), size1⟩] (by kernel_rfl) (by kernel_rfl) (by kernel_rfl) (by kernel_rfl) H

theorem deque_begin.br {kind1 : Int} {at_2 : Int} {d3 : Den kparkLot} {v4 : Int} {h : Heap} {Q : Den kdequeOp → Heap → Prop} (H : deque_begin.M  kind1 at_2 d3 v4 h Q) :
    CallT Try.prog 71 [Kd.val (.int .i64) kind1, Kd.val (.int .i64) at_2, Kd.val kparkLot d3, Kd.val (.int .i64) v4] false kdequeOp h Q :=
  fn_sound2 (c := weave (Try.f71.body.getD .skip) deque_begin.mk) Try.func71 (by kernel_rfl) Try.ntmps71 (rs := [.cell 8 56]) (by kernel_rfl) [⟨(.int .i64), kind1⟩, ⟨(.int .i64), at_2⟩, ⟨kparkLot, d3⟩, ⟨(.int .i64), v4⟩] (by kernel_rfl) (by kernel_rfl) (by kernel_rfl) (by kernel_rfl) H

theorem cells_ledger_refuse.br {l1 : Option Addr} {n2 : Int} {h : Heap} {Q : Int → Heap → Prop} (H : cells_ledger_refuse.M  l1 n2 h Q) :
    CallT Try.prog 90 [Kd.val .ptr l1, Kd.val (.int .i64) n2] false (.int .i64) h Q :=
  fn_sound2 (c := weave (Try.f90.body.getD .skip) cells_ledger_refuse.mk) Try.func90 (by kernel_rfl) Try.ntmps90 (rs := [.tmp 4]) (by kernel_rfl) [⟨.ptr, l1⟩, ⟨(.int .i64), n2⟩] (by kernel_rfl) (by kernel_rfl) (by kernel_rfl) (by kernel_rfl) H

theorem cells_ledger_take.br {l1 : Option Addr} {n2 : Int} {h : Heap} {Q : Int → Heap → Prop} (H : cells_ledger_take.M  l1 n2 h Q) :
    CallT Try.prog 91 [Kd.val .ptr l1, Kd.val (.int .i64) n2] false (.int .i64) h Q :=
  fn_sound2 (c := weave (Try.f91.body.getD .skip) cells_ledger_take.mk) Try.func91 (by kernel_rfl) Try.ntmps91 (rs := [.tmp 4]) (by kernel_rfl) [⟨.ptr, l1⟩, ⟨(.int .i64), n2⟩] (by kernel_rfl) (by kernel_rfl) (by kernel_rfl) (by kernel_rfl) H

theorem cells_Arena_note.br {a1 : Option Addr} {kind2 : Int} {addr3 : Int} {x4 : Int} {y5 : Int} {ok6 : Bool} {h : Heap} {Q : Unit → Heap → Prop} (H : cells_Arena_note.M  a1 kind2 addr3 x4 y5 ok6 h Q) :
    CallT Try.prog 92 [Kd.val .ptr a1, Kd.val (.int .i64) kind2, Kd.val (.int .i64) addr3, Kd.val (.int .i64) x4, Kd.val (.int .i64) y5, Kd.val .bool ok6] true .nil h Q :=
  fn_sound2 (c := weave (Try.f92.body.getD .skip) cells_Arena_note.mk) Try.func92 (by kernel_rfl) Try.ntmps92 (rs := []) (by kernel_rfl) [⟨.ptr, a1⟩, ⟨(.int .i64), kind2⟩, ⟨(.int .i64), addr3⟩, ⟨(.int .i64), x4⟩, ⟨(.int .i64), y5⟩, ⟨.bool, ok6⟩] (by kernel_rfl) (by kernel_rfl) (by kernel_rfl) (by kernel_rfl) H

theorem cells_Arena_outside.br {a1 : Option Addr} {addr2 : Int} {h : Heap} {Q : Bool → Heap → Prop} (H : cells_Arena_outside.M (fun x0 x1 h K => CallT Try.prog 109 [Kd.val .ptr x0, Kd.val (.int .i64) x1] false .bool h K) a1 addr2 h Q) :
    CallT Try.prog 93 [Kd.val .ptr a1, Kd.val (.int .i64) addr2] false .bool h Q :=
  fn_sound2 (c := weave (Try.f93.body.getD .skip) cells_Arena_outside.mk) Try.func93 (by kernel_rfl) Try.ntmps93 (rs := [.tmp 4]) (by kernel_rfl) [⟨.ptr, a1⟩, ⟨(.int .i64), addr2⟩] (by kernel_rfl) (by kernel_rfl) (by kernel_rfl) (by kernel_rfl) H

theorem deque_place.br {a1 : Int} {c2 : Int} {i3 : Int} {h : Heap} {Q : Int → Heap → Prop} (H : deque_place.M  a1 c2 i3 h Q) :
    CallT Try.prog 94 [Kd.val (.int .i64) a1, Kd.val (.int .i64) c2, Kd.val (.int .i64) i3] false (.int .i64) h Q :=
  fn_sound2 (c := weave (Try.f94.body.getD .skip) deque_place.mk) Try.func94 (by kernel_rfl) Try.ntmps94 (rs := [.tmp 6]) (by kernel_rfl) [⟨(.int .i64), a1⟩, ⟨(.int .i64), c2⟩, ⟨(.int .i64), i3⟩] (by kernel_rfl) (by kernel_rfl) (by kernel_rfl) (by kernel_rfl) H

theorem deque_Op_next.br {o1 : Den kdequeOp} {h : Heap} {Q : Int → Heap → Prop} (H : deque_Op_next.M  o1 h Q) :
    CallT Try.prog 95 [Kd.val kdequeOp o1] false (.int .i64) h Q :=
  fn_sound2 (c := weave (Try.f95.body.getD .skip) deque_Op_next.mk) Try.func95 (by kernel_rfl) Try.ntmps95 (rs := [.tmp 2]) (by kernel_rfl) [⟨kdequeOp, o1⟩] (by kernel_rfl) (by kernel_rfl) (by kernel_rfl) (by kernel_rfl) H

theorem ref3_load.br {addr1 : Int} {h : Heap} {Q : Den kref3Want → Heap → Prop} (H : ref3_load.M  addr1 h Q) :
    CallT Try.prog 96 [Kd.val (.int .i64) addr1] false kref3Want h Q :=
  fn_sound2 (c := weave (Try.f96.body.getD .skip) ref3_load.mk) Try.func96 (by kernel_rfl) Try.ntmps96 (rs := [.cell 2 69]) (by kernel_rfl) [⟨(.int .i64), addr1⟩] (by kernel_rfl) (by kernel_rfl) (by kernel_rfl) (by kernel_rfl) H

theorem ref3_last.br {d1 : Den kparkLot} {v2 : Int} {a3 : Int} {c4 : Int} {b5 : Int} {n6 : Int} {h : Heap} {Q : Den kref3Want → Heap → Prop} (H : ref3_last.M (fun x0 x1 x2 h K => CallT Try.prog 98 [Kd.val (.int .i64) x0, Kd.val (.int .i64) x1, Kd.val (.int .i64) x2] false (.int .i64) h K) (fun x0 x1 h K => CallT Try.prog 58 [Kd.val (.int .i64) x0, Kd.val (.int .i64) x1] false kref3Want h K) (fun x0 x1 h K => CallT Try.prog 65 [Kd.val (.int .i64) x0, Kd.val (.int .i64) x1] false kref3Want h K) d1 v2 a3 c4 b5 n6 h Q) :
    CallT Try.prog 97 [Kd.val kparkLot d1, Kd.val (.int .i64) v2, Kd.val (.int .i64) a3, Kd.val (.int .i64) c4, Kd.val (.int .i64) b5, Kd.val (.int .i64) n6] false kref3Want h Q :=
  fn_sound2 (c := weave (Try.f97.body.getD .skip) ref3_last.mk) Try.func97 (by kernel_rfl) Try.ntmps97 (rs := [.cell 12 69]) (by kernel_rfl) [⟨kparkLot, d1⟩, ⟨(.int .i64), v2⟩, ⟨(.int .i64), a3⟩, ⟨(.int .i64), c4⟩, ⟨(.int .i64), b5⟩, ⟨(.int .i64), n6⟩] (by kernel_rfl) (by kernel_rfl) (by kernel_rfl) (by kernel_rfl) H

theorem ref3_at.br {a1 : Int} {c2 : Int} {i3 : Int} {h : Heap} {Q : Int → Heap → Prop} (H : ref3_at.M (fun x0 x1 h K => CallT Try.prog 110 [Kd.val (.int .i64) x0, Kd.val (.int .i64) x1] false (.int .i64) h K) a1 c2 i3 h Q) :
    CallT Try.prog 98 [Kd.val (.int .i64) a1, Kd.val (.int .i64) c2, Kd.val (.int .i64) i3] false (.int .i64) h Q :=
  fn_sound2 (c := weave (Try.f98.body.getD .skip) ref3_at.mk) Try.func98 (by kernel_rfl) Try.ntmps98 (rs := [.tmp 6]) (by kernel_rfl) [⟨(.int .i64), a1⟩, ⟨(.int .i64), c2⟩, ⟨(.int .i64), i3⟩] (by kernel_rfl) (by kernel_rfl) (by kernel_rfl) (by kernel_rfl) H

theorem cells_ledger_has.br {l1 : Option Addr} {addr2 : Int} {h : Heap} {Q : Bool → Heap → Prop} (H : cells_ledger_has.M  l1 addr2 h Q) :
    CallT Try.prog 109 [Kd.val .ptr l1, Kd.val (.int .i64) addr2] false .bool h Q :=
  fn_sound2 (c := weave (Try.f109.body.getD .skip) cells_ledger_has.mk) Try.func109 (by kernel_rfl) Try.ntmps109 (rs := [.tmp 4]) (by kernel_rfl) [⟨.ptr, l1⟩, ⟨(.int .i64), addr2⟩] (by kernel_rfl) (by kernel_rfl) (by kernel_rfl) (by kernel_rfl) H

theorem ref3_Mod.br {x1 : Int} {n2 : Int} {h : Heap} {Q : Int → Heap → Prop} (H : ref3_Mod.M  x1 n2 h Q) :
    CallT Try.prog 110 [Kd.val (.int .i64) x1, Kd.val (.int .i64) n2] false (.int .i64) h Q :=
  fn_sound2 (c := weave (Try.f110.body.getD .skip) ref3_Mod.mk) Try.func110 (by kernel_rfl) Try.ntmps110 (rs := [.tmp 4]) (by kernel_rfl) [⟨(.int .i64), x1⟩, ⟨(.int .i64), n2⟩] (by kernel_rfl) (by kernel_rfl) (by kernel_rfl) (by kernel_rfl) H

theorem cells_Arena_Add.br {a1 : Option Addr} {addr2 : Int} {d3 : Int} {h : Heap} {Q : Den kparkLot → Heap → Prop} (H : cells_Arena_Add.M (fun x0 x1 h K => CallT Try.prog 93 [Kd.val .ptr x0, Kd.val (.int .i64) x1] false .bool h K) (fun x0 x1 x2 x3 x4 x5 h K => CallT Try.prog 92 [Kd.val .ptr x0, Kd.val (.int .i64) x1, Kd.val (.int .i64) x2, Kd.val (.int .i64) x3, Kd.val (.int .i64) x4, Kd.val .bool x5] true .nil h K) a1 addr2 d3 h Q) :
    CallT Try.prog 126 [Kd.val .ptr a1, Kd.val (.int .i64) addr2, Kd.val (.int .i64) d3] true kparkLot h Q :=
  fn_sound2 (c := weave (Try.f126.body.getD .skip) cells_Arena_Add.mk) Try.func126 (by kernel_rfl) Try.ntmps126 (rs := [.tmp 6, .tmp 7]) (by kernel_rfl) [⟨.ptr, a1⟩, ⟨(.int .i64), addr2⟩, ⟨(.int .i64), d3⟩] (by kernel_rfl) (by kernel_rfl) (by kernel_rfl) (by kernel_rfl) H

theorem cells_Arena_CAS.br {a1 : Option Addr} {addr2 : Int} {old3 : Int} {next4 : Int} {h : Heap} {Q : (Bool × (Int × Unit)) → Heap → Prop} (H : cells_Arena_CAS.M (fun x0 x1 h K => CallT Try.prog 93 [Kd.val .ptr x0, Kd.val (.int .i64) x1] false .bool h K) (fun x0 x1 x2 x3 x4 x5 h K => CallT Try.prog 92 [Kd.val .ptr x0, Kd.val (.int .i64) x1, Kd.val (.int .i64) x2, Kd.val (.int .i64) x3, Kd.val (.int .i64) x4, Kd.val .bool x5] true .nil h K) a1 addr2 old3 next4 h Q) :
    CallT Try.prog 127 [Kd.val .ptr a1, Kd.val (.int .i64) addr2, Kd.val (.int .i64) old3, Kd.val (.int .i64) next4] true (.pair .bool (.pair (.int .i64) .nil)) h Q :=
  fn_sound2 (c := weave (Try.f127.body.getD .skip) cells_Arena_CAS.mk) Try.func127 (by kernel_rfl) Try.ntmps127 (rs := [.tmp 8, .tmp 9]) (by kernel_rfl) [⟨.ptr, a1⟩, ⟨(.int .i64), addr2⟩, ⟨(.int .i64), old3⟩, ⟨(.int .i64), next4⟩] (by kernel_rfl) (by kernel_rfl) (by kernel_rfl) (by kernel_rfl) H

theorem cells_Arena_Load.br {a1 : Option Addr} {addr2 : Int} {h : Heap} {Q : Den kparkLot → Heap → Prop} (H : cells_Arena_Load.M (fun x0 x1 h K => CallT Try.prog 93 [Kd.val .ptr x0, Kd.val (.int .i64) x1] false .bool h K) (fun x0 x1 x2 x3 x4 x5 h K => CallT Try.prog 92 [Kd.val .ptr x0, Kd.val (.int .i64) x1, Kd.val (.int .i64) x2, Kd.val (.int .i64) x3, Kd.val (.int .i64) x4, Kd.val .bool x5] true .nil h K) a1 addr2 h Q) :
    CallT Try.prog 128 [Kd.val .ptr a1, Kd.val (.int .i64) addr2] true kparkLot h Q :=
  fn_sound2 (c := weave (Try.f128.body.getD .skip) cells_Arena_Load.mk) Try.func128 (by kernel_rfl) Try.ntmps128 (rs := [.tmp 4, .tmp 5]) (by kernel_rfl) [⟨.ptr, a1⟩, ⟨(.int .i64), addr2⟩] (by kernel_rfl) (by kernel_rfl) (by kernel_rfl) (by kernel_rfl) H

theorem law3_Deny_CAS.br {m1 : Option Addr} {addr2 : Int} {from_3 : Int} {to4 : Int} {h : Heap} {Q : (Bool × (Int × Unit)) → Heap → Prop} (H : law3_Deny_CAS.M (fun x0 h K => CallT Try.prog 135 [Kd.val .ptr x0] false .bool h K) (fun x0 x1 x2 x3 h K => CallT Try.prog 127 [Kd.val .ptr x0, Kd.val (.int .i64) x1, Kd.val (.int .i64) x2, Kd.val (.int .i64) x3] true (.pair .bool (.pair (.int .i64) .nil)) h K) m1 addr2 from_3 to4 h Q) :
    CallT Try.prog 131 [Kd.val .ptr m1, Kd.val (.int .i64) addr2, Kd.val (.int .i64) from_3, Kd.val (.int .i64) to4] true (.pair .bool (.pair (.int .i64) .nil)) h Q :=
  fn_sound2 (c := weave (Try.f131.body.getD .skip) law3_Deny_CAS.mk) Try.func131 (by kernel_rfl) Try.ntmps131 (rs := [.tmp 8, .tmp 9]) (by kernel_rfl) [⟨.ptr, m1⟩, ⟨(.int .i64), addr2⟩, ⟨(.int .i64), from_3⟩, ⟨(.int .i64), to4⟩] (by kernel_rfl) (by kernel_rfl) (by kernel_rfl) (by kernel_rfl) H

theorem law3_Deny_Load.br {m1 : Option Addr} {addr2 : Int} {h : Heap} {Q : Den kparkLot → Heap → Prop} (H : law3_Deny_Load.M (fun x0 h K => CallT Try.prog 135 [Kd.val .ptr x0] false .bool h K) (fun x0 x1 h K => CallT Try.prog 128 [Kd.val .ptr x0, Kd.val (.int .i64) x1] true kparkLot h K) m1 addr2 h Q) :
    CallT Try.prog 132 [Kd.val .ptr m1, Kd.val (.int .i64) addr2] true kparkLot h Q :=
  fn_sound2 (c := weave (Try.f132.body.getD .skip) law3_Deny_Load.mk) Try.func132 (by kernel_rfl) Try.ntmps132 (rs := [.tmp 4, .tmp 5]) (by kernel_rfl) [⟨.ptr, m1⟩, ⟨(.int .i64), addr2⟩] (by kernel_rfl) (by kernel_rfl) (by kernel_rfl) (by kernel_rfl) H

theorem law3_Deny_Reserve.br {m1 : Option Addr} {n2 : Int} {h : Heap} {Q : Den kparkLot → Heap → Prop} (H : law3_Deny_Reserve.M (fun x0 h K => CallT Try.prog 135 [Kd.val .ptr x0] false .bool h K) (fun x0 x1 h K => CallT Try.prog 52 [Kd.val .ptr x0, Kd.val (.int .i64) x1] true kparkLot h K) m1 n2 h Q) :
    CallT Try.prog 133 [Kd.val .ptr m1, Kd.val (.int .i64) n2] true kparkLot h Q :=
  fn_sound2 (c := weave (Try.f133.body.getD .skip) law3_Deny_Reserve.mk) Try.func133 (by kernel_rfl) Try.ntmps133 (rs := [.tmp 4, .tmp 5]) (by kernel_rfl) [⟨.ptr, m1⟩, ⟨(.int .i64), n2⟩] (by kernel_rfl) (by kernel_rfl) (by kernel_rfl) (by kernel_rfl) H

theorem law3_Deny_Store.br {m1 : Option Addr} {addr2 : Int} {v3 : Int} {h : Heap} {Q : Int → Heap → Prop} (H : law3_Deny_Store.M (fun x0 h K => CallT Try.prog 135 [Kd.val .ptr x0] false .bool h K) (fun x0 x1 x2 h K => CallT Try.prog 53 [Kd.val .ptr x0, Kd.val (.int .i64) x1, Kd.val (.int .i64) x2] false (.int .i64) h K) m1 addr2 v3 h Q) :
    CallT Try.prog 134 [Kd.val .ptr m1, Kd.val (.int .i64) addr2, Kd.val (.int .i64) v3] false (.int .i64) h Q :=
  fn_sound2 (c := weave (Try.f134.body.getD .skip) law3_Deny_Store.mk) Try.func134 (by kernel_rfl) Try.ntmps134 (rs := [.tmp 6]) (by kernel_rfl) [⟨.ptr, m1⟩, ⟨(.int .i64), addr2⟩, ⟨(.int .i64), v3⟩] (by kernel_rfl) (by kernel_rfl) (by kernel_rfl) (by kernel_rfl) H

theorem law3_Deny_refuses.br {m1 : Option Addr} {h : Heap} {Q : Bool → Heap → Prop} (H : law3_Deny_refuses.M  m1 h Q) :
    CallT Try.prog 135 [Kd.val .ptr m1] false .bool h Q :=
  fn_sound2 (c := weave (Try.f135.body.getD .skip) law3_Deny_refuses.mk) Try.func135 (by kernel_rfl) Try.ntmps135 (rs := [.tmp 2]) (by kernel_rfl) [⟨.ptr, m1⟩] (by kernel_rfl) (by kernel_rfl) (by kernel_rfl) (by kernel_rfl) H

end Go.Mx
