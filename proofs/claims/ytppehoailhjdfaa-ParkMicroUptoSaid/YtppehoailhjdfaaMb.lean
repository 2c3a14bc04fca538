/-
  The bridges: a function's calls, by what it comes to over abstract heaps: printed by a program of this workplace.
-/
import Derived.Test.YtppehoailhjdfaaMd
import Derived.Test.YtppehoailhjdfaaProg
set_option linter.unusedVariables false
set_option maxRecDepth 100000
namespace Go.Mx
open Go.Proofs
theorem law9_ParkMicro.e1 {Q : Bool → Heap → Prop} (s : (Int × (Sl × (Int × (Int × (Sl × (Sl × Unit))))))) (h : Heap) : law9_ParkMicro.k7 (fun x0 x1 h K => CallT Try.prog 9 [Kd.val (.int .i64) x0, Kd.val (.int .i64) x1] false (.int .i64) h K) (fun x0 x1 h K => CallT Try.prog 10 [Kd.val (.int .i64) x0, Kd.val .sl x1] true (.pair .ptr (.pair .bool .nil)) h K) (fun  h K => CallT Try.prog 44 [] false kref9Op h K) (fun x0 x1 x2 x3 h K => CallT Try.prog 45 [Kd.val klaw3Move x0, Kd.val (.int .i64) x1, Kd.val (.int .i64) x2, Kd.val .sl x3] true (.pair kparkOp (.pair kref9Op .nil)) h K) (fun x0 x1 h K => CallT Try.prog 29 [Kd.val .ptr x0, Kd.val (.int .i64) x1] true .nil h K) (fun x0 x1 h K => CallT Try.prog 46 [Kd.val .iface x0, Kd.val kparkOp x1] false kparkOp h K) (fun x0 x1 h K => CallT Try.prog 47 [Kd.val .ptr x0, Kd.val kref9Op x1] false kref9Op h K) (fun x0 h K => CallT Try.prog 48 [Kd.val kref9Op x0] true kparkLot h K) (fun x0 h K => CallT Try.prog 33 [Kd.val (.int .i64) x0] true (.pair .ptr (.pair (.int .i64) .nil)) h K) (fun x0 h K => CallT Try.prog 49 [Kd.val kparkOp x0] true kparkLot h K) (fun x0 h K => CallT Try.prog 50 [Kd.val kparkOp x0] false .bool h K) (fun x0 h K => CallT Try.prog 51 [Kd.val kref9Op x0] false .bool h K) (fun x0 h K => CallT Try.prog 14 [Kd.val .ptr x0] false .sl h K) (fun x0 x1 h K => CallT Try.prog 13 [Kd.val .sl x0, Kd.val .sl x1] false .bool h K) (fun x0 h K => CallT Try.prog 16 [Kd.val .ptr x0] false .sl h K) (fun x0 x1 h K => CallT Try.prog 15 [Kd.val .sl x0, Kd.val .sl x1] false .bool h K) Q s h = interp Try.prog 233 (AC.rest 2 (weave (Try.f8.body.getD .skip) law9_ParkMicro.mk)) [] (setC [.slot 0 (.int .i64), .slot 1 .sl, .slot 2 (.int .i64), .slot 3 (.int .i64), .slot 4 .sl, .slot 5 .sl] s (addrS [])) (setB [.slot 0 (.int .i64), .slot 1 .sl, .slot 2 (.int .i64), .slot 3 (.int .i64), .slot 4 .sl, .slot 5 .sl] s []) h (retK Try.prog [.tmp 12] false .bool Q) (fun _ _ _ _ => False) (retK Try.prog [.tmp 12] false .bool Q) :=
  (by kernel_rfl)
theorem law9_ParkMicro.br {size1 : Int} {begin2 : Sl} {base3 : Int} {workers4 : Int} {ds5 : Sl} {moves6 : Sl} {h : Heap} {Q : Bool → Heap → Prop} (H : law9_ParkMicro.M (fun x0 x1 h K => CallT Try.prog 9 [Kd.val (.int .i64) x0, Kd.val (.int .i64) x1] false (.int .i64) h K) (fun x0 x1 h K => CallT Try.prog 10 [Kd.val (.int .i64) x0, Kd.val .sl x1] true (.pair .ptr (.pair .bool .nil)) h K) (fun  h K => CallT Try.prog 44 [] false kref9Op h K) (fun x0 x1 x2 x3 h K => CallT Try.prog 45 [Kd.val klaw3Move x0, Kd.val (.int .i64) x1, Kd.val (.int .i64) x2, Kd.val .sl x3] true (.pair kparkOp (.pair kref9Op .nil)) h K) (fun x0 x1 h K => CallT Try.prog 29 [Kd.val .ptr x0, Kd.val (.int .i64) x1] true .nil h K) (fun x0 x1 h K => CallT Try.prog 46 [Kd.val .iface x0, Kd.val kparkOp x1] false kparkOp h K) (fun x0 x1 h K => CallT Try.prog 47 [Kd.val .ptr x0, Kd.val kref9Op x1] false kref9Op h K) (fun x0 h K => CallT Try.prog 48 [Kd.val kref9Op x0] true kparkLot h K) (fun x0 h K => CallT Try.prog 33 [Kd.val (.int .i64) x0] true (.pair .ptr (.pair (.int .i64) .nil)) h K) (fun x0 h K => CallT Try.prog 49 [Kd.val kparkOp x0] true kparkLot h K) (fun x0 h K => CallT Try.prog 50 [Kd.val kparkOp x0] false .bool h K) (fun x0 h K => CallT Try.prog 51 [Kd.val kref9Op x0] false .bool h K) (fun x0 h K => CallT Try.prog 14 [Kd.val .ptr x0] false .sl h K) (fun x0 x1 h K => CallT Try.prog 13 [Kd.val .sl x0, Kd.val .sl x1] false .bool h K) (fun x0 h K => CallT Try.prog 16 [Kd.val .ptr x0] false .sl h K) (fun x0 x1 h K => CallT Try.prog 15 [Kd.val .sl x0, Kd.val .sl x1] false .bool h K) size1 begin2 base3 workers4 ds5 moves6 h Q) :
    CallT Try.prog 8 [Kd.val (.int .i64) size1, Kd.val .sl begin2, Kd.val (.int .i64) base3, Kd.val (.int .i64) workers4, Kd.val .sl ds5, Kd.val .sl moves6] false .bool h Q :=
  fn_sound2 (c := weave (Try.f8.body.getD .skip) law9_ParkMicro.mk) Try.func8 (by kernel_rfl) Try.ntmps8 (rs := [.tmp 12]) (by kernel_rfl) [⟨(.int .i64), size1⟩, ⟨.sl, begin2⟩, ⟨(.int .i64), base3⟩, ⟨(.int .i64), workers4⟩, ⟨.sl, ds5⟩, ⟨.sl, moves6⟩] (by kernel_rfl) (by kernel_rfl) (by kernel_rfl) (cut_part 2 (cc := [.slot 0 (.int .i64), .slot 1 .sl, .slot 2 (.int .i64), .slot 3 (.int .i64), .slot 4 .sl, .slot 5 .sl]) (A := []) (b := (AC.rest 2 (weave (Try.f8.body.getD .skip) law9_ParkMicro.mk))) (by kernel_rfl) (fun s h => law9_ParkMicro.k7 (fun x0 x1 h K => CallT Try.prog 9 [Kd.val (.int .i64) x0, Kd.val (.int .i64) x1] false (.int .i64) h K) (fun x0 x1 h K => CallT Try.prog 10 [Kd.val (.int .i64) x0, Kd.val .sl x1] true (.pair .ptr (.pair .bool .nil)) h K) (fun  h K => CallT Try.prog 44 [] false kref9Op h K) (fun x0 x1 x2 x3 h K => CallT Try.prog 45 [Kd.val klaw3Move x0, Kd.val (.int .i64) x1, Kd.val (.int .i64) x2, Kd.val .sl x3] true (.pair kparkOp (.pair kref9Op .nil)) h K) (fun x0 x1 h K => CallT Try.prog 29 [Kd.val .ptr x0, Kd.val (.int .i64) x1] true .nil h K) (fun x0 x1 h K => CallT Try.prog 46 [Kd.val .iface x0, Kd.val kparkOp x1] false kparkOp h K) (fun x0 x1 h K => CallT Try.prog 47 [Kd.val .ptr x0, Kd.val kref9Op x1] false kref9Op h K) (fun x0 h K => CallT Try.prog 48 [Kd.val kref9Op x0] true kparkLot h K) (fun x0 h K => CallT Try.prog 33 [Kd.val (.int .i64) x0] true (.pair .ptr (.pair (.int .i64) .nil)) h K) (fun x0 h K => CallT Try.prog 49 [Kd.val kparkOp x0] true kparkLot h K) (fun x0 h K => CallT Try.prog 50 [Kd.val kparkOp x0] false .bool h K) (fun x0 h K => CallT Try.prog 51 [Kd.val kref9Op x0] false .bool h K) (fun x0 h K => CallT Try.prog 14 [Kd.val .ptr x0] false .sl h K) (fun x0 x1 h K => CallT Try.prog 13 [Kd.val .sl x0, Kd.val .sl x1] false .bool h K) (fun x0 h K => CallT Try.prog 16 [Kd.val .ptr x0] false .sl h K) (fun x0 x1 h K => CallT Try.prog 15 [Kd.val .sl x0, Kd.val .sl x1] false .bool h K) Q s h) (by kernel_rfl) law9_ParkMicro.e1) H

theorem law9_mod.br {x1 : Int} {n2 : Int} {h : Heap} {Q : Int → Heap → Prop} (H : law9_mod.M  x1 n2 h Q) :
    CallT Try.prog 9 [Kd.val (.int .i64) x1, Kd.val (.int .i64) n2] false (.int .i64) h Q :=
  fn_sound2 (c := weave (Try.f9.body.getD .skip) law9_mod.mk) Try.func9 (by kernel_rfl) Try.ntmps9 (rs := [.tmp 4]) (by kernel_rfl) [⟨(.int .i64), x1⟩, ⟨(.int .i64), n2⟩] (by kernel_rfl) (by kernel_rfl) (by kernel_rfl) (by kernel_rfl) H

theorem law9_arena.br {size1 : Int} {begin2 : Sl} {h : Heap} {Q : (Option Addr × (Bool × Unit)) → Heap → Prop} (H : law9_arena.M (fun x0 h K => CallT Try.prog 33 [Kd.val (.int .i64) x0] true (.pair .ptr (.pair (.int .i64) .nil)) h K) (fun x0 x1 h K => CallT Try.prog 52 [Kd.val .ptr x0, Kd.val (.int .i64) x1] true kparkLot h K) (fun x0 x1 x2 h K => CallT Try.prog 53 [Kd.val .ptr x0, Kd.val (.int .i64) x1, Kd.val (.int .i64) x2] false (.int .i64) h K) (fun x0 x1 h K => CallT Try.prog 54 [Kd.val .ptr x0, Kd.val .bool x1] true .nil h K) size1 begin2 h Q) :
    CallT Try.prog 10 [Kd.val (.int .i64) size1, Kd.val .sl begin2] true (.pair .ptr (.pair .bool .nil)) h Q :=
  fn_sound2 (c := weave (Try.f10.body.getD .skip) law9_arena.mk) Try.func10 (by kernel_rfl) Try.ntmps10 (rs := [.tmp 4, .tmp 5]) (by kernel_rfl) [⟨(.int .i64), size1⟩, ⟨.sl, begin2⟩] (by kernel_rfl) (by kernel_rfl) (by kernel_rfl) (by kernel_rfl) H

theorem law9_sameInts.br {a1 : Sl} {b2 : Sl} {h : Heap} {Q : Bool → Heap → Prop} (H : law9_sameInts.M  a1 b2 h Q) :
    CallT Try.prog 13 [Kd.val .sl a1, Kd.val .sl b2] false .bool h Q :=
  fn_sound2 (c := weave (Try.f13.body.getD .skip) law9_sameInts.mk) Try.func13 (by kernel_rfl) Try.ntmps13 (rs := [.tmp 4]) (by kernel_rfl) [⟨.sl, a1⟩, ⟨.sl, b2⟩] (by kernel_rfl) (by kernel_rfl) (by kernel_rfl) (by kernel_rfl) H

theorem cells_Arena_Cells.br {a1 : Option Addr} {h : Heap} {Q : Sl → Heap → Prop} (H : cells_Arena_Cells.M  a1 h Q) :
    CallT Try.prog 14 [Kd.val .ptr a1] false .sl h Q :=
  fn_sound2 (c := weave (Try.f14.body.getD .skip) cells_Arena_Cells.mk) Try.func14 (by kernel_rfl) Try.ntmps14 (rs := [.tmp 2]) (by kernel_rfl) [⟨.ptr, a1⟩] (by kernel_rfl) (by kernel_rfl) (by kernel_rfl) (by kernel_rfl) H

theorem law9_sameLog.br {a1 : Sl} {b2 : Sl} {h : Heap} {Q : Bool → Heap → Prop} (H : law9_sameLog.M  a1 b2 h Q) :
    CallT Try.prog 15 [Kd.val .sl a1, Kd.val .sl b2] false .bool h Q :=
  fn_sound2 (c := weave (Try.f15.body.getD .skip) law9_sameLog.mk) Try.func15 (by kernel_rfl) Try.ntmps15 (rs := [.tmp 4]) (by kernel_rfl) [⟨.sl, a1⟩, ⟨.sl, b2⟩] (by kernel_rfl) (by kernel_rfl) (by kernel_rfl) (by kernel_rfl) H

theorem cells_Arena_Log.br {a1 : Option Addr} {h : Heap} {Q : Sl → Heap → Prop} (H : cells_Arena_Log.M  a1 h Q) :
    CallT Try.prog 16 [Kd.val .ptr a1] false .sl h Q :=
  fn_sound2 (c := weave (Try.f16.body.getD .skip) cells_Arena_Log.mk) Try.func16 (by kernel_rfl) Try.ntmps16 (rs := [.tmp 2]) (by kernel_rfl) [⟨.ptr, a1⟩] (by kernel_rfl) (by kernel_rfl) (by kernel_rfl) (by kernel_rfl) H

theorem park_Cells.br {workers1 : Int} {h : Heap} {Q : Int → Heap → Prop} (H : park_Cells.M  workers1 h Q) :
    CallT Try.prog 17 [Kd.val (.int .i64) workers1] false (.int .i64) h Q :=
  fn_sound2 (c := weave (Try.f17.body.getD .skip) park_Cells.mk) Try.func17 (by kernel_rfl) Try.ntmps17 (rs := [.tmp 2]) (by kernel_rfl) [⟨(.int .i64), workers1⟩] (by kernel_rfl) (by kernel_rfl) (by kernel_rfl) (by kernel_rfl) H

theorem cells_Arena_Who.br {a1 : Option Addr} {actor2 : Int} {h : Heap} {Q : Unit → Heap → Prop} (H : cells_Arena_Who.M  a1 actor2 h Q) :
    CallT Try.prog 29 [Kd.val .ptr a1, Kd.val (.int .i64) actor2] true .nil h Q :=
  fn_sound2 (c := weave (Try.f29.body.getD .skip) cells_Arena_Who.mk) Try.func29 (by kernel_rfl) Try.ntmps29 (rs := []) (by kernel_rfl) [⟨.ptr, a1⟩, ⟨(.int .i64), actor2⟩] (by kernel_rfl) (by kernel_rfl) (by kernel_rfl) (by kernel_rfl) H

theorem deque_Step.br {m1 : Value} {o2 : Den kdequeOp} {h : Heap} {Q : Den kdequeOp → Heap → Prop} (H : deque_Step.M (fun x0 x1 x2 h K => CallT Try.prog 59 [Kd.val kdequeOp x0, Kd.val (.int .i64) x1, Kd.val (.int .i64) x2] false kdequeOp h K) (fun x0 x1 h K => CallT Try.prog 60 [Kd.val kdequeOp x0, Kd.val .iface x1] true kparkLot h K) (fun x0 x1 h K => CallT Try.prog 61 [Kd.val kdequeOp x0, Kd.val (.int .i64) x1] false kdequeOp h K) (fun x0 x1 h K => CallT Try.prog 62 [Kd.val kdequeOp x0, Kd.val (.int .i64) x1] false kdequeOp h K) (fun x0 x1 h K => CallT Try.prog 63 [Kd.val kdequeOp x0, Kd.val (.int .i64) x1] false kdequeOp h K) (fun x0 x1 h K => CallT Try.prog 64 [Kd.val kdequeOp x0, Kd.val (.int .i64) x1] false kdequeOp h K) m1 o2 h Q) :
    CallT Try.prog 30 [Kd.val .iface m1, Kd.val kdequeOp o2] false kdequeOp h Q :=
  fn_sound2 (c := weave (Try.f30.body.getD .skip) deque_Step.mk) Try.func30 (by kernel_rfl) Try.ntmps30 (rs := [.cell 4 56]) (by kernel_rfl) [⟨.iface, m1⟩, ⟨kdequeOp, o2⟩] (by kernel_rfl) (by kernel_rfl) (by kernel_rfl) (by kernel_rfl) H

theorem cells_New.br {size1 : Int} {h : Heap} {Q : (Option Addr × (Int × Unit)) → Heap → Prop} (H : cells_New.M (fun x0 h K => CallT Try.prog 70 [Kd.val (.int .i64) x0] false .bool h K) size1 h Q) :
    CallT Try.prog 33 [Kd.val (.int .i64) size1] true (.pair .ptr (.pair (.int .i64) .nil)) h Q :=
  fn_sound2 (c := weave (Try.f33.body.getD .skip) cells_New.mk) Try.func33 (by kernel_rfl) Try.ntmps33 (rs := [.tmp 2, .tmp 3]) (by kernel_rfl) [⟨(.int .i64), size1⟩] (by kernel_rfl) (by kernel_rfl) (by kernel_rfl) (by kernel_rfl) H

theorem deque_Answer.br {o1 : Den kdequeOp} {h : Heap} {Q : Den kparkLot → Heap → Prop} (H : deque_Answer.M  o1 h Q) :
    CallT Try.prog 34 [Kd.val kdequeOp o1] true kparkLot h Q :=
  fn_sound2 (c := weave (Try.f34.body.getD .skip) deque_Answer.mk) Try.func34 (by kernel_rfl) Try.ntmps34 (rs := [.tmp 2, .tmp 3]) (by kernel_rfl) [⟨kdequeOp, o1⟩] (by kernel_rfl) (by kernel_rfl) (by kernel_rfl) (by kernel_rfl) H

theorem deque_Look.br {d1 : Den kparkLot} {h : Heap} {Q : Den kdequeOp → Heap → Prop} (H : deque_Look.M (fun x0 x1 x2 x3 h K => CallT Try.prog 71 [Kd.val (.int .i64) x0, Kd.val (.int .i64) x1, Kd.val kparkLot x2, Kd.val (.int .i64) x3] false kdequeOp h K) d1 h Q) :
    CallT Try.prog 40 [Kd.val kparkLot d1] false kdequeOp h Q :=
  fn_sound2 (c := weave (Try.f40.body.getD .skip) deque_Look.mk) Try.func40 (by kernel_rfl) Try.ntmps40 (rs := [.cell 2 56]) (by kernel_rfl) [⟨kparkLot, d1⟩] (by kernel_rfl) (by kernel_rfl) (by kernel_rfl) (by kernel_rfl) H

theorem ref9_Dead.br  {h : Heap} {Q : Den kref9Op → Heap → Prop} (H : ref9_Dead.M   h Q) :
    CallT Try.prog 44 [] false kref9Op h Q :=
  fn_sound2 (c := weave (Try.f44.body.getD .skip) ref9_Dead.mk) Try.func44 (by kernel_rfl) Try.ntmps44 (rs := [.cell 0 102]) (by kernel_rfl) [] (by kernel_rfl) (by kernel_rfl) (by kernel_rfl) (by kernel_rfl) H

theorem law9_born.br {v1 : Den klaw3Move} {base2 : Int} {workers3 : Int} {ds4 : Sl} {h : Heap} {Q : (Den kparkOp × (Den kref9Op × Unit)) → Heap → Prop} (H : law9_born.M (fun x0 x1 x2 h K => CallT Try.prog 72 [Kd.val kparkLot x0, Kd.val (.int .i64) x1, Kd.val .sl x2] false kparkOp h K) (fun x0 x1 x2 h K => CallT Try.prog 73 [Kd.val kparkLot x0, Kd.val (.int .i64) x1, Kd.val .sl x2] false kref9Op h K) (fun x0 x1 h K => CallT Try.prog 74 [Kd.val kparkLot x0, Kd.val (.int .i64) x1] false kparkOp h K) (fun x0 x1 h K => CallT Try.prog 75 [Kd.val kparkLot x0, Kd.val (.int .i64) x1] false kref9Op h K) (fun x0 h K => CallT Try.prog 76 [Kd.val kparkLot x0] false kparkOp h K) (fun x0 h K => CallT Try.prog 77 [Kd.val kparkLot x0] false kref9Op h K) (fun x0 x1 h K => CallT Try.prog 78 [Kd.val kparkLot x0, Kd.val (.int .i64) x1] false kparkOp h K) (fun x0 x1 h K => CallT Try.prog 79 [Kd.val kparkLot x0, Kd.val (.int .i64) x1] false kref9Op h K) (fun  h K => CallT Try.prog 44 [] false kref9Op h K) v1 base2 workers3 ds4 h Q) :
    CallT Try.prog 45 [Kd.val klaw3Move v1, Kd.val (.int .i64) base2, Kd.val (.int .i64) workers3, Kd.val .sl ds4] true (.pair kparkOp (.pair kref9Op .nil)) h Q :=
  fn_sound2 (c := weave (Try.f45.body.getD .skip) law9_born.mk) Try.func45 (by kernel_rfl) Try.ntmps45 (rs := [.cell 8 98, .cell 9 102]) (by kernel_rfl) [⟨klaw3Move, v1⟩, ⟨(.int .i64), base2⟩, ⟨(.int .i64), workers3⟩, ⟨.sl, ds4⟩] (by kernel_rfl) (by kernel_rfl) (by kernel_rfl) (by kernel_rfl) H

theorem park_Step.e2 {Q : Den kparkOp → Heap → Prop} (s : (Option Addr × ((Int × (Int × (Int × (Int × (Int × (Int × (Int × (Int × (Int × ((Fin 64 → Den kparkLot) × (Int × (Int × (Int × (Int × (Int × (Int × (Int × (Int × (Int × (Int × (Int × (Int × (Int × (Bool × Den kparkLot)))))))))))))))))))))))) × Unit))) (h : Heap) : park_Step.k1 Q s h = interp Try.prog 66 (AC.rest 4 (AC.rest 1 (weave (Try.f46.body.getD .skip) park_Step.mk))) [] (setC [.slot 3 .ptr, .box 4 (.pair (.int .i64) (.pair (.int .i64) (.pair (.int .i64) (.pair (.int .i64) (.pair (.int .i64) (.pair (.int .i64) (.pair (.int .i64) (.pair (.int .i64) (.pair (.int .i64) (.pair (.arr 64 kparkLot) (.pair (.int .i64) (.pair (.int .i64) (.pair (.int .i64) (.pair (.int .i64) (.pair (.int .i64) (.pair (.int .i64) (.pair (.int .i64) (.pair (.int .i64) (.pair (.int .i64) (.pair (.int .i64) (.pair (.int .i64) (.pair (.int .i64) (.pair (.int .i64) (.pair .bool kparkLot))))))))))))))))))))))))] s (addrS [(4, 4, 0)])) (setB [.slot 3 .ptr, .box 4 (.pair (.int .i64) (.pair (.int .i64) (.pair (.int .i64) (.pair (.int .i64) (.pair (.int .i64) (.pair (.int .i64) (.pair (.int .i64) (.pair (.int .i64) (.pair (.int .i64) (.pair (.arr 64 kparkLot) (.pair (.int .i64) (.pair (.int .i64) (.pair (.int .i64) (.pair (.int .i64) (.pair (.int .i64) (.pair (.int .i64) (.pair (.int .i64) (.pair (.int .i64) (.pair (.int .i64) (.pair (.int .i64) (.pair (.int .i64) (.pair (.int .i64) (.pair (.int .i64) (.pair .bool kparkLot))))))))))))))))))))))))] s []) h (retK Try.prog [.cell 4 98] false kparkOp Q) (fun _ _ _ _ => False) (retK Try.prog [.cell 4 98] false kparkOp Q) :=
  (by kernel_rfl)
theorem park_Step.e1 {Q : Den kparkOp → Heap → Prop} (s : (Value × (Option Addr × ((Int × (Int × (Int × (Int × (Int × (Int × (Int × (Int × (Int × ((Fin 64 → Den kparkLot) × (Int × (Int × (Int × (Int × (Int × (Int × (Int × (Int × (Int × (Int × (Int × (Int × (Int × (Bool × Den kparkLot)))))))))))))))))))))))) × Unit)))) (h : Heap) : park_Step.k2 (fun x0 x1 x2 h K => CallT Try.prog 80 [Kd.val .ptr x0, Kd.val (.int .i64) x1, Kd.val (.int .i64) x2] true .nil h K) (fun x0 x1 h K => CallT Try.prog 81 [Kd.val kparkOp x0, Kd.val .iface x1] false kparkOp h K) (fun x0 x1 h K => CallT Try.prog 82 [Kd.val .ptr x0, Kd.val .iface x1] true kparkLot h K) (fun x0 x1 h K => CallT Try.prog 83 [Kd.val kparkOp x0, Kd.val (.int .i64) x1] false kparkOp h K) (fun x0 x1 h K => CallT Try.prog 84 [Kd.val .ptr x0, Kd.val (.int .i64) x1] true .nil h K) (fun x0 x1 h K => CallT Try.prog 85 [Kd.val .ptr x0, Kd.val (.int .i64) x1] true .nil h K) Q s h = interp Try.prog 66 (AC.rest 1 (weave (Try.f46.body.getD .skip) park_Step.mk)) [] (setC [.slot 0 .iface, .slot 3 .ptr, .box 4 (.pair (.int .i64) (.pair (.int .i64) (.pair (.int .i64) (.pair (.int .i64) (.pair (.int .i64) (.pair (.int .i64) (.pair (.int .i64) (.pair (.int .i64) (.pair (.int .i64) (.pair (.arr 64 kparkLot) (.pair (.int .i64) (.pair (.int .i64) (.pair (.int .i64) (.pair (.int .i64) (.pair (.int .i64) (.pair (.int .i64) (.pair (.int .i64) (.pair (.int .i64) (.pair (.int .i64) (.pair (.int .i64) (.pair (.int .i64) (.pair (.int .i64) (.pair (.int .i64) (.pair .bool kparkLot))))))))))))))))))))))))] s (addrS [(4, 4, 0)])) (setB [.slot 0 .iface, .slot 3 .ptr, .box 4 (.pair (.int .i64) (.pair (.int .i64) (.pair (.int .i64) (.pair (.int .i64) (.pair (.int .i64) (.pair (.int .i64) (.pair (.int .i64) (.pair (.int .i64) (.pair (.int .i64) (.pair (.arr 64 kparkLot) (.pair (.int .i64) (.pair (.int .i64) (.pair (.int .i64) (.pair (.int .i64) (.pair (.int .i64) (.pair (.int .i64) (.pair (.int .i64) (.pair (.int .i64) (.pair (.int .i64) (.pair (.int .i64) (.pair (.int .i64) (.pair (.int .i64) (.pair (.int .i64) (.pair .bool kparkLot))))))))))))))))))))))))] s []) h (retK Try.prog [.cell 4 98] false kparkOp Q) (fun _ _ _ _ => False) (retK Try.prog [.cell 4 98] false kparkOp Q) :=
  (cut_part 4 (cc := [.slot 3 .ptr, .box 4 (.pair (.int .i64) (.pair (.int .i64) (.pair (.int .i64) (.pair (.int .i64) (.pair (.int .i64) (.pair (.int .i64) (.pair (.int .i64) (.pair (.int .i64) (.pair (.int .i64) (.pair (.arr 64 kparkLot) (.pair (.int .i64) (.pair (.int .i64) (.pair (.int .i64) (.pair (.int .i64) (.pair (.int .i64) (.pair (.int .i64) (.pair (.int .i64) (.pair (.int .i64) (.pair (.int .i64) (.pair (.int .i64) (.pair (.int .i64) (.pair (.int .i64) (.pair (.int .i64) (.pair .bool kparkLot))))))))))))))))))))))))]) (A := [(4, 4, 0)]) (b := (AC.rest 4 (AC.rest 1 (weave (Try.f46.body.getD .skip) park_Step.mk)))) (by kernel_rfl) (fun s h => park_Step.k1 Q s h) (by kernel_rfl) park_Step.e2)
theorem park_Step.br {m1 : Value} {o2 : Den kparkOp} {h : Heap} {Q : Den kparkOp → Heap → Prop} (H : park_Step.M (fun x0 x1 x2 h K => CallT Try.prog 80 [Kd.val .ptr x0, Kd.val (.int .i64) x1, Kd.val (.int .i64) x2] true .nil h K) (fun x0 x1 h K => CallT Try.prog 81 [Kd.val kparkOp x0, Kd.val .iface x1] false kparkOp h K) (fun x0 x1 h K => CallT Try.prog 82 [Kd.val .ptr x0, Kd.val .iface x1] true kparkLot h K) (fun x0 x1 h K => CallT Try.prog 83 [Kd.val kparkOp x0, Kd.val (.int .i64) x1] false kparkOp h K) (fun x0 x1 h K => CallT Try.prog 84 [Kd.val .ptr x0, Kd.val (.int .i64) x1] true .nil h K) (fun x0 x1 h K => CallT Try.prog 85 [Kd.val .ptr x0, Kd.val (.int .i64) x1] true .nil h K) m1 o2 h Q) :
    CallT Try.prog 46 [Kd.val .iface m1, Kd.val kparkOp o2] false kparkOp h Q :=
  fn_sound2 (c := weave (Try.f46.body.getD .skip) park_Step.mk) Try.func46 (by kernel_rfl) Try.ntmps46 (rs := [.cell 4 98]) (by kernel_rfl) [⟨.iface, m1⟩, ⟨kparkOp, o2⟩] (by kernel_rfl) (by kernel_rfl) (by kernel_rfl) (cut_part 1 (cc := [.slot 0 .iface, .slot 3 .ptr, .box 4 (.pair (.int .i64) (.pair (.int .i64) (.pair (.int .i64) (.pair (.int .i64) (.pair (.int .i64) (.pair (.int .i64) (.pair (.int .i64) (.pair (.int .i64) (.pair (.int .i64) (.pair (.arr 64 kparkLot) (.pair (.int .i64) (.pair (.int .i64) (.pair (.int .i64) (.pair (.int .i64) (.pair (.int .i64) (.pair (.int .i64) (.pair (.int .i64) (.pair (.int .i64) (.pair (.int .i64) (.pair (.int .i64) (.pair (.int .i64) (.pair (.int .i64) (.pair (.int .i64) (.pair .bool kparkLot))))))))))))))))))))))))]) (A := [(4, 4, 0)]) (b := (AC.rest 1 (weave (Try.f46.body.getD .skip) park_Step.mk))) (by kernel_rfl) (fun s h => park_Step.k2 (fun x0 x1 x2 h K => CallT Try.prog 80 [Kd.val .ptr x0, Kd.val (.int .i64) x1, Kd.val (.int .i64) x2] true .nil h K) (fun x0 x1 h K => CallT Try.prog 81 [Kd.val kparkOp x0, Kd.val .iface x1] false kparkOp h K) (fun x0 x1 h K => CallT Try.prog 82 [Kd.val .ptr x0, Kd.val .iface x1] true kparkLot h K) (fun x0 x1 h K => CallT Try.prog 83 [Kd.val kparkOp x0, Kd.val (.int .i64) x1] false kparkOp h K) (fun x0 x1 h K => CallT Try.prog 84 [Kd.val .ptr x0, Kd.val (.int .i64) x1] true .nil h K) (fun x0 x1 h K => CallT Try.prog 85 [Kd.val .ptr x0, Kd.val (.int .i64) x1] true .nil h K) Q s h) (by kernel_rfl) park_Step.e1) H

theorem ref9_Step.br {m1 : Option Addr} {o2 : Den kref9Op} {h : Heap} {Q : Den kref9Op → Heap → Prop} (H : ref9_Step.M (fun x0 h K => CallT Try.prog 86 [Kd.val kref9Op x0] false kref3Want h K) (fun x0 x1 h K => CallT Try.prog 55 [Kd.val .ptr x0, Kd.val kref3Want x1] true (.pair (.int .i64) (.pair .bool .nil)) h K) (fun x0 x1 x2 h K => CallT Try.prog 87 [Kd.val kref9Op x0, Kd.val (.int .i64) x1, Kd.val (.int .i64) x2] false kref9Op h K) (fun x0 x1 h K => CallT Try.prog 88 [Kd.val kref9Op x0, Kd.val (.int .i64) x1] false kref9Op h K) (fun x0 x1 h K => CallT Try.prog 89 [Kd.val kref9Op x0, Kd.val (.int .i64) x1] false kref9Op h K) m1 o2 h Q) :
    CallT Try.prog 47 [Kd.val .ptr m1, Kd.val kref9Op o2] false kref9Op h Q :=
  fn_sound2 (c := weave (Try.f47.body.getD .skip) ref9_Step.mk) Try.func47 (by kernel_rfl) Try.ntmps47 (rs := [.cell 4 102]) (by kernel_rfl) [⟨.ptr, m1⟩, ⟨kref9Op, o2⟩] (by kernel_rfl) (by kernel_rfl) (by kernel_rfl) (by kernel_rfl) H

theorem ref9_Answer.br {o1 : Den kref9Op} {h : Heap} {Q : Den kparkLot → Heap → Prop} (H : ref9_Answer.M  o1 h Q) :
    CallT Try.prog 48 [Kd.val kref9Op o1] true kparkLot h Q :=
  fn_sound2 (c := weave (Try.f48.body.getD .skip) ref9_Answer.mk) Try.func48 (by kernel_rfl) Try.ntmps48 (rs := [.tmp 2, .tmp 3]) (by kernel_rfl) [⟨kref9Op, o1⟩] (by kernel_rfl) (by kernel_rfl) (by kernel_rfl) (by kernel_rfl) H

theorem park_Answer.br {o1 : Den kparkOp} {h : Heap} {Q : Den kparkLot → Heap → Prop} (H : park_Answer.M  o1 h Q) :
    CallT Try.prog 49 [Kd.val kparkOp o1] true kparkLot h Q :=
  fn_sound2 (c := weave (Try.f49.body.getD .skip) park_Answer.mk) Try.func49 (by kernel_rfl) Try.ntmps49 (rs := [.tmp 2, .tmp 3]) (by kernel_rfl) [⟨kparkOp, o1⟩] (by kernel_rfl) (by kernel_rfl) (by kernel_rfl) (by kernel_rfl) H

theorem park_Parked.br {o1 : Den kparkOp} {h : Heap} {Q : Bool → Heap → Prop} (H : park_Parked.M  o1 h Q) :
    CallT Try.prog 50 [Kd.val kparkOp o1] false .bool h Q :=
  fn_sound2 (c := weave (Try.f50.body.getD .skip) park_Parked.mk) Try.func50 (by kernel_rfl) Try.ntmps50 (rs := [.tmp 2]) (by kernel_rfl) [⟨kparkOp, o1⟩] (by kernel_rfl) (by kernel_rfl) (by kernel_rfl) (by kernel_rfl) H

theorem ref9_Parked.br {o1 : Den kref9Op} {h : Heap} {Q : Bool → Heap → Prop} (H : ref9_Parked.M  o1 h Q) :
    CallT Try.prog 51 [Kd.val kref9Op o1] false .bool h Q :=
  fn_sound2 (c := weave (Try.f51.body.getD .skip) ref9_Parked.mk) Try.func51 (by kernel_rfl) Try.ntmps51 (rs := [.tmp 2]) (by kernel_rfl) [⟨kref9Op, o1⟩] (by kernel_rfl) (by kernel_rfl) (by kernel_rfl) (by kernel_rfl) H

theorem cells_Arena_Reserve.br {a1 : Option Addr} {n2 : Int} {h : Heap} {Q : Den kparkLot → Heap → Prop} (H : cells_Arena_Reserve.M (fun x0 x1 h K => CallT Try.prog 90 [Kd.val .ptr x0, Kd.val (.int .i64) x1] false (.int .i64) h K) (fun x0 x1 h K => CallT Try.prog 91 [Kd.val .ptr x0, Kd.val (.int .i64) x1] false (.int .i64) h K) (fun x0 x1 x2 x3 x4 x5 h K => CallT Try.prog 92 [Kd.val .ptr x0, Kd.val (.int .i64) x1, Kd.val (.int .i64) x2, Kd.val (.int .i64) x3, Kd.val (.int .i64) x4, Kd.val .bool x5] true .nil h K) a1 n2 h Q) :
    CallT Try.prog 52 [Kd.val .ptr a1, Kd.val (.int .i64) n2] true kparkLot h Q :=
  fn_sound2 (c := weave (Try.f52.body.getD .skip) cells_Arena_Reserve.mk) Try.func52 (by kernel_rfl) Try.ntmps52 (rs := [.tmp 4, .tmp 5]) (by kernel_rfl) [⟨.ptr, a1⟩, ⟨(.int .i64), n2⟩] (by kernel_rfl) (by kernel_rfl) (by kernel_rfl) (by kernel_rfl) H

theorem cells_Arena_Store.br {a1 : Option Addr} {addr2 : Int} {v3 : Int} {h : Heap} {Q : Int → Heap → Prop} (H : cells_Arena_Store.M (fun x0 x1 h K => CallT Try.prog 93 [Kd.val .ptr x0, Kd.val (.int .i64) x1] false .bool h K) (fun x0 x1 x2 x3 x4 x5 h K => CallT Try.prog 92 [Kd.val .ptr x0, Kd.val (.int .i64) x1, Kd.val (.int .i64) x2, Kd.val (.int .i64) x3, Kd.val (.int .i64) x4, Kd.val .bool x5] true .nil h K) a1 addr2 v3 h Q) :
    CallT Try.prog 53 [Kd.val .ptr a1, Kd.val (.int .i64) addr2, Kd.val (.int .i64) v3] false (.int .i64) h Q :=
  fn_sound2 (c := weave (Try.f53.body.getD .skip) cells_Arena_Store.mk) Try.func53 (by kernel_rfl) Try.ntmps53 (rs := [.tmp 6]) (by kernel_rfl) [⟨.ptr, a1⟩, ⟨(.int .i64), addr2⟩, ⟨(.int .i64), v3⟩] (by kernel_rfl) (by kernel_rfl) (by kernel_rfl) (by kernel_rfl) H

theorem cells_Arena_Watch.br {a1 : Option Addr} {on2 : Bool} {h : Heap} {Q : Unit → Heap → Prop} (H : cells_Arena_Watch.M  a1 on2 h Q) :
    CallT Try.prog 54 [Kd.val .ptr a1, Kd.val .bool on2] true .nil h Q :=
  fn_sound2 (c := weave (Try.f54.body.getD .skip) cells_Arena_Watch.mk) Try.func54 (by kernel_rfl) Try.ntmps54 (rs := []) (by kernel_rfl) [⟨.ptr, a1⟩, ⟨.bool, on2⟩] (by kernel_rfl) (by kernel_rfl) (by kernel_rfl) (by kernel_rfl) H

theorem ref3_Mem_Do.br {m1 : Option Addr} {w2 : Den kref3Want} {h : Heap} {Q : (Int × (Bool × Unit)) → Heap → Prop} (H : ref3_Mem_Do.M  m1 w2 h Q) :
    CallT Try.prog 55 [Kd.val .ptr m1, Kd.val kref3Want w2] true (.pair (.int .i64) (.pair .bool .nil)) h Q :=
  fn_sound2 (c := weave (Try.f55.body.getD .skip) ref3_Mem_Do.mk) Try.func55 (by kernel_rfl) Try.ntmps55 (rs := [.tmp 4, .tmp 5]) (by kernel_rfl) [⟨.ptr, m1⟩, ⟨kref3Want, w2⟩] (by kernel_rfl) (by kernel_rfl) (by kernel_rfl) (by kernel_rfl) H

theorem deque_Op_over.br {o1 : Den kdequeOp} {code2 : Int} {v3 : Int} {h : Heap} {Q : Den kdequeOp → Heap → Prop} (H : deque_Op_over.M  o1 code2 v3 h Q) :
    CallT Try.prog 59 [Kd.val kdequeOp o1, Kd.val (.int .i64) code2, Kd.val (.int .i64) v3] false kdequeOp h Q :=
  fn_sound2 (c := weave (Try.f59.body.getD .skip) deque_Op_over.mk) Try.func59 (by kernel_rfl) Try.ntmps59 (rs := [.cell 6 56]) (by kernel_rfl) [⟨kdequeOp, o1⟩, ⟨(.int .i64), code2⟩, ⟨(.int .i64), v3⟩] (by kernel_rfl) (by kernel_rfl) (by kernel_rfl) (by kernel_rfl) H

theorem deque_Op_access.br {o1 : Den kdequeOp} {m2 : Value} {h : Heap} {Q : Den kparkLot → Heap → Prop} (H : deque_Op_access.M (fun x0 x1 h K => InvT Try.prog "Load" x0 [Kd.val (.int .i64) x1] true kparkLot h K) (fun x0 x1 h K => InvT Try.prog "Reserve" x0 [Kd.val (.int .i64) x1] true kparkLot h K) (fun x0 x1 x2 h K => InvT Try.prog "Store" x0 [Kd.val (.int .i64) x1, Kd.val (.int .i64) x2] false (.int .i64) h K) (fun x0 x1 x2 h K => CallT Try.prog 94 [Kd.val (.int .i64) x0, Kd.val (.int .i64) x1, Kd.val (.int .i64) x2] false (.int .i64) h K) (fun x0 h K => CallT Try.prog 95 [Kd.val kdequeOp x0] false (.int .i64) h K) (fun x0 x1 x2 x3 h K => InvT Try.prog "CAS" x0 [Kd.val (.int .i64) x1, Kd.val (.int .i64) x2, Kd.val (.int .i64) x3] true (.pair .bool (.pair (.int .i64) .nil)) h K) (NilT Try.prog) o1 m2 h Q) :
    CallT Try.prog 60 [Kd.val kdequeOp o1, Kd.val .iface m2] true kparkLot h Q :=
  fn_sound2 (c := weave (Try.f60.body.getD .skip) deque_Op_access.mk) Try.func60 (by kernel_rfl) Try.ntmps60 (rs := [.tmp 4, .tmp 5]) (by kernel_rfl) [⟨kdequeOp, o1⟩, ⟨.iface, m2⟩] (by kernel_rfl) (by kernel_rfl) (by kernel_rfl) (by kernel_rfl) H

theorem deque_Op_pushed.br {o1 : Den kdequeOp} {got2 : Int} {h : Heap} {Q : Den kdequeOp → Heap → Prop} (H : deque_Op_pushed.M (fun x0 x1 x2 h K => CallT Try.prog 59 [Kd.val kdequeOp x0, Kd.val (.int .i64) x1, Kd.val (.int .i64) x2] false kdequeOp h K) o1 got2 h Q) :
    CallT Try.prog 61 [Kd.val kdequeOp o1, Kd.val (.int .i64) got2] false kdequeOp h Q :=
  fn_sound2 (c := weave (Try.f61.body.getD .skip) deque_Op_pushed.mk) Try.func61 (by kernel_rfl) Try.ntmps61 (rs := [.cell 4 56]) (by kernel_rfl) [⟨kdequeOp, o1⟩, ⟨(.int .i64), got2⟩] (by kernel_rfl) (by kernel_rfl) (by kernel_rfl) (by kernel_rfl) H

theorem deque_Op_popped.br {o1 : Den kdequeOp} {got2 : Int} {h : Heap} {Q : Den kdequeOp → Heap → Prop} (H : deque_Op_popped.M (fun x0 x1 x2 h K => CallT Try.prog 59 [Kd.val kdequeOp x0, Kd.val (.int .i64) x1, Kd.val (.int .i64) x2] false kdequeOp h K) o1 got2 h Q) :
    CallT Try.prog 62 [Kd.val kdequeOp o1, Kd.val (.int .i64) got2] false kdequeOp h Q :=
  fn_sound2 (c := weave (Try.f62.body.getD .skip) deque_Op_popped.mk) Try.func62 (by kernel_rfl) Try.ntmps62 (rs := [.cell 4 56]) (by kernel_rfl) [⟨kdequeOp, o1⟩, ⟨(.int .i64), got2⟩] (by kernel_rfl) (by kernel_rfl) (by kernel_rfl) (by kernel_rfl) H

theorem deque_Op_stolen.br {o1 : Den kdequeOp} {got2 : Int} {h : Heap} {Q : Den kdequeOp → Heap → Prop} (H : deque_Op_stolen.M (fun x0 x1 x2 h K => CallT Try.prog 59 [Kd.val kdequeOp x0, Kd.val (.int .i64) x1, Kd.val (.int .i64) x2] false kdequeOp h K) o1 got2 h Q) :
    CallT Try.prog 63 [Kd.val kdequeOp o1, Kd.val (.int .i64) got2] false kdequeOp h Q :=
  fn_sound2 (c := weave (Try.f63.body.getD .skip) deque_Op_stolen.mk) Try.func63 (by kernel_rfl) Try.ntmps63 (rs := [.cell 4 56]) (by kernel_rfl) [⟨kdequeOp, o1⟩, ⟨(.int .i64), got2⟩] (by kernel_rfl) (by kernel_rfl) (by kernel_rfl) (by kernel_rfl) H

theorem deque_Op_looked.br {o1 : Den kdequeOp} {got2 : Int} {h : Heap} {Q : Den kdequeOp → Heap → Prop} (H : deque_Op_looked.M (fun x0 x1 x2 h K => CallT Try.prog 59 [Kd.val kdequeOp x0, Kd.val (.int .i64) x1, Kd.val (.int .i64) x2] false kdequeOp h K) o1 got2 h Q) :
    CallT Try.prog 64 [Kd.val kdequeOp o1, Kd.val (.int .i64) got2] false kdequeOp h Q :=
  fn_sound2 (c := weave (Try.f64.body.getD .skip) deque_Op_looked.mk) Try.func64 (by kernel_rfl) Try.ntmps64 (rs := [.cell 4 56]) (by kernel_rfl) [⟨kdequeOp, o1⟩, ⟨(.int .i64), got2⟩] (by kernel_rfl) (by kernel_rfl) (by kernel_rfl) (by kernel_rfl) H

theorem cells_good.br {size1 : Int} {h : Heap} {Q : Bool → Heap → Prop} (H : cells_good.M  size1 h Q) :
    CallT Try.prog 70 [Kd.val (.int .i64) size1] false .bool h Q :=
  fn_sound2 (c := weave (Try.f70.body.getD .skip) cells_good.mk) Try.func70 (by kernel_rfl) Try.ntmps70 (rs := [.tmp 2]) (by kernel_rfl) [⟨(.int .i64), size1⟩] (by kernel_rfl) (by kernel_rfl) (by kernel_rfl) (by kernel_rfl) H

theorem deque_begin.br {kind1 : Int} {at_2 : Int} {d3 : Den kparkLot} {v4 : Int} {h : Heap} {Q : Den kdequeOp → Heap → Prop} (H : deque_begin.M  kind1 at_2 d3 v4 h Q) :
    CallT Try.prog 71 [Kd.val (.int .i64) kind1, Kd.val (.int .i64) at_2, Kd.val kparkLot d3, Kd.val (.int .i64) v4] false kdequeOp h Q :=
  fn_sound2 (c := weave (Try.f71.body.getD .skip) deque_begin.mk) Try.func71 (by kernel_rfl) Try.ntmps71 (rs := [.cell 8 56]) (by kernel_rfl) [⟨(.int .i64), kind1⟩, ⟨(.int .i64), at_2⟩, ⟨kparkLot, d3⟩, ⟨(.int .i64), v4⟩] (by kernel_rfl) (by kernel_rfl) (by kernel_rfl) (by kernel_rfl) H

theorem park_Rest.e1 {Q : Den kparkOp → Heap → Prop} (s : (Int × (Sl × (Den kparkLot × ((Int × (Int × (Int × (Int × (Int × (Int × (Int × (Int × (Int × ((Fin 64 → Den kparkLot) × (Int × (Int × (Int × (Int × (Int × (Int × (Int × (Int × (Int × (Int × (Int × (Int × (Int × (Bool × Den kparkLot)))))))))))))))))))))))) × Unit))))) (h : Heap) : park_Rest.k5 Q s h = interp Try.prog 53 (AC.rest 1 (weave (Try.f72.body.getD .skip) park_Rest.mk)) [] (setC [.slot 1 (.int .i64), .slot 2 .sl, .box 3 kparkLot, .box 6 (.pair (.int .i64) (.pair (.int .i64) (.pair (.int .i64) (.pair (.int .i64) (.pair (.int .i64) (.pair (.int .i64) (.pair (.int .i64) (.pair (.int .i64) (.pair (.int .i64) (.pair (.arr 64 kparkLot) (.pair (.int .i64) (.pair (.int .i64) (.pair (.int .i64) (.pair (.int .i64) (.pair (.int .i64) (.pair (.int .i64) (.pair (.int .i64) (.pair (.int .i64) (.pair (.int .i64) (.pair (.int .i64) (.pair (.int .i64) (.pair (.int .i64) (.pair (.int .i64) (.pair .bool kparkLot))))))))))))))))))))))))] s (addrS [(3, 3, 0), (6, 6, 0)])) (setB [.slot 1 (.int .i64), .slot 2 .sl, .box 3 kparkLot, .box 6 (.pair (.int .i64) (.pair (.int .i64) (.pair (.int .i64) (.pair (.int .i64) (.pair (.int .i64) (.pair (.int .i64) (.pair (.int .i64) (.pair (.int .i64) (.pair (.int .i64) (.pair (.arr 64 kparkLot) (.pair (.int .i64) (.pair (.int .i64) (.pair (.int .i64) (.pair (.int .i64) (.pair (.int .i64) (.pair (.int .i64) (.pair (.int .i64) (.pair (.int .i64) (.pair (.int .i64) (.pair (.int .i64) (.pair (.int .i64) (.pair (.int .i64) (.pair (.int .i64) (.pair .bool kparkLot))))))))))))))))))))))))] s []) h (retK Try.prog [.cell 6 98] false kparkOp Q) (fun _ _ _ _ => False) (retK Try.prog [.cell 6 98] false kparkOp Q) :=
  (by kernel_rfl)
theorem park_Rest.br {l1 : Den kparkLot} {self2 : Int} {deques3 : Sl} {h : Heap} {Q : Den kparkOp → Heap → Prop} (H : park_Rest.M (fun x0 x1 h K => CallT Try.prog 99 [Kd.val kparkLot x0, Kd.val (.int .i64) x1] false .bool h K) l1 self2 deques3 h Q) :
    CallT Try.prog 72 [Kd.val kparkLot l1, Kd.val (.int .i64) self2, Kd.val .sl deques3] false kparkOp h Q :=
  fn_sound2 (c := weave (Try.f72.body.getD .skip) park_Rest.mk) Try.func72 (by kernel_rfl) Try.ntmps72 (rs := [.cell 6 98]) (by kernel_rfl) [⟨kparkLot, l1⟩, ⟨(.int .i64), self2⟩, ⟨.sl, deques3⟩] (by kernel_rfl) (by kernel_rfl) (by kernel_rfl) (cut_part 1 (cc := [.slot 1 (.int .i64), .slot 2 .sl, .box 3 kparkLot, .box 6 (.pair (.int .i64) (.pair (.int .i64) (.pair (.int .i64) (.pair (.int .i64) (.pair (.int .i64) (.pair (.int .i64) (.pair (.int .i64) (.pair (.int .i64) (.pair (.int .i64) (.pair (.arr 64 kparkLot) (.pair (.int .i64) (.pair (.int .i64) (.pair (.int .i64) (.pair (.int .i64) (.pair (.int .i64) (.pair (.int .i64) (.pair (.int .i64) (.pair (.int .i64) (.pair (.int .i64) (.pair (.int .i64) (.pair (.int .i64) (.pair (.int .i64) (.pair (.int .i64) (.pair .bool kparkLot))))))))))))))))))))))))]) (A := [(3, 3, 0), (6, 6, 0)]) (b := (AC.rest 1 (weave (Try.f72.body.getD .skip) park_Rest.mk))) (by kernel_rfl) (fun s h => park_Rest.k5 Q s h) (by kernel_rfl) park_Rest.e1) H

theorem ref9_Rest.br {l1 : Den kparkLot} {self2 : Int} {ds3 : Sl} {h : Heap} {Q : Den kref9Op → Heap → Prop} (H : ref9_Rest.M (fun x0 h K => CallT Try.prog 100 [Kd.val kparkLot x0] false .bool h K) (fun  h K => CallT Try.prog 44 [] false kref9Op h K) l1 self2 ds3 h Q) :
    CallT Try.prog 73 [Kd.val kparkLot l1, Kd.val (.int .i64) self2, Kd.val .sl ds3] false kref9Op h Q :=
  fn_sound2 (c := weave (Try.f73.body.getD .skip) ref9_Rest.mk) Try.func73 (by kernel_rfl) Try.ntmps73 (rs := [.cell 6 102]) (by kernel_rfl) [⟨kparkLot, l1⟩, ⟨(.int .i64), self2⟩, ⟨.sl, ds3⟩] (by kernel_rfl) (by kernel_rfl) (by kernel_rfl) (by kernel_rfl) H

theorem park_Wake.br {l1 : Den kparkLot} {self2 : Int} {h : Heap} {Q : Den kparkOp → Heap → Prop} (H : park_Wake.M (fun x0 x1 h K => CallT Try.prog 99 [Kd.val kparkLot x0, Kd.val (.int .i64) x1] false .bool h K) l1 self2 h Q) :
    CallT Try.prog 74 [Kd.val kparkLot l1, Kd.val (.int .i64) self2] false kparkOp h Q :=
  fn_sound2 (c := weave (Try.f74.body.getD .skip) park_Wake.mk) Try.func74 (by kernel_rfl) Try.ntmps74 (rs := [.cell 4 98]) (by kernel_rfl) [⟨kparkLot, l1⟩, ⟨(.int .i64), self2⟩] (by kernel_rfl) (by kernel_rfl) (by kernel_rfl) (by kernel_rfl) H

theorem ref9_Wake.br {l1 : Den kparkLot} {self2 : Int} {h : Heap} {Q : Den kref9Op → Heap → Prop} (H : ref9_Wake.M (fun x0 h K => CallT Try.prog 100 [Kd.val kparkLot x0] false .bool h K) (fun  h K => CallT Try.prog 44 [] false kref9Op h K) l1 self2 h Q) :
    CallT Try.prog 75 [Kd.val kparkLot l1, Kd.val (.int .i64) self2] false kref9Op h Q :=
  fn_sound2 (c := weave (Try.f75.body.getD .skip) ref9_Wake.mk) Try.func75 (by kernel_rfl) Try.ntmps75 (rs := [.cell 4 102]) (by kernel_rfl) [⟨kparkLot, l1⟩, ⟨(.int .i64), self2⟩] (by kernel_rfl) (by kernel_rfl) (by kernel_rfl) (by kernel_rfl) H

theorem park_Peek.br {l1 : Den kparkLot} {h : Heap} {Q : Den kparkOp → Heap → Prop} (H : park_Peek.M (fun x0 h K => CallT Try.prog 17 [Kd.val (.int .i64) x0] false (.int .i64) h K) l1 h Q) :
    CallT Try.prog 76 [Kd.val kparkLot l1] false kparkOp h Q :=
  fn_sound2 (c := weave (Try.f76.body.getD .skip) park_Peek.mk) Try.func76 (by kernel_rfl) Try.ntmps76 (rs := [.cell 2 98]) (by kernel_rfl) [⟨kparkLot, l1⟩] (by kernel_rfl) (by kernel_rfl) (by kernel_rfl) (by kernel_rfl) H

theorem ref9_Peek.br {l1 : Den kparkLot} {h : Heap} {Q : Den kref9Op → Heap → Prop} (H : ref9_Peek.M (fun x0 h K => CallT Try.prog 100 [Kd.val kparkLot x0] false .bool h K) (fun  h K => CallT Try.prog 44 [] false kref9Op h K) l1 h Q) :
    CallT Try.prog 77 [Kd.val kparkLot l1] false kref9Op h Q :=
  fn_sound2 (c := weave (Try.f77.body.getD .skip) ref9_Peek.mk) Try.func77 (by kernel_rfl) Try.ntmps77 (rs := [.cell 2 102]) (by kernel_rfl) [⟨kparkLot, l1⟩] (by kernel_rfl) (by kernel_rfl) (by kernel_rfl) (by kernel_rfl) H

theorem park_Finish.br {l1 : Den kparkLot} {self2 : Int} {h : Heap} {Q : Den kparkOp → Heap → Prop} (H : park_Finish.M (fun x0 x1 h K => CallT Try.prog 99 [Kd.val kparkLot x0, Kd.val (.int .i64) x1] false .bool h K) l1 self2 h Q) :
    CallT Try.prog 78 [Kd.val kparkLot l1, Kd.val (.int .i64) self2] false kparkOp h Q :=
  fn_sound2 (c := weave (Try.f78.body.getD .skip) park_Finish.mk) Try.func78 (by kernel_rfl) Try.ntmps78 (rs := [.cell 4 98]) (by kernel_rfl) [⟨kparkLot, l1⟩, ⟨(.int .i64), self2⟩] (by kernel_rfl) (by kernel_rfl) (by kernel_rfl) (by kernel_rfl) H

theorem ref9_Finish.br {l1 : Den kparkLot} {self2 : Int} {h : Heap} {Q : Den kref9Op → Heap → Prop} (H : ref9_Finish.M (fun x0 h K => CallT Try.prog 100 [Kd.val kparkLot x0] false .bool h K) (fun  h K => CallT Try.prog 44 [] false kref9Op h K) l1 self2 h Q) :
    CallT Try.prog 79 [Kd.val kparkLot l1, Kd.val (.int .i64) self2] false kref9Op h Q :=
  fn_sound2 (c := weave (Try.f79.body.getD .skip) ref9_Finish.mk) Try.func79 (by kernel_rfl) Try.ntmps79 (rs := [.cell 4 102]) (by kernel_rfl) [⟨kparkLot, l1⟩, ⟨(.int .i64), self2⟩] (by kernel_rfl) (by kernel_rfl) (by kernel_rfl) (by kernel_rfl) H

theorem park_state_over.br {s1 : Option Addr} {code2 : Int} {v3 : Int} {h : Heap} {Q : Unit → Heap → Prop} (H : park_state_over.M  s1 code2 v3 h Q) :
    CallT Try.prog 80 [Kd.val .ptr s1, Kd.val (.int .i64) code2, Kd.val (.int .i64) v3] true .nil h Q :=
  fn_sound2 (c := weave (Try.f80.body.getD .skip) park_state_over.mk) Try.func80 (by kernel_rfl) Try.ntmps80 (rs := []) (by kernel_rfl) [⟨.ptr, s1⟩, ⟨(.int .i64), code2⟩, ⟨(.int .i64), v3⟩] (by kernel_rfl) (by kernel_rfl) (by kernel_rfl) (by kernel_rfl) H

theorem park_Op_looked.br {o1 : Den kparkOp} {m2 : Value} {h : Heap} {Q : Den kparkOp → Heap → Prop} (H : park_Op_looked.M (fun x0 x1 h K => CallT Try.prog 30 [Kd.val .iface x0, Kd.val kdequeOp x1] false kdequeOp h K) (fun x0 h K => CallT Try.prog 34 [Kd.val kdequeOp x0] true kparkLot h K) (fun x0 x1 h K => CallT Try.prog 101 [Kd.val .ptr x0, Kd.val (.int .i64) x1] true .nil h K) (fun x0 h K => CallT Try.prog 102 [Kd.val kparkOp x0] false kparkOp h K) (fun x0 x1 x2 h K => CallT Try.prog 80 [Kd.val .ptr x0, Kd.val (.int .i64) x1, Kd.val (.int .i64) x2] true .nil h K) o1 m2 h Q) :
    CallT Try.prog 81 [Kd.val kparkOp o1, Kd.val .iface m2] false kparkOp h Q :=
  fn_sound2 (c := weave (Try.f81.body.getD .skip) park_Op_looked.mk) Try.func81 (by kernel_rfl) Try.ntmps81 (rs := [.cell 4 98]) (by kernel_rfl) [⟨kparkOp, o1⟩, ⟨.iface, m2⟩] (by kernel_rfl) (by kernel_rfl) (by kernel_rfl) (by kernel_rfl) H

theorem park_state_access.br {s1 : Option Addr} {m2 : Value} {h : Heap} {Q : Den kparkLot → Heap → Prop} (H : park_state_access.M (fun x0 x1 h K => CallT Try.prog 104 [Kd.val .ptr x0, Kd.val (.int .i64) x1] false (.int .i64) h K) (fun x0 x1 x2 h K => InvT Try.prog "Store" x0 [Kd.val (.int .i64) x1, Kd.val (.int .i64) x2] false (.int .i64) h K) (fun x0 x1 x2 h K => InvT Try.prog "Add" x0 [Kd.val (.int .i64) x1, Kd.val (.int .i64) x2] true kparkLot h K) (fun x0 x1 h K => InvT Try.prog "Load" x0 [Kd.val (.int .i64) x1] true kparkLot h K) (fun x0 x1 h K => FnT Try.prog x0 [Kd.val (.int .i64) x1] true kparkLot h K) (fun x0 h K => CallT Try.prog 105 [Kd.val .ptr x0] false (.int .i64) h K) (NilT Try.prog) s1 m2 h Q) :
    CallT Try.prog 82 [Kd.val .ptr s1, Kd.val .iface m2] true kparkLot h Q :=
  fn_sound2 (c := weave (Try.f82.body.getD .skip) park_state_access.mk) Try.func82 (by kernel_rfl) Try.ntmps82 (rs := [.tmp 4, .tmp 5]) (by kernel_rfl) [⟨.ptr, s1⟩, ⟨.iface, m2⟩] (by kernel_rfl) (by kernel_rfl) (by kernel_rfl) (by kernel_rfl) H

theorem park_Op_rested.br {o1 : Den kparkOp} {got2 : Int} {h : Heap} {Q : Den kparkOp → Heap → Prop} (H : park_Op_rested.M (fun x0 h K => CallT Try.prog 102 [Kd.val kparkOp x0] false kparkOp h K) (fun x0 x1 h K => CallT Try.prog 101 [Kd.val .ptr x0, Kd.val (.int .i64) x1] true .nil h K) (fun x0 x1 x2 h K => CallT Try.prog 80 [Kd.val .ptr x0, Kd.val (.int .i64) x1, Kd.val (.int .i64) x2] true .nil h K) o1 got2 h Q) :
    CallT Try.prog 83 [Kd.val kparkOp o1, Kd.val (.int .i64) got2] false kparkOp h Q :=
  fn_sound2 (c := weave (Try.f83.body.getD .skip) park_Op_rested.mk) Try.func83 (by kernel_rfl) Try.ntmps83 (rs := [.cell 4 98]) (by kernel_rfl) [⟨kparkOp, o1⟩, ⟨(.int .i64), got2⟩] (by kernel_rfl) (by kernel_rfl) (by kernel_rfl) (by kernel_rfl) H

theorem park_state_woken.br {s1 : Option Addr} {got2 : Int} {h : Heap} {Q : Unit → Heap → Prop} (H : park_state_woken.M (fun x0 x1 x2 h K => CallT Try.prog 80 [Kd.val .ptr x0, Kd.val (.int .i64) x1, Kd.val (.int .i64) x2] true .nil h K) (fun x0 h K => CallT Try.prog 105 [Kd.val .ptr x0] false (.int .i64) h K) s1 got2 h Q) :
    CallT Try.prog 84 [Kd.val .ptr s1, Kd.val (.int .i64) got2] true .nil h Q :=
  fn_sound2 (c := weave (Try.f84.body.getD .skip) park_state_woken.mk) Try.func84 (by kernel_rfl) Try.ntmps84 (rs := []) (by kernel_rfl) [⟨.ptr, s1⟩, ⟨(.int .i64), got2⟩] (by kernel_rfl) (by kernel_rfl) (by kernel_rfl) (by kernel_rfl) H

theorem park_state_finished.br {s1 : Option Addr} {got2 : Int} {h : Heap} {Q : Unit → Heap → Prop} (H : park_state_finished.M (fun x0 x1 x2 h K => CallT Try.prog 80 [Kd.val .ptr x0, Kd.val (.int .i64) x1, Kd.val (.int .i64) x2] true .nil h K) s1 got2 h Q) :
    CallT Try.prog 85 [Kd.val .ptr s1, Kd.val (.int .i64) got2] true .nil h Q :=
  fn_sound2 (c := weave (Try.f85.body.getD .skip) park_state_finished.mk) Try.func85 (by kernel_rfl) Try.ntmps85 (rs := []) (by kernel_rfl) [⟨.ptr, s1⟩, ⟨(.int .i64), got2⟩] (by kernel_rfl) (by kernel_rfl) (by kernel_rfl) (by kernel_rfl) H

theorem ref9_Op_want.br {o1 : Den kref9Op} {h : Heap} {Q : Den kref3Want → Heap → Prop} (H : ref9_Op_want.M (fun x0 h K => CallT Try.prog 106 [Kd.val kref9Op x0] false (.int .i64) h K) o1 h Q) :
    CallT Try.prog 86 [Kd.val kref9Op o1] false kref3Want h Q :=
  fn_sound2 (c := weave (Try.f86.body.getD .skip) ref9_Op_want.mk) Try.func86 (by kernel_rfl) Try.ntmps86 (rs := [.cell 2 69]) (by kernel_rfl) [⟨kref9Op, o1⟩] (by kernel_rfl) (by kernel_rfl) (by kernel_rfl) (by kernel_rfl) H

theorem ref9_Op_end.br {o1 : Den kref9Op} {code2 : Int} {v3 : Int} {h : Heap} {Q : Den kref9Op → Heap → Prop} (H : ref9_Op_end.M  o1 code2 v3 h Q) :
    CallT Try.prog 87 [Kd.val kref9Op o1, Kd.val (.int .i64) code2, Kd.val (.int .i64) v3] false kref9Op h Q :=
  fn_sound2 (c := weave (Try.f87.body.getD .skip) ref9_Op_end.mk) Try.func87 (by kernel_rfl) Try.ntmps87 (rs := [.cell 6 102]) (by kernel_rfl) [⟨kref9Op, o1⟩, ⟨(.int .i64), code2⟩, ⟨(.int .i64), v3⟩] (by kernel_rfl) (by kernel_rfl) (by kernel_rfl) (by kernel_rfl) H

theorem ref9_Op_rested.br {o1 : Den kref9Op} {v2 : Int} {h : Heap} {Q : Den kref9Op → Heap → Prop} (H : ref9_Op_rested.M (fun x0 x1 h K => CallT Try.prog 107 [Kd.val kref9Op x0, Kd.val (.int .i64) x1] false kref9Op h K) (fun x0 x1 x2 h K => CallT Try.prog 108 [Kd.val kref9Op x0, Kd.val (.int .i64) x1, Kd.val kref9Op x2] false kref9Op h K) (fun x0 x1 x2 h K => CallT Try.prog 87 [Kd.val kref9Op x0, Kd.val (.int .i64) x1, Kd.val (.int .i64) x2] false kref9Op h K) o1 v2 h Q) :
    CallT Try.prog 88 [Kd.val kref9Op o1, Kd.val (.int .i64) v2] false kref9Op h Q :=
  fn_sound2 (c := weave (Try.f88.body.getD .skip) ref9_Op_rested.mk) Try.func88 (by kernel_rfl) Try.ntmps88 (rs := [.cell 4 102]) (by kernel_rfl) [⟨kref9Op, o1⟩, ⟨(.int .i64), v2⟩] (by kernel_rfl) (by kernel_rfl) (by kernel_rfl) (by kernel_rfl) H

theorem ref9_Op_told.br {o1 : Den kref9Op} {v2 : Int} {h : Heap} {Q : Den kref9Op → Heap → Prop} (H : ref9_Op_told.M (fun x0 x1 x2 h K => CallT Try.prog 87 [Kd.val kref9Op x0, Kd.val (.int .i64) x1, Kd.val (.int .i64) x2] false kref9Op h K) (fun x0 x1 x2 h K => CallT Try.prog 108 [Kd.val kref9Op x0, Kd.val (.int .i64) x1, Kd.val kref9Op x2] false kref9Op h K) (fun x0 x1 h K => CallT Try.prog 107 [Kd.val kref9Op x0, Kd.val (.int .i64) x1] false kref9Op h K) (fun x0 h K => CallT Try.prog 106 [Kd.val kref9Op x0] false (.int .i64) h K) o1 v2 h Q) :
    CallT Try.prog 89 [Kd.val kref9Op o1, Kd.val (.int .i64) v2] false kref9Op h Q :=
  fn_sound2 (c := weave (Try.f89.body.getD .skip) ref9_Op_told.mk) Try.func89 (by kernel_rfl) Try.ntmps89 (rs := [.cell 4 102]) (by kernel_rfl) [⟨kref9Op, o1⟩, ⟨(.int .i64), v2⟩] (by kernel_rfl) (by kernel_rfl) (by kernel_rfl) (by kernel_rfl) H

theorem cells_ledger_refuse.br {l1 : Option Addr} {n2 : Int} {h : Heap} {Q : Int → Heap → Prop} (H : cells_ledger_refuse.M  l1 n2 h Q) :
    CallT Try.prog 90 [Kd.val .ptr l1, Kd.val (.int .i64) n2] false (.int .i64) h Q :=
  fn_sound2 (c := weave (Try.f90.body.getD .skip) cells_ledger_refuse.mk) Try.func90 (by kernel_rfl) Try.ntmps90 (rs := [.tmp 4]) (by kernel_rfl) [⟨.ptr, l1⟩, ⟨(.int .i64), n2⟩] (by kernel_rfl) (by kernel_rfl) (by kernel_rfl) (by kernel_rfl) H

theorem cells_ledger_take.br {l1 : Option Addr} {n2 : Int} {h : Heap} {Q : Int → Heap → Prop} (H : cells_ledger_take.M  l1 n2 h Q) :
    CallT Try.prog 91 [Kd.val .ptr l1, Kd.val (.int .i64) n2] false (.int .i64) h Q :=
  fn_sound2 (c := weave (Try.f91.body.getD .skip) cells_ledger_take.mk) Try.func91 (by kernel_rfl) Try.ntmps91 (rs := [.tmp 4]) (by kernel_rfl) [⟨.ptr, l1⟩, ⟨(.int .i64), n2⟩] (by kernel_rfl) (by kernel_rfl) (by kernel_rfl) (by kernel_rfl) H

theorem cells_Arena_note.br {a1 : Option Addr} {kind2 : Int} {addr3 : Int} {x4 : Int} {y5 : Int} {ok6 : Bool} {h : Heap} {Q : Unit → Heap → Prop} (H : cells_Arena_note.M  a1 kind2 addr3 x4 y5 ok6 h Q) :
    CallT Try.prog 92 [Kd.val .ptr a1, Kd.val (.int .i64) kind2, Kd.val (.int .i64) addr3, Kd.val (.int .i64) x4, Kd.val (.int .i64) y5, Kd.val .bool ok6] true .nil h Q :=
  fn_sound2 (c := weave (Try.f92.body.getD .skip) cells_Arena_note.mk) Try.func92 (by kernel_rfl) Try.ntmps92 (rs := []) (by kernel_rfl) [⟨.ptr, a1⟩, ⟨(.int .i64), kind2⟩, ⟨(.int .i64), addr3⟩, ⟨(.int .i64), x4⟩, ⟨(.int .i64), y5⟩, ⟨.bool, ok6⟩] (by kernel_rfl) (by kernel_rfl) (by kernel_rfl) (by kernel_rfl) H

theorem cells_Arena_outside.br {a1 : Option Addr} {addr2 : Int} {h : Heap} {Q : Bool → Heap → Prop} (H : cells_Arena_outside.M (fun x0 x1 h K => CallT Try.prog 109 [Kd.val .ptr x0, Kd.val (.int .i64) x1] false .bool h K) a1 addr2 h Q) :
    CallT Try.prog 93 [Kd.val .ptr a1, Kd.val (.int .i64) addr2] false .bool h Q :=
  fn_sound2 (c := weave (Try.f93.body.getD .skip) cells_Arena_outside.mk) Try.func93 (by kernel_rfl) Try.ntmps93 (rs := [.tmp 4]) (by kernel_rfl) [⟨.ptr, a1⟩, ⟨(.int .i64), addr2⟩] (by kernel_rfl) (by kernel_rfl) (by kernel_rfl) (by kernel_rfl) H

theorem deque_place.br {a1 : Int} {c2 : Int} {i3 : Int} {h : Heap} {Q : Int → Heap → Prop} (H : deque_place.M  a1 c2 i3 h Q) :
    CallT Try.prog 94 [Kd.val (.int .i64) a1, Kd.val (.int .i64) c2, Kd.val (.int .i64) i3] false (.int .i64) h Q :=
  fn_sound2 (c := weave (Try.f94.body.getD .skip) deque_place.mk) Try.func94 (by kernel_rfl) Try.ntmps94 (rs := [.tmp 6]) (by kernel_rfl) [⟨(.int .i64), a1⟩, ⟨(.int .i64), c2⟩, ⟨(.int .i64), i3⟩] (by kernel_rfl) (by kernel_rfl) (by kernel_rfl) (by kernel_rfl) H

theorem deque_Op_next.br {o1 : Den kdequeOp} {h : Heap} {Q : Int → Heap → Prop} (H : deque_Op_next.M  o1 h Q) :
    CallT Try.prog 95 [Kd.val kdequeOp o1] false (.int .i64) h Q :=
  fn_sound2 (c := weave (Try.f95.body.getD .skip) deque_Op_next.mk) Try.func95 (by kernel_rfl) Try.ntmps95 (rs := [.tmp 2]) (by kernel_rfl) [⟨kdequeOp, o1⟩] (by kernel_rfl) (by kernel_rfl) (by kernel_rfl) (by kernel_rfl) H

theorem park_Lot_right.br {l1 : Den kparkLot} {self2 : Int} {h : Heap} {Q : Bool → Heap → Prop} (H : park_Lot_right.M (fun x0 h K => CallT Try.prog 17 [Kd.val (.int .i64) x0] false (.int .i64) h K) l1 self2 h Q) :
    CallT Try.prog 99 [Kd.val kparkLot l1, Kd.val (.int .i64) self2] false .bool h Q :=
  fn_sound2 (c := weave (Try.f99.body.getD .skip) park_Lot_right.mk) Try.func99 (by kernel_rfl) Try.ntmps99 (rs := [.tmp 4]) (by kernel_rfl) [⟨kparkLot, l1⟩, ⟨(.int .i64), self2⟩] (by kernel_rfl) (by kernel_rfl) (by kernel_rfl) (by kernel_rfl) H

theorem ref9_Right.br {l1 : Den kparkLot} {h : Heap} {Q : Bool → Heap → Prop} (H : ref9_Right.M  l1 h Q) :
    CallT Try.prog 100 [Kd.val kparkLot l1] false .bool h Q :=
  fn_sound2 (c := weave (Try.f100.body.getD .skip) ref9_Right.mk) Try.func100 (by kernel_rfl) Try.ntmps100 (rs := [.tmp 2]) (by kernel_rfl) [⟨kparkLot, l1⟩] (by kernel_rfl) (by kernel_rfl) (by kernel_rfl) (by kernel_rfl) H

theorem park_state_back.br {s1 : Option Addr} {code2 : Int} {h : Heap} {Q : Unit → Heap → Prop} (H : park_state_back.M  s1 code2 h Q) :
    CallT Try.prog 101 [Kd.val .ptr s1, Kd.val (.int .i64) code2] true .nil h Q :=
  fn_sound2 (c := weave (Try.f101.body.getD .skip) park_state_back.mk) Try.func101 (by kernel_rfl) Try.ntmps101 (rs := []) (by kernel_rfl) [⟨.ptr, s1⟩, ⟨(.int .i64), code2⟩] (by kernel_rfl) (by kernel_rfl) (by kernel_rfl) (by kernel_rfl) H

theorem park_Op_around.br {o1 : Den kparkOp} {h : Heap} {Q : Den kparkOp → Heap → Prop} (H : park_Op_around.M (fun x0 h K => CallT Try.prog 105 [Kd.val .ptr x0] false (.int .i64) h K) (fun x0 h K => CallT Try.prog 40 [Kd.val kparkLot x0] false kdequeOp h K) o1 h Q) :
    CallT Try.prog 102 [Kd.val kparkOp o1] false kparkOp h Q :=
  fn_sound2 (c := weave (Try.f102.body.getD .skip) park_Op_around.mk) Try.func102 (by kernel_rfl) Try.ntmps102 (rs := [.cell 2 98]) (by kernel_rfl) [⟨kparkOp, o1⟩] (by kernel_rfl) (by kernel_rfl) (by kernel_rfl) (by kernel_rfl) H

theorem park_state_access_1.br {i1 : Int} {t2 : Option Addr} {t3 : Option Addr} {h : Heap} {Q : Den kparkLot → Heap → Prop} (H : park_state_access_1.M (fun x0 x1 h K => CallT Try.prog 104 [Kd.val .ptr x0, Kd.val (.int .i64) x1] false (.int .i64) h K) (fun x0 x1 x2 x3 h K => InvT Try.prog "CAS" x0 [Kd.val (.int .i64) x1, Kd.val (.int .i64) x2, Kd.val (.int .i64) x3] true (.pair .bool (.pair (.int .i64) .nil)) h K) (NilT Try.prog) i1 t2 t3 h Q) :
    CallT Try.prog 103 [Kd.val (.int .i64) i1, Kd.val .ptr t2, Kd.val .ptr t3] true kparkLot h Q :=
  fn_sound2 (c := weave (Try.f103.body.getD .skip) park_state_access_1.mk) Try.func103 (by kernel_rfl) Try.ntmps103 (rs := [.tmp 4, .tmp 5]) (by kernel_rfl) [⟨(.int .i64), i1⟩, ⟨.ptr, t2⟩, ⟨.ptr, t3⟩] (by kernel_rfl) (by kernel_rfl) (by kernel_rfl) (by kernel_rfl) H

theorem park_state_flag.br {s1 : Option Addr} {i2 : Int} {h : Heap} {Q : Int → Heap → Prop} (H : park_state_flag.M  s1 i2 h Q) :
    CallT Try.prog 104 [Kd.val .ptr s1, Kd.val (.int .i64) i2] false (.int .i64) h Q :=
  fn_sound2 (c := weave (Try.f104.body.getD .skip) park_state_flag.mk) Try.func104 (by kernel_rfl) Try.ntmps104 (rs := [.tmp 4]) (by kernel_rfl) [⟨.ptr, s1⟩, ⟨(.int .i64), i2⟩] (by kernel_rfl) (by kernel_rfl) (by kernel_rfl) (by kernel_rfl) H

theorem park_state_other.br {s1 : Option Addr} {h : Heap} {Q : Int → Heap → Prop} (H : park_state_other.M  s1 h Q) :
    CallT Try.prog 105 [Kd.val .ptr s1] false (.int .i64) h Q :=
  fn_sound2 (c := weave (Try.f105.body.getD .skip) park_state_other.mk) Try.func105 (by kernel_rfl) Try.ntmps105 (rs := [.tmp 2]) (by kernel_rfl) [⟨.ptr, s1⟩] (by kernel_rfl) (by kernel_rfl) (by kernel_rfl) (by kernel_rfl) H

theorem ref9_Op_who.br {o1 : Den kref9Op} {h : Heap} {Q : Int → Heap → Prop} (H : ref9_Op_who.M  o1 h Q) :
    CallT Try.prog 106 [Kd.val kref9Op o1] false (.int .i64) h Q :=
  fn_sound2 (c := weave (Try.f106.body.getD .skip) ref9_Op_who.mk) Try.func106 (by kernel_rfl) Try.ntmps106 (rs := [.tmp 2]) (by kernel_rfl) [⟨kref9Op, o1⟩] (by kernel_rfl) (by kernel_rfl) (by kernel_rfl) (by kernel_rfl) H

theorem ref9_Op_to.br {o1 : Den kref9Op} {at_2 : Int} {h : Heap} {Q : Den kref9Op → Heap → Prop} (H : ref9_Op_to.M  o1 at_2 h Q) :
    CallT Try.prog 107 [Kd.val kref9Op o1, Kd.val (.int .i64) at_2] false kref9Op h Q :=
  fn_sound2 (c := weave (Try.f107.body.getD .skip) ref9_Op_to.mk) Try.func107 (by kernel_rfl) Try.ntmps107 (rs := [.cell 4 102]) (by kernel_rfl) [⟨kref9Op, o1⟩, ⟨(.int .i64), at_2⟩] (by kernel_rfl) (by kernel_rfl) (by kernel_rfl) (by kernel_rfl) H

theorem ref9_Op_around.br {o1 : Den kref9Op} {at_2 : Int} {then_3 : Den kref9Op} {h : Heap} {Q : Den kref9Op → Heap → Prop} (H : ref9_Op_around.M  o1 at_2 then_3 h Q) :
    CallT Try.prog 108 [Kd.val kref9Op o1, Kd.val (.int .i64) at_2, Kd.val kref9Op then_3] false kref9Op h Q :=
  fn_sound2 (c := weave (Try.f108.body.getD .skip) ref9_Op_around.mk) Try.func108 (by kernel_rfl) Try.ntmps108 (rs := [.cell 6 102]) (by kernel_rfl) [⟨kref9Op, o1⟩, ⟨(.int .i64), at_2⟩, ⟨kref9Op, then_3⟩] (by kernel_rfl) (by kernel_rfl) (by kernel_rfl) (by kernel_rfl) H

theorem cells_ledger_has.br {l1 : Option Addr} {addr2 : Int} {h : Heap} {Q : Bool → Heap → Prop} (H : cells_ledger_has.M  l1 addr2 h Q) :
    CallT Try.prog 109 [Kd.val .ptr l1, Kd.val (.int .i64) addr2] false .bool h Q :=
  fn_sound2 (c := weave (Try.f109.body.getD .skip) cells_ledger_has.mk) Try.func109 (by kernel_rfl) Try.ntmps109 (rs := [.tmp 4]) (by kernel_rfl) [⟨.ptr, l1⟩, ⟨(.int .i64), addr2⟩] (by kernel_rfl) (by kernel_rfl) (by kernel_rfl) (by kernel_rfl) H

theorem cells_Arena_Add.br {a1 : Option Addr} {addr2 : Int} {d3 : Int} {h : Heap} {Q : Den kparkLot → Heap → Prop} (H : cells_Arena_Add.M (fun x0 x1 h K => CallT Try.prog 93 [Kd.val .ptr x0, Kd.val (.int .i64) x1] false .bool h K) (fun x0 x1 x2 x3 x4 x5 h K => CallT Try.prog 92 [Kd.val .ptr x0, Kd.val (.int .i64) x1, Kd.val (.int .i64) x2, Kd.val (.int .i64) x3, Kd.val (.int .i64) x4, Kd.val .bool x5] true .nil h K) a1 addr2 d3 h Q) :
    CallT Try.prog 126 [Kd.val .ptr a1, Kd.val (.int .i64) addr2, Kd.val (.int .i64) d3] true kparkLot h Q :=
  fn_sound2 (c := weave (Try.f126.body.getD .skip) cells_Arena_Add.mk) Try.func126 (by kernel_rfl) Try.ntmps126 (rs := [.tmp 6, .tmp 7]) (by kernel_rfl) [⟨.ptr, a1⟩, ⟨(.int .i64), addr2⟩, ⟨(.int .i64), d3⟩] (by kernel_rfl) (by kernel_rfl) (by kernel_rfl) (by kernel_rfl) H

theorem cells_Arena_CAS.br {a1 : Option Addr} {addr2 : Int} {old3 : Int} {next4 : Int} {h : Heap} {Q : (Bool × (Int × Unit)) → Heap → Prop} (H : cells_Arena_CAS.M (fun x0 x1 h K => CallT Try.prog 93 [Kd.val .ptr x0, Kd.val (.int .i64) x1] false .bool h K) (fun x0 x1 x2 x3 x4 x5 h K => CallT Try.prog 92 [Kd.val .ptr x0, Kd.val (.int .i64) x1, Kd.val (.int .i64) x2, Kd.val (.int .i64) x3, Kd.val (.int .i64) x4, Kd.val .bool x5] true .nil h K) a1 addr2 old3 next4 h Q) :
    CallT Try.prog 127 [Kd.val .ptr a1, Kd.val (.int .i64) addr2, Kd.val (.int .i64) old3, Kd.val (.int .i64) next4] true (.pair .bool (.pair (.int .i64) .nil)) h Q :=
  fn_sound2 (c := weave (Try.f127.body.getD .skip) cells_Arena_CAS.mk) Try.func127 (by kernel_rfl) Try.ntmps127 (rs := [.tmp 8, .tmp 9]) (by kernel_rfl) [⟨.ptr, a1⟩, ⟨(.int .i64), addr2⟩, ⟨(.int .i64), old3⟩, ⟨(.int .i64), next4⟩] (by kernel_rfl) (by kernel_rfl) (by kernel_rfl) (by kernel_rfl) H

theorem cells_Arena_Load.br {a1 : Option Addr} {addr2 : Int} {h : Heap} {Q : Den kparkLot → Heap → Prop} (H : cells_Arena_Load.M (fun x0 x1 h K => CallT Try.prog 93 [Kd.val .ptr x0, Kd.val (.int .i64) x1] false .bool h K) (fun x0 x1 x2 x3 x4 x5 h K => CallT Try.prog 92 [Kd.val .ptr x0, Kd.val (.int .i64) x1, Kd.val (.int .i64) x2, Kd.val (.int .i64) x3, Kd.val (.int .i64) x4, Kd.val .bool x5] true .nil h K) a1 addr2 h Q) :
    CallT Try.prog 128 [Kd.val .ptr a1, Kd.val (.int .i64) addr2] true kparkLot h Q :=
  fn_sound2 (c := weave (Try.f128.body.getD .skip) cells_Arena_Load.mk) Try.func128 (by kernel_rfl) Try.ntmps128 (rs := [.tmp 4, .tmp 5]) (by kernel_rfl) [⟨.ptr, a1⟩, ⟨(.int .i64), addr2⟩] (by kernel_rfl) (by kernel_rfl) (by kernel_rfl) (by kernel_rfl) H

theorem law3_Deny_Add.br {m1 : Option Addr} {addr2 : Int} {d3 : Int} {h : Heap} {Q : Den kparkLot → Heap → Prop} (H : law3_Deny_Add.M (fun x0 h K => CallT Try.prog 135 [Kd.val .ptr x0] false .bool h K) (fun x0 x1 x2 h K => CallT Try.prog 126 [Kd.val .ptr x0, Kd.val (.int .i64) x1, Kd.val (.int .i64) x2] true kparkLot h K) m1 addr2 d3 h Q) :
    CallT Try.prog 130 [Kd.val .ptr m1, Kd.val (.int .i64) addr2, Kd.val (.int .i64) d3] true kparkLot h Q :=
  fn_sound2 (c := weave (Try.f130.body.getD .skip) law3_Deny_Add.mk) Try.func130 (by kernel_rfl) Try.ntmps130 (rs := [.tmp 6, .tmp 7]) (by kernel_rfl) [⟨.ptr, m1⟩, ⟨(.int .i64), addr2⟩, ⟨(.int .i64), d3⟩] (by kernel_rfl) (by kernel_rfl) (by kernel_rfl) (by kernel_rfl) H

theorem law3_Deny_CAS.br {m1 : Option Addr} {addr2 : Int} {from_3 : Int} {to4 : Int} {h : Heap} {Q : (Bool × (Int × Unit)) → Heap → Prop} (H : law3_Deny_CAS.M (fun x0 h K => CallT Try.prog 135 [Kd.val .ptr x0] false .bool h K) (fun x0 x1 x2 x3 h K => CallT Try.prog 127 [Kd.val .ptr x0, Kd.val (.int .i64) x1, Kd.val (.int .i64) x2, Kd.val (.int .i64) x3] true (.pair .bool (.pair (.int .i64) .nil)) h K) m1 addr2 from_3 to4 h Q) :
    CallT Try.prog 131 [Kd.val .ptr m1, Kd.val (.int .i64) addr2, Kd.val (.int .i64) from_3, Kd.val (.int .i64) to4] true (.pair .bool (.pair (.int .i64) .nil)) h Q :=
  fn_sound2 (c := weave (Try.f131.body.getD .skip) law3_Deny_CAS.mk) Try.func131 (by kernel_rfl) Try.ntmps131 (rs := [.tmp 8, .tmp 9]) (by kernel_rfl) [⟨.ptr, m1⟩, ⟨(.int .i64), addr2⟩, ⟨(.int .i64), from_3⟩, ⟨(.int .i64), to4⟩] (by kernel_rfl) (by kernel_rfl) (by kernel_rfl) (by kernel_rfl) H

theorem law3_Deny_Load.br {m1 : Option Addr} {addr2 : Int} {h : Heap} {Q : Den kparkLot → Heap → Prop} (H : law3_Deny_Load.M (fun x0 h K => CallT Try.prog 135 [Kd.val .ptr x0] false .bool h K) (fun x0 x1 h K => CallT Try.prog 128 [Kd.val .ptr x0, Kd.val (.int .i64) x1] true kparkLot h K) m1 addr2 h Q) :
    CallT Try.prog 132 [Kd.val .ptr m1, Kd.val (.int .i64) addr2] true kparkLot h Q :=
  fn_sound2 (c := weave (Try.f132.body.getD .skip) law3_Deny_Load.mk) Try.func132 (by kernel_rfl) Try.ntmps132 (rs := [.tmp 4, .tmp 5]) (by kernel_rfl) [⟨.ptr, m1⟩, ⟨(.int .i64), addr2⟩] (by kernel_rfl) (by kernel_rfl) (by kernel_rfl) (by kernel_rfl) H

theorem law3_Deny_Reserve.br {m1 : Option Addr} {n2 : Int} {h : Heap} {Q : Den kparkLot → Heap → Prop} (H : law3_Deny_Reserve.M (fun x0 h K => CallT Try.prog 135 [Kd.val .ptr x0] false .bool h K) (fun x0 x1 h K => CallT Try.prog 52 [Kd.val .ptr x0, Kd.val (.int .i64) x1] true kparkLot h K) m1 n2 h Q) :
    CallT Try.prog 133 [Kd.val .ptr m1, Kd.val (.int .i64) n2] true kparkLot h Q :=
  fn_sound2 (c := weave (Try.f133.body.getD .skip) law3_Deny_Reserve.mk) Try.func133 (by kernel_rfl) Try.ntmps133 (rs := [.tmp 4, .tmp 5]) (by kernel_rfl) [⟨.ptr, m1⟩, ⟨(.int .i64), n2⟩] (by kernel_rfl) (by kernel_rfl) (by kernel_rfl) (by kernel_rfl) H

theorem law3_Deny_Store.br {m1 : Option Addr} {addr2 : Int} {v3 : Int} {h : Heap} {Q : Int → Heap → Prop} (H : law3_Deny_Store.M (fun x0 h K => CallT Try.prog 135 [Kd.val .ptr x0] false .bool h K) (fun x0 x1 x2 h K => CallT Try.prog 53 [Kd.val .ptr x0, Kd.val (.int .i64) x1, Kd.val (.int .i64) x2] false (.int .i64) h K) m1 addr2 v3 h Q) :
    CallT Try.prog 134 [Kd.val .ptr m1, Kd.val (.int .i64) addr2, Kd.val (.int .i64) v3] false (.int .i64) h Q :=
  fn_sound2 (c := weave (Try.f134.body.getD .skip) law3_Deny_Store.mk) Try.func134 (by kernel_rfl) Try.ntmps134 (rs := [.tmp 6]) (by kernel_rfl) [⟨.ptr, m1⟩, ⟨(.int .i64), addr2⟩, ⟨(.int .i64), v3⟩] (by kernel_rfl) (by kernel_rfl) (by kernel_rfl) (by kernel_rfl) H

theorem law3_Deny_refuses.br {m1 : Option Addr} {h : Heap} {Q : Bool → Heap → Prop} (H : law3_Deny_refuses.M  m1 h Q) :
    CallT Try.prog 135 [Kd.val .ptr m1] false .bool h Q :=
  fn_sound2 (c := weave (Try.f135.body.getD .skip) law3_Deny_refuses.mk) Try.func135 (by kernel_rfl) Try.ntmps135 (rs := [.tmp 2]) (by kernel_rfl) [⟨.ptr, m1⟩] (by kernel_rfl) (by kernel_rfl) (by kernel_rfl) (by kernel_rfl) H

end Go.Mx
