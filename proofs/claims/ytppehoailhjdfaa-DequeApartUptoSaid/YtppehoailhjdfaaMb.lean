/-
  The bridges: a function's calls, by what it comes to over abstract heaps: printed by a program of this workplace.
-/
import Derived.Test.YtppehoailhjdfaaMd
import Derived.Test.YtppehoailhjdfaaProg
set_option linter.unusedVariables false
set_option maxRecDepth 100000
namespace Go.Mx
open Go.Proofs
theorem law3_DequeStack.br {first1 : Int} {most2 : Int} {todos3 : Sl} {h : Heap} {Q : Bool → Heap → Prop} (H : law3_DequeStack.M (fun x0 x1 h K => CallT Try.prog 36 [Kd.val (.int .i64) x0, Kd.val (.int .i64) x1] false .bool h K) (fun x0 x1 x2 h K => CallT Try.prog 21 [Kd.val .iface x0, Kd.val (.int .i64) x1, Kd.val (.int .i64) x2] true (.pair kparkLot (.pair (.int .i64) .nil)) h K) (fun x0 x1 h K => CallT Try.prog 26 [Kd.val (.int .i64) x0, Kd.val (.int .i64) x1] false (.int .i64) h K) (fun x0 h K => CallT Try.prog 33 [Kd.val (.int .i64) x0] true (.pair .ptr (.pair (.int .i64) .nil)) h K) (fun x0 x1 h K => CallT Try.prog 37 [Kd.val kparkLot x0, Kd.val (.int .i64) x1] false kdequeOp h K) (fun x0 h K => CallT Try.prog 38 [Kd.val kparkLot x0] false kdequeOp h K) (fun x0 h K => CallT Try.prog 39 [Kd.val kparkLot x0] false kdequeOp h K) (fun x0 h K => CallT Try.prog 40 [Kd.val kparkLot x0] false kdequeOp h K) (fun x0 x1 x2 h K => CallT Try.prog 41 [Kd.val .ptr x0, Kd.val kdequeOp x1, Kd.val (.int .i64) x2] true (.pair (.int .i64) (.pair (.int .i64) (.pair .bool .nil))) h K) first1 most2 todos3 h Q) :
    CallT Try.prog 6 [Kd.val (.int .i64) first1, Kd.val (.int .i64) most2, Kd.val .sl todos3] false .bool h Q :=
  fn_sound2 (c := weave (Try.f6.body.getD .skip) law3_DequeStack.mk) Try.func6 (by kernel_rfl) Try.ntmps6 (rs := [.tmp 6]) (by kernel_rfl) [⟨(.int .i64), first1⟩, ⟨(.int .i64), most2⟩, ⟨.sl, todos3⟩] (by kernel_rfl) (by kernel_rfl) (by kernel_rfl) (by kernel_rfl) H

theorem law3_DequeApart.e3 {Q : Bool → Heap → Prop} (s : (Sl × (Option Addr × (Option Addr × (Option Addr × (Den kparkLot × (Den kparkLot × (Den kparkLot × (Den kparkLot × Unit))))))))) (h : Heap) : law3_DequeApart.k6 (fun x0 x1 h K => CallT Try.prog 19 [Kd.val (.int .i64) x0, Kd.val (.int .i64) x1] false (.int .i64) h K) (fun x0 x1 x2 x3 h K => CallT Try.prog 43 [Kd.val .ptr x0, Kd.val kparkLot x1, Kd.val kdequeOp x2, Kd.val klaw3Turn x3] false kdequeOp h K) (fun x0 h K => CallT Try.prog 34 [Kd.val kdequeOp x0] true kparkLot h K) Q s h = interp Try.prog 231 (AC.rest 4 (AC.rest 5 (AC.rest 1 (weave (Try.f7.body.getD .skip) law3_DequeApart.mk)))) [] (setC [.slot 4 .sl, .slot 13 .ptr, .slot 15 .ptr, .slot 17 .ptr, .box 19 kparkLot, .box 21 kparkLot, .box 23 kparkLot, .box 25 kparkLot] s (addrS [(19, 19, 0), (21, 21, 0), (23, 23, 0), (25, 25, 0)])) (setB [.slot 4 .sl, .slot 13 .ptr, .slot 15 .ptr, .slot 17 .ptr, .box 19 kparkLot, .box 21 kparkLot, .box 23 kparkLot, .box 25 kparkLot] s []) h (retK Try.prog [.tmp 10] false .bool Q) (fun _ _ _ _ => False) (retK Try.prog [.tmp 10] false .bool Q) :=
  (by kernel_rfl)
theorem law3_DequeApart.e2 {Q : Bool → Heap → Prop} (s : (Int × (Int × (Int × (Int × (Sl × (Option Addr × (Option Addr × (Option Addr × Unit))))))))) (h : Heap) : law3_DequeApart.k8 (fun x0 x1 x2 h K => CallT Try.prog 21 [Kd.val .iface x0, Kd.val (.int .i64) x1, Kd.val (.int .i64) x2] true (.pair kparkLot (.pair (.int .i64) .nil)) h K) (fun x0 x1 h K => CallT Try.prog 42 [Kd.val .ptr x0, Kd.val kparkLot x1] false .bool h K) (fun x0 x1 h K => CallT Try.prog 19 [Kd.val (.int .i64) x0, Kd.val (.int .i64) x1] false (.int .i64) h K) (fun x0 x1 x2 x3 h K => CallT Try.prog 43 [Kd.val .ptr x0, Kd.val kparkLot x1, Kd.val kdequeOp x2, Kd.val klaw3Turn x3] false kdequeOp h K) (fun x0 h K => CallT Try.prog 34 [Kd.val kdequeOp x0] true kparkLot h K) Q s h = interp Try.prog 231 (AC.rest 5 (AC.rest 1 (weave (Try.f7.body.getD .skip) law3_DequeApart.mk))) [] (setC [.slot 0 (.int .i64), .slot 1 (.int .i64), .slot 2 (.int .i64), .slot 3 (.int .i64), .slot 4 .sl, .slot 13 .ptr, .slot 15 .ptr, .slot 17 .ptr] s (addrS [])) (setB [.slot 0 (.int .i64), .slot 1 (.int .i64), .slot 2 (.int .i64), .slot 3 (.int .i64), .slot 4 .sl, .slot 13 .ptr, .slot 15 .ptr, .slot 17 .ptr] s []) h (retK Try.prog [.tmp 10] false .bool Q) (fun _ _ _ _ => False) (retK Try.prog [.tmp 10] false .bool Q) :=
  (cut_part 4 (cc := [.slot 4 .sl, .slot 13 .ptr, .slot 15 .ptr, .slot 17 .ptr, .box 19 kparkLot, .box 21 kparkLot, .box 23 kparkLot, .box 25 kparkLot]) (A := [(19, 19, 0), (21, 21, 0), (23, 23, 0), (25, 25, 0)]) (b := (AC.rest 4 (AC.rest 5 (AC.rest 1 (weave (Try.f7.body.getD .skip) law3_DequeApart.mk))))) (by kernel_rfl) (fun s h => law3_DequeApart.k6 (fun x0 x1 h K => CallT Try.prog 19 [Kd.val (.int .i64) x0, Kd.val (.int .i64) x1] false (.int .i64) h K) (fun x0 x1 x2 x3 h K => CallT Try.prog 43 [Kd.val .ptr x0, Kd.val kparkLot x1, Kd.val kdequeOp x2, Kd.val klaw3Turn x3] false kdequeOp h K) (fun x0 h K => CallT Try.prog 34 [Kd.val kdequeOp x0] true kparkLot h K) Q s h) (by kernel_rfl) law3_DequeApart.e3)
theorem law3_DequeApart.e1 {Q : Bool → Heap → Prop} (s : (Int × (Int × (Int × (Int × (Sl × Unit)))))) (h : Heap) : law3_DequeApart.k10 (fun x0 x1 h K => CallT Try.prog 26 [Kd.val (.int .i64) x0, Kd.val (.int .i64) x1] false (.int .i64) h K) (fun x0 h K => CallT Try.prog 33 [Kd.val (.int .i64) x0] true (.pair .ptr (.pair (.int .i64) .nil)) h K) (fun x0 x1 x2 h K => CallT Try.prog 21 [Kd.val .iface x0, Kd.val (.int .i64) x1, Kd.val (.int .i64) x2] true (.pair kparkLot (.pair (.int .i64) .nil)) h K) (fun x0 x1 h K => CallT Try.prog 42 [Kd.val .ptr x0, Kd.val kparkLot x1] false .bool h K) (fun x0 x1 h K => CallT Try.prog 19 [Kd.val (.int .i64) x0, Kd.val (.int .i64) x1] false (.int .i64) h K) (fun x0 x1 x2 x3 h K => CallT Try.prog 43 [Kd.val .ptr x0, Kd.val kparkLot x1, Kd.val kdequeOp x2, Kd.val klaw3Turn x3] false kdequeOp h K) (fun x0 h K => CallT Try.prog 34 [Kd.val kdequeOp x0] true kparkLot h K) Q s h = interp Try.prog 231 (AC.rest 1 (weave (Try.f7.body.getD .skip) law3_DequeApart.mk)) [] (setC [.slot 0 (.int .i64), .slot 1 (.int .i64), .slot 2 (.int .i64), .slot 3 (.int .i64), .slot 4 .sl] s (addrS [])) (setB [.slot 0 (.int .i64), .slot 1 (.int .i64), .slot 2 (.int .i64), .slot 3 (.int .i64), .slot 4 .sl] s []) h (retK Try.prog [.tmp 10] false .bool Q) (fun _ _ _ _ => False) (retK Try.prog [.tmp 10] false .bool Q) :=
  (cut_part 5 (cc := [.slot 0 (.int .i64), .slot 1 (.int .i64), .slot 2 (.int .i64), .slot 3 (.int .i64), .slot 4 .sl, .slot 13 .ptr, .slot 15 .ptr, .slot 17 .ptr]) (A := []) (b := (AC.rest 5 (AC.rest 1 (weave (Try.f7.body.getD .skip) law3_DequeApart.mk)))) (by kernel_rfl) (fun s h => law3_DequeApart.k8 (fun x0 x1 x2 h K => CallT Try.prog 21 [Kd.val .iface x0, Kd.val (.int .i64) x1, Kd.val (.int .i64) x2] true (.pair kparkLot (.pair (.int .i64) .nil)) h K) (fun x0 x1 h K => CallT Try.prog 42 [Kd.val .ptr x0, Kd.val kparkLot x1] false .bool h K) (fun x0 x1 h K => CallT Try.prog 19 [Kd.val (.int .i64) x0, Kd.val (.int .i64) x1] false (.int .i64) h K) (fun x0 x1 x2 x3 h K => CallT Try.prog 43 [Kd.val .ptr x0, Kd.val kparkLot x1, Kd.val kdequeOp x2, Kd.val klaw3Turn x3] false kdequeOp h K) (fun x0 h K => CallT Try.prog 34 [Kd.val kdequeOp x0] true kparkLot h K) Q s h) (by kernel_rfl) law3_DequeApart.e2)
theorem law3_DequeApart.br {first01 : Int} {most02 : Int} {first13 : Int} {most14 : Int} {turns5 : Sl} {h : Heap} {Q : Bool → Heap → Prop} (H : law3_DequeApart.M (fun x0 x1 h K => CallT Try.prog 36 [Kd.val (.int .i64) x0, Kd.val (.int .i64) x1] false .bool h K) (fun x0 x1 h K => CallT Try.prog 26 [Kd.val (.int .i64) x0, Kd.val (.int .i64) x1] false (.int .i64) h K) (fun x0 h K => CallT Try.prog 33 [Kd.val (.int .i64) x0] true (.pair .ptr (.pair (.int .i64) .nil)) h K) (fun x0 x1 x2 h K => CallT Try.prog 21 [Kd.val .iface x0, Kd.val (.int .i64) x1, Kd.val (.int .i64) x2] true (.pair kparkLot (.pair (.int .i64) .nil)) h K) (fun x0 x1 h K => CallT Try.prog 42 [Kd.val .ptr x0, Kd.val kparkLot x1] false .bool h K) (fun x0 x1 h K => CallT Try.prog 19 [Kd.val (.int .i64) x0, Kd.val (.int .i64) x1] false (.int .i64) h K) (fun x0 x1 x2 x3 h K => CallT Try.prog 43 [Kd.val .ptr x0, Kd.val kparkLot x1, Kd.val kdequeOp x2, Kd.val klaw3Turn x3] false kdequeOp h K) (fun x0 h K => CallT Try.prog 34 [Kd.val kdequeOp x0] true kparkLot h K) first01 most02 first13 most14 turns5 h Q) :
    CallT Try.prog 7 [Kd.val (.int .i64) first01, Kd.val (.int .i64) most02, Kd.val (.int .i64) first13, Kd.val (.int .i64) most14, Kd.val .sl turns5] false .bool h Q :=
  fn_sound2 (c := weave (Try.f7.body.getD .skip) law3_DequeApart.mk) Try.func7 (by kernel_rfl) Try.ntmps7 (rs := [.tmp 10]) (by kernel_rfl) [⟨(.int .i64), first01⟩, ⟨(.int .i64), most02⟩, ⟨(.int .i64), first13⟩, ⟨(.int .i64), most14⟩, ⟨.sl, turns5⟩] (by kernel_rfl) (by kernel_rfl) (by kernel_rfl) (cut_part 1 (cc := [.slot 0 (.int .i64), .slot 1 (.int .i64), .slot 2 (.int .i64), .slot 3 (.int .i64), .slot 4 .sl]) (A := []) (b := (AC.rest 1 (weave (Try.f7.body.getD .skip) law3_DequeApart.mk))) (by kernel_rfl) (fun s h => law3_DequeApart.k10 (fun x0 x1 h K => CallT Try.prog 26 [Kd.val (.int .i64) x0, Kd.val (.int .i64) x1] false (.int .i64) h K) (fun x0 h K => CallT Try.prog 33 [Kd.val (.int .i64) x0] true (.pair .ptr (.pair (.int .i64) .nil)) h K) (fun x0 x1 x2 h K => CallT Try.prog 21 [Kd.val .iface x0, Kd.val (.int .i64) x1, Kd.val (.int .i64) x2] true (.pair kparkLot (.pair (.int .i64) .nil)) h K) (fun x0 x1 h K => CallT Try.prog 42 [Kd.val .ptr x0, Kd.val kparkLot x1] false .bool h K) (fun x0 x1 h K => CallT Try.prog 19 [Kd.val (.int .i64) x0, Kd.val (.int .i64) x1] false (.int .i64) h K) (fun x0 x1 x2 x3 h K => CallT Try.prog 43 [Kd.val .ptr x0, Kd.val kparkLot x1, Kd.val kdequeOp x2, Kd.val klaw3Turn x3] false kdequeOp h K) (fun x0 h K => CallT Try.prog 34 [Kd.val kdequeOp x0] true kparkLot h K) Q s h) (by kernel_rfl) law3_DequeApart.e1) H

theorem cells_Arena_Cells.br {a1 : Option Addr} {h : Heap} {Q : Sl → Heap → Prop} (H : cells_Arena_Cells.M  a1 h Q) :
    CallT Try.prog 14 [Kd.val .ptr a1] false .sl h Q :=
  fn_sound2 (c := weave (Try.f14.body.getD .skip) cells_Arena_Cells.mk) Try.func14 (by kernel_rfl) Try.ntmps14 (rs := [.tmp 2]) (by kernel_rfl) [⟨.ptr, a1⟩] (by kernel_rfl) (by kernel_rfl) (by kernel_rfl) (by kernel_rfl) H

theorem cells_Arena_Log.br {a1 : Option Addr} {h : Heap} {Q : Sl → Heap → Prop} (H : cells_Arena_Log.M  a1 h Q) :
    CallT Try.prog 16 [Kd.val .ptr a1] false .sl h Q :=
  fn_sound2 (c := weave (Try.f16.body.getD .skip) cells_Arena_Log.mk) Try.func16 (by kernel_rfl) Try.ntmps16 (rs := [.tmp 2]) (by kernel_rfl) [⟨.ptr, a1⟩] (by kernel_rfl) (by kernel_rfl) (by kernel_rfl) (by kernel_rfl) H

theorem law3_mod.br {x1 : Int} {n2 : Int} {h : Heap} {Q : Int → Heap → Prop} (H : law3_mod.M  x1 n2 h Q) :
    CallT Try.prog 19 [Kd.val (.int .i64) x1, Kd.val (.int .i64) n2] false (.int .i64) h Q :=
  fn_sound2 (c := weave (Try.f19.body.getD .skip) law3_mod.mk) Try.func19 (by kernel_rfl) Try.ntmps19 (rs := [.tmp 4]) (by kernel_rfl) [⟨(.int .i64), x1⟩, ⟨(.int .i64), n2⟩] (by kernel_rfl) (by kernel_rfl) (by kernel_rfl) (by kernel_rfl) H

theorem deque_New.br {m1 : Value} {low2 : Int} {most3 : Int} {h : Heap} {Q : (Den kparkLot × (Int × Unit)) → Heap → Prop} (H : deque_New.M (fun x0 x1 h K => CallT Try.prog 56 [Kd.val (.int .i64) x0, Kd.val (.int .i64) x1] false .bool h K) (fun x0 x1 h K => InvT Try.prog "Reserve" x0 [Kd.val (.int .i64) x1] true kparkLot h K) (fun x0 x1 x2 h K => InvT Try.prog "Store" x0 [Kd.val (.int .i64) x1, Kd.val (.int .i64) x2] false (.int .i64) h K) m1 low2 most3 h Q) :
    CallT Try.prog 21 [Kd.val .iface m1, Kd.val (.int .i64) low2, Kd.val (.int .i64) most3] true (.pair kparkLot (.pair (.int .i64) .nil)) h Q :=
  fn_sound2 (c := weave (Try.f21.body.getD .skip) deque_New.mk) Try.func21 (by kernel_rfl) Try.ntmps21 (rs := [.cell 6 46, .tmp 7]) (by kernel_rfl) [⟨.iface, m1⟩, ⟨(.int .i64), low2⟩, ⟨(.int .i64), most3⟩] (by kernel_rfl) (by kernel_rfl) (by kernel_rfl) (by kernel_rfl) H

theorem deque_Cells.br {low1 : Int} {most2 : Int} {h : Heap} {Q : Int → Heap → Prop} (H : deque_Cells.M (fun x0 x1 h K => CallT Try.prog 56 [Kd.val (.int .i64) x0, Kd.val (.int .i64) x1] false .bool h K) low1 most2 h Q) :
    CallT Try.prog 26 [Kd.val (.int .i64) low1, Kd.val (.int .i64) most2] false (.int .i64) h Q :=
  fn_sound2 (c := weave (Try.f26.body.getD .skip) deque_Cells.mk) Try.func26 (by kernel_rfl) Try.ntmps26 (rs := [.tmp 4]) (by kernel_rfl) [⟨(.int .i64), low1⟩, ⟨(.int .i64), most2⟩] (by kernel_rfl) (by kernel_rfl) (by kernel_rfl) (by kernel_rfl) H

theorem cells_Arena_Who.br {a1 : Option Addr} {actor2 : Int} {h : Heap} {Q : Unit → Heap → Prop} (H : cells_Arena_Who.M  a1 actor2 h Q) :
    CallT Try.prog 29 [Kd.val .ptr a1, Kd.val (.int .i64) actor2] true .nil h Q :=
  fn_sound2 (c := weave (Try.f29.body.getD .skip) cells_Arena_Who.mk) Try.func29 (by kernel_rfl) Try.ntmps29 (rs := []) (by kernel_rfl) [⟨.ptr, a1⟩, ⟨(.int .i64), actor2⟩] (by kernel_rfl) (by kernel_rfl) (by kernel_rfl) (by kernel_rfl) H

theorem deque_Step.br {m1 : Value} {o2 : Den kdequeOp} {h : Heap} {Q : Den kdequeOp → Heap → Prop} (H : deque_Step.M (fun x0 x1 x2 h K => CallT Try.prog 59 [Kd.val kdequeOp x0, Kd.val (.int .i64) x1, Kd.val (.int .i64) x2] false kdequeOp h K) (fun x0 x1 h K => CallT Try.prog 60 [Kd.val kdequeOp x0, Kd.val .iface x1] true kparkLot h K) (fun x0 x1 h K => CallT Try.prog 61 [Kd.val kdequeOp x0, Kd.val (.int .i64) x1] false kdequeOp h K) (fun x0 x1 h K => CallT Try.prog 62 [Kd.val kdequeOp x0, Kd.val (.int .i64) x1] false kdequeOp h K) (fun x0 x1 h K => CallT Try.prog 63 [Kd.val kdequeOp x0, Kd.val (.int .i64) x1] false kdequeOp h K) (fun x0 x1 h K => CallT Try.prog 64 [Kd.val kdequeOp x0, Kd.val (.int .i64) x1] false kdequeOp h K) m1 o2 h Q) :
    CallT Try.prog 30 [Kd.val .iface m1, Kd.val kdequeOp o2] false kdequeOp h Q :=
  fn_sound2 (c := weave (Try.f30.body.getD .skip) deque_Step.mk) Try.func30 (by kernel_rfl) Try.ntmps30 (rs := [.cell 4 56]) (by kernel_rfl) [⟨.iface, m1⟩, ⟨kdequeOp, o2⟩] (by kernel_rfl) (by kernel_rfl) (by kernel_rfl) (by kernel_rfl) H

theorem cells_New.br {size1 : Int} {h : Heap} {Q : (Option Addr × (Int × Unit)) → Heap → Prop} (H : cells_New.M (fun x0 h K => CallT Try.prog 70 [Kd.val (.int .i64) x0] false .bool h K) size1 h Q) :
    CallT Try.prog 33 [Kd.val (.int .i64) size1] true (.pair .ptr (.pair (.int .i64) .nil)) h Q :=
  fn_sound2 (c := weave (Try.f33.body.getD .skip) cells_New.mk) Try.func33 (by kernel_rfl) Try.ntmps33 (rs := [.tmp 2, .tmp 3]) (by kernel_rfl) [⟨(.int .i64), size1⟩] (by kernel_rfl) (by kernel_rfl) (by kernel_rfl) (by kernel_rfl) H

theorem deque_Answer.br {o1 : Den kdequeOp} {h : Heap} {Q : Den kparkLot → Heap → Prop} (H : deque_Answer.M  o1 h Q) :
    CallT Try.prog 34 [Kd.val kdequeOp o1] true kparkLot h Q :=
  fn_sound2 (c := weave (Try.f34.body.getD .skip) deque_Answer.mk) Try.func34 (by kernel_rfl) Try.ntmps34 (rs := [.tmp 2, .tmp 3]) (by kernel_rfl) [⟨kdequeOp, o1⟩] (by kernel_rfl) (by kernel_rfl) (by kernel_rfl) (by kernel_rfl) H

theorem law3_capsOK.br {first1 : Int} {most2 : Int} {h : Heap} {Q : Bool → Heap → Prop} (H : law3_capsOK.M  first1 most2 h Q) :
    CallT Try.prog 36 [Kd.val (.int .i64) first1, Kd.val (.int .i64) most2] false .bool h Q :=
  fn_sound2 (c := weave (Try.f36.body.getD .skip) law3_capsOK.mk) Try.func36 (by kernel_rfl) Try.ntmps36 (rs := [.tmp 4]) (by kernel_rfl) [⟨(.int .i64), first1⟩, ⟨(.int .i64), most2⟩] (by kernel_rfl) (by kernel_rfl) (by kernel_rfl) (by kernel_rfl) H

theorem deque_Push.br {d1 : Den kparkLot} {v2 : Int} {h : Heap} {Q : Den kdequeOp → Heap → Prop} (H : deque_Push.M (fun x0 x1 x2 x3 h K => CallT Try.prog 71 [Kd.val (.int .i64) x0, Kd.val (.int .i64) x1, Kd.val kparkLot x2, Kd.val (.int .i64) x3] false kdequeOp h K) d1 v2 h Q) :
    CallT Try.prog 37 [Kd.val kparkLot d1, Kd.val (.int .i64) v2] false kdequeOp h Q :=
  fn_sound2 (c := weave (Try.f37.body.getD .skip) deque_Push.mk) Try.func37 (by kernel_rfl) Try.ntmps37 (rs := [.cell 4 56]) (by kernel_rfl) [⟨kparkLot, d1⟩, ⟨(.int .i64), v2⟩] (by kernel_rfl) (by kernel_rfl) (by kernel_rfl) (by kernel_rfl) H

theorem deque_Pop.br {d1 : Den kparkLot} {h : Heap} {Q : Den kdequeOp → Heap → Prop} (H : deque_Pop.M (fun x0 x1 x2 x3 h K => CallT Try.prog 71 [Kd.val (.int .i64) x0, Kd.val (.int .i64) x1, Kd.val kparkLot x2, Kd.val (.int .i64) x3] false kdequeOp h K) d1 h Q) :
    CallT Try.prog 38 [Kd.val kparkLot d1] false kdequeOp h Q :=
  fn_sound2 (c := weave (Try.f38.body.getD .skip) deque_Pop.mk) Try.func38 (by kernel_rfl) Try.ntmps38 (rs := [.cell 2 56]) (by kernel_rfl) [⟨kparkLot, d1⟩] (by kernel_rfl) (by kernel_rfl) (by kernel_rfl) (by kernel_rfl) H

theorem deque_Steal.br {d1 : Den kparkLot} {h : Heap} {Q : Den kdequeOp → Heap → Prop} (H : deque_Steal.M (fun x0 x1 x2 x3 h K => CallT Try.prog 71 [Kd.val (.int .i64) x0, Kd.val (.int .i64) x1, Kd.val kparkLot x2, Kd.val (.int .i64) x3] false kdequeOp h K) d1 h Q) :
    CallT Try.prog 39 [Kd.val kparkLot d1] false kdequeOp h Q :=
  fn_sound2 (c := weave (Try.f39.body.getD .skip) deque_Steal.mk) Try.func39 (by kernel_rfl) Try.ntmps39 (rs := [.cell 2 56]) (by kernel_rfl) [⟨kparkLot, d1⟩] (by kernel_rfl) (by kernel_rfl) (by kernel_rfl) (by kernel_rfl) H

theorem deque_Look.br {d1 : Den kparkLot} {h : Heap} {Q : Den kdequeOp → Heap → Prop} (H : deque_Look.M (fun x0 x1 x2 x3 h K => CallT Try.prog 71 [Kd.val (.int .i64) x0, Kd.val (.int .i64) x1, Kd.val kparkLot x2, Kd.val (.int .i64) x3] false kdequeOp h K) d1 h Q) :
    CallT Try.prog 40 [Kd.val kparkLot d1] false kdequeOp h Q :=
  fn_sound2 (c := weave (Try.f40.body.getD .skip) deque_Look.mk) Try.func40 (by kernel_rfl) Try.ntmps40 (rs := [.cell 2 56]) (by kernel_rfl) [⟨kparkLot, d1⟩] (by kernel_rfl) (by kernel_rfl) (by kernel_rfl) (by kernel_rfl) H

theorem law3_whole.br {m1 : Option Addr} {o2 : Den kdequeOp} {n3 : Int} {h : Heap} {Q : (Int × (Int × (Bool × Unit))) → Heap → Prop} (H : law3_whole.M (fun x0 h K => CallT Try.prog 34 [Kd.val kdequeOp x0] true kparkLot h K) (fun x0 x1 h K => CallT Try.prog 30 [Kd.val .iface x0, Kd.val kdequeOp x1] false kdequeOp h K) m1 o2 n3 h Q) :
    CallT Try.prog 41 [Kd.val .ptr m1, Kd.val kdequeOp o2, Kd.val (.int .i64) n3] true (.pair (.int .i64) (.pair (.int .i64) (.pair .bool .nil))) h Q :=
  fn_sound2 (c := weave (Try.f41.body.getD .skip) law3_whole.mk) Try.func41 (by kernel_rfl) Try.ntmps41 (rs := [.tmp 6, .tmp 7, .tmp 8]) (by kernel_rfl) [⟨.ptr, m1⟩, ⟨kdequeOp, o2⟩, ⟨(.int .i64), n3⟩] (by kernel_rfl) (by kernel_rfl) (by kernel_rfl) (by kernel_rfl) H

theorem law3_works.br {m1 : Option Addr} {d2 : Den kparkLot} {h : Heap} {Q : Bool → Heap → Prop} (H : law3_works.M (fun x0 x1 h K => CallT Try.prog 37 [Kd.val kparkLot x0, Kd.val (.int .i64) x1] false kdequeOp h K) (fun x0 x1 x2 h K => CallT Try.prog 41 [Kd.val .ptr x0, Kd.val kdequeOp x1, Kd.val (.int .i64) x2] true (.pair (.int .i64) (.pair (.int .i64) (.pair .bool .nil))) h K) (fun x0 h K => CallT Try.prog 39 [Kd.val kparkLot x0] false kdequeOp h K) (fun x0 h K => CallT Try.prog 40 [Kd.val kparkLot x0] false kdequeOp h K) m1 d2 h Q) :
    CallT Try.prog 42 [Kd.val .ptr m1, Kd.val kparkLot d2] false .bool h Q :=
  fn_sound2 (c := weave (Try.f42.body.getD .skip) law3_works.mk) Try.func42 (by kernel_rfl) Try.ntmps42 (rs := [.tmp 4]) (by kernel_rfl) [⟨.ptr, m1⟩, ⟨kparkLot, d2⟩] (by kernel_rfl) (by kernel_rfl) (by kernel_rfl) (by kernel_rfl) H

theorem law3_turned.br {m1 : Option Addr} {d2 : Den kparkLot} {o3 : Den kdequeOp} {t4 : Den klaw3Turn} {h : Heap} {Q : Den kdequeOp → Heap → Prop} (H : law3_turned.M (fun x0 h K => CallT Try.prog 34 [Kd.val kdequeOp x0] true kparkLot h K) (fun x0 x1 h K => CallT Try.prog 37 [Kd.val kparkLot x0, Kd.val (.int .i64) x1] false kdequeOp h K) (fun x0 h K => CallT Try.prog 39 [Kd.val kparkLot x0] false kdequeOp h K) (fun x0 h K => CallT Try.prog 38 [Kd.val kparkLot x0] false kdequeOp h K) (fun x0 x1 h K => CallT Try.prog 30 [Kd.val .iface x0, Kd.val kdequeOp x1] false kdequeOp h K) m1 d2 o3 t4 h Q) :
    CallT Try.prog 43 [Kd.val .ptr m1, Kd.val kparkLot d2, Kd.val kdequeOp o3, Kd.val klaw3Turn t4] false kdequeOp h Q :=
  fn_sound2 (c := weave (Try.f43.body.getD .skip) law3_turned.mk) Try.func43 (by kernel_rfl) Try.ntmps43 (rs := [.cell 8 56]) (by kernel_rfl) [⟨.ptr, m1⟩, ⟨kparkLot, d2⟩, ⟨kdequeOp, o3⟩, ⟨klaw3Turn, t4⟩] (by kernel_rfl) (by kernel_rfl) (by kernel_rfl) (by kernel_rfl) H

theorem cells_Arena_Reserve.br {a1 : Option Addr} {n2 : Int} {h : Heap} {Q : Den kparkLot → Heap → Prop} (H : cells_Arena_Reserve.M (fun x0 x1 h K => CallT Try.prog 90 [Kd.val .ptr x0, Kd.val (.int .i64) x1] false (.int .i64) h K) (fun x0 x1 h K => CallT Try.prog 91 [Kd.val .ptr x0, Kd.val (.int .i64) x1] false (.int .i64) h K) (fun x0 x1 x2 x3 x4 x5 h K => CallT Try.prog 92 [Kd.val .ptr x0, Kd.val (.int .i64) x1, Kd.val (.int .i64) x2, Kd.val (.int .i64) x3, Kd.val (.int .i64) x4, Kd.val .bool x5] true .nil h K) a1 n2 h Q) :
    CallT Try.prog 52 [Kd.val .ptr a1, Kd.val (.int .i64) n2] true kparkLot h Q :=
  fn_sound2 (c := weave (Try.f52.body.getD .skip) cells_Arena_Reserve.mk) Try.func52 (by kernel_rfl) Try.ntmps52 (rs := [.tmp 4, .tmp 5]) (by kernel_rfl) [⟨.ptr, a1⟩, ⟨(.int .i64), n2⟩] (by kernel_rfl) (by kernel_rfl) (by kernel_rfl) (by kernel_rfl) H

theorem cells_Arena_Store.br {a1 : Option Addr} {addr2 : Int} {v3 : Int} {h : Heap} {Q : Int → Heap → Prop} (H : cells_Arena_Store.M (fun x0 x1 h K => CallT Try.prog 93 [Kd.val .ptr x0, Kd.val (.int .i64) x1] false .bool h K) (fun x0 x1 x2 x3 x4 x5 h K => CallT Try.prog 92 [Kd.val .ptr x0, Kd.val (.int .i64) x1, Kd.val (.int .i64) x2, Kd.val (.int .i64) x3, Kd.val (.int .i64) x4, Kd.val .bool x5] true .nil h K) a1 addr2 v3 h Q) :
    CallT Try.prog 53 [Kd.val .ptr a1, Kd.val (.int .i64) addr2, Kd.val (.int .i64) v3] false (.int .i64) h Q :=
  fn_sound2 (c := weave (Try.f53.body.getD .skip) cells_Arena_Store.mk) Try.func53 (by kernel_rfl) Try.ntmps53 (rs := [.tmp 6]) (by kernel_rfl) [⟨.ptr, a1⟩, ⟨(.int .i64), addr2⟩, ⟨(.int .i64), v3⟩] (by kernel_rfl) (by kernel_rfl) (by kernel_rfl) (by kernel_rfl) H

theorem cells_Arena_Watch.br {a1 : Option Addr} {on2 : Bool} {h : Heap} {Q : Unit → Heap → Prop} (H : cells_Arena_Watch.M  a1 on2 h Q) :
    CallT Try.prog 54 [Kd.val .ptr a1, Kd.val .bool on2] true .nil h Q :=
  fn_sound2 (c := weave (Try.f54.body.getD .skip) cells_Arena_Watch.mk) Try.func54 (by kernel_rfl) Try.ntmps54 (rs := []) (by kernel_rfl) [⟨.ptr, a1⟩, ⟨.bool, on2⟩] (by kernel_rfl) (by kernel_rfl) (by kernel_rfl) (by kernel_rfl) H

theorem deque_capsOK.br {low1 : Int} {most2 : Int} {h : Heap} {Q : Bool → Heap → Prop} (H : deque_capsOK.M  low1 most2 h Q) :
    CallT Try.prog 56 [Kd.val (.int .i64) low1, Kd.val (.int .i64) most2] false .bool h Q :=
  fn_sound2 (c := weave (Try.f56.body.getD .skip) deque_capsOK.mk) Try.func56 (by kernel_rfl) Try.ntmps56 (rs := [.tmp 4]) (by kernel_rfl) [⟨(.int .i64), low1⟩, ⟨(.int .i64), most2⟩] (by kernel_rfl) (by kernel_rfl) (by kernel_rfl) (by kernel_rfl) H

theorem deque_Op_over.br {o1 : Den kdequeOp} {code2 : Int} {v3 : Int} {h : Heap} {Q : Den kdequeOp → Heap → Prop} (H : deque_Op_over.M  o1 code2 v3 h Q) :
    CallT Try.prog 59 [Kd.val kdequeOp o1, Kd.val (.int .i64) code2, Kd.val (.int .i64) v3] false kdequeOp h Q :=
  fn_sound2 (c := weave (Try.f59.body.getD .skip) deque_Op_over.mk) Try.func59 (by kernel_rfl) Try.ntmps59 (rs := [.cell 6 56]) (by kernel_rfl) [⟨kdequeOp, o1⟩, ⟨(.int .i64), code2⟩, ⟨(.int .i64), v3⟩] (by kernel_rfl) (by kernel_rfl) (by kernel_rfl) (by kernel_rfl) H

theorem deque_Op_access.br {o1 : Den kdequeOp} {m2 : Value} {h : Heap} {Q : Den kparkLot → Heap → Prop} (H : deque_Op_access.M (fun x0 x1 h K => InvT Try.prog "Load" x0 [Kd.val (.int .i64) x1] true kparkLot h K) (fun x0 x1 h K => InvT Try.prog "Reserve" x0 [Kd.val (.int .i64) x1] true kparkLot h K) (fun x0 x1 x2 h K => InvT Try.prog "Store" x0 [Kd.val (.int .i64) x1, Kd.val (.int .i64) x2] false (.int .i64) h K) (fun x0 x1 x2 h K => CallT Try.prog 94 [Kd.val (.int .i64) x0, Kd.val (.int .i64) x1, Kd.val (.int .i64) x2] false (.int .i64) h K) (fun x0 h K => CallT Try.prog 95 [Kd.val kdequeOp x0] false (.int .i64) h K) (fun x0 x1 x2 x3 h K => InvT Try.prog "CAS" x0 [Kd.val (.int .i64) x1, Kd.val (.int .i64) x2, Kd.val (.int .i64) x3] true (.pair .bool (.pair (.int .i64) .nil)) h K) (NilT Try.prog) o1 m2 h Q) :
    CallT Try.prog 60 [Kd.val kdequeOp o1, Kd.val .iface m2] true kparkLot h Q :=
  fn_sound2 (c := weave (Try.f60.body.getD .skip) deque_Op_access.mk) Try.func60 (by kernel_rfl) Try.ntmps60 (rs := [.tmp 4, .tmp 5]) (by kernel_rfl) [⟨kdequeOp, o1⟩, ⟨.iface, m2⟩] (by kernel_rfl) (by kernel_rfl) (by kernel_rfl) (by kernel_rfl) H

theorem deque_Op_pushed.br {o1 : Den kdequeOp} {got2 : Int} {h : Heap} {Q : Den kdequeOp → Heap → Prop} (H : deque_Op_pushed.M (fun x0 x1 x2 h K => CallT Try.prog 59 [Kd.val kdequeOp x0, Kd.val (.int .i64) x1, Kd.val (.int .i64) x2] false kdequeOp h K) o1 got2 h Q) :
    CallT Try.prog 61 [Kd.val kdequeOp o1, Kd.val (.int .i64) got2] false kdequeOp h Q :=
  fn_sound2 (c := weave (Try.f61.body.getD .skip) deque_Op_pushed.mk) Try.func61 (by kernel_rfl) Try.ntmps61 (rs := [.cell 4 56]) (by kernel_rfl) [⟨kdequeOp, o1⟩, ⟨(.int .i64), got2⟩] (by kernel_rfl) (by kernel_rfl) (by kernel_rfl) (by kernel_rfl) H

theorem deque_Op_popped.br {o1 : Den kdequeOp} {got2 : Int} {h : Heap} {Q : Den kdequeOp → Heap → Prop} (H : deque_Op_popped.M (fun x0 x1 x2 h K => CallT Try.prog 59 [Kd.val kdequeOp x0, Kd.val (.int .i64) x1, Kd.val (.int .i64) x2] false kdequeOp h K) o1 got2 h Q) :
    CallT Try.prog 62 [Kd.val kdequeOp o1, Kd.val (.int .i64) got2] false kdequeOp h Q :=
  fn_sound2 (c := weave (Try.f62.body.getD .skip) deque_Op_popped.mk) Try.func62 (by kernel_rfl) Try.ntmps62 (rs := [.cell 4 56]) (by kernel_rfl) [⟨kdequeOp, o1⟩, ⟨(.int .i64), got2⟩] (by kernel_rfl) (by kernel_rfl) (by kernel_rfl) (by kernel_rfl) H

theorem deque_Op_stolen.br {o1 : Den kdequeOp} {got2 : Int} {h : Heap} {Q : Den kdequeOp → Heap → Prop} (H : deque_Op_stolen.M (fun x0 x1 x2 h K => CallT Try.prog 59 [Kd.val kdequeOp x0, Kd.val (.int .i64) x1, Kd.val (.int .i64) x2] false kdequeOp h K) o1 got2 h Q) :
    CallT Try.prog 63 [Kd.val kdequeOp o1, Kd.val (.int .i64) got2] false kdequeOp h Q :=
  fn_sound2 (c := weave (Try.f63.body.getD .skip) deque_Op_stolen.mk) Try.func63 (by kernel_rfl) Try.ntmps63 (rs := [.cell 4 56]) (by kernel_rfl) [⟨kdequeOp, o1⟩, ⟨(.int .i64), got2⟩] (by kernel_rfl) (by kernel_rfl) (by kernel_rfl) (by kernel_rfl) H

theorem deque_Op_looked.br {o1 : Den kdequeOp} {got2 : Int} {h : Heap} {Q : Den kdequeOp → Heap → Prop} (H : deque_Op_looked.M (fun x0 x1 x2 h K => CallT Try.prog 59 [Kd.val kdequeOp x0, Kd.val (.int .i64) x1, Kd.val (.int .i64) x2] false kdequeOp h K) o1 got2 h Q) :
    CallT Try.prog 64 [Kd.val kdequeOp o1, Kd.val (.int .i64) got2] false kdequeOp h Q :=
  fn_sound2 (c := weave (Try.f64.body.getD .skip) deque_Op_looked.mk) Try.func64 (by kernel_rfl) Try.ntmps64 (rs := [.cell 4 56]) (by kernel_rfl) [⟨kdequeOp, o1⟩, ⟨(.int .i64), got2⟩] (by kernel_rfl) (by kernel_rfl) (by kernel_rfl) (by kernel_rfl) H

theorem cells_good.br {size1 : Int} {h : Heap} {Q : Bool → Heap → Prop} (H : cells_good.M  size1 h Q) :
    CallT Try.prog 70 [Kd.val (.int .i64) size1] false .bool h Q :=
  fn_sound2 (c := weave (Try.f70.body.getD .skip) cells_good.mk) Try.func70 (by kernel_rfl) Try.ntmps70 (rs := [.tmp 2]) (by kernel_rfl) [⟨(.int .i64), size1⟩] (by kernel_rfl) (by kernel_rfl) (by kernel_rfl) (by kernel_rfl) H

theorem deque_begin.br {kind1 : Int} {at_2 : Int} {d3 : Den kparkLot} {v4 : Int} {h : Heap} {Q : Den kdequeOp → Heap → Prop} (H : deque_begin.M  kind1 at_2 d3 v4 h Q) :
    CallT Try.prog 71 [Kd.val (.int .i64) kind1, Kd.val (.int .i64) at_2, Kd.val kparkLot d3, Kd.val (.int .i64) v4] false kdequeOp h Q :=
  fn_sound2 (c := weave (Try.f71.body.getD .skip) deque_begin.mk) Try.func71 (by kernel_rfl) Try.ntmps71 (rs := [.cell 8 56]) (by kernel_rfl) [⟨(.int .i64), kind1⟩, ⟨(.int .i64), at_2⟩, ⟨kparkLot, d3⟩, ⟨(.int .i64), v4⟩] (by kernel_rfl) (by kernel_rfl) (by kernel_rfl) (by kernel_rfl) H

theorem cells_ledger_refuse.br {l1 : Option Addr} {n2 : Int} {h : Heap} {Q : Int → Heap → Prop} (H : cells_ledger_refuse.M  l1 n2 h Q) :
    CallT Try.prog 90 [Kd.val .ptr l1, Kd.val (.int .i64) n2] false (.int .i64) h Q :=
  fn_sound2 (c := weave (Try.f90.body.getD .skip) cells_ledger_refuse.mk) Try.func90 (by kernel_rfl) Try.ntmps90 (rs := [.tmp 4]) (by kernel_rfl) [⟨.ptr, l1⟩, ⟨(.int .i64), n2⟩] (by kernel_rfl) (by kernel_rfl) (by kernel_rfl) (by kernel_rfl) H

theorem cells_ledger_take.br {l1 : Option Addr} {n2 : Int} {h : Heap} {Q : Int → Heap → Prop} (H : cells_ledger_take.M  l1 n2 h Q) :
    CallT Try.prog 91 [Kd.val .ptr l1, Kd.val (.int .i64) n2] false (.int .i64) h Q :=
  fn_sound2 (c := weave (Try.f91.body.getD .skip) cells_ledger_take.mk) Try.func91 (by kernel_rfl) Try.ntmps91 (rs := [.tmp 4]) (by kernel_rfl) [⟨.ptr, l1⟩, ⟨(.int .i64), n2⟩] (by kernel_rfl) (by kernel_rfl) (by kernel_rfl) (by kernel_rfl) H

theorem cells_Arena_note.br {a1 : Option Addr} {kind2 : Int} {addr3 : Int} {x4 : Int} {y5 : Int} {ok6 : Bool} {h : Heap} {Q : Unit → Heap → Prop} (H : cells_Arena_note.M  a1 kind2 addr3 x4 y5 ok6 h Q) :
    CallT Try.prog 92 [Kd.val .ptr a1, Kd.val (.int .i64) kind2, Kd.val (.int .i64) addr3, Kd.val (.int .i64) x4, Kd.val (.int .i64) y5, Kd.val .bool ok6] true .nil h Q :=
  fn_sound2 (c := weave (Try.f92.body.getD .skip) cells_Arena_note.mk) Try.func92 (by kernel_rfl) Try.ntmps92 (rs := []) (by kernel_rfl) [⟨.ptr, a1⟩, ⟨(.int .i64), kind2⟩, ⟨(.int .i64), addr3⟩, ⟨(.int .i64), x4⟩, ⟨(.int .i64), y5⟩, ⟨.bool, ok6⟩] (by kernel_rfl) (by kernel_rfl) (by kernel_rfl) (by kernel_rfl) H

theorem cells_Arena_outside.br {a1 : Option Addr} {addr2 : Int} {h : Heap} {Q : Bool → Heap → Prop} (H : cells_Arena_outside.M (fun x0 x1 h K => CallT Try.prog 109 [Kd.val .ptr x0, Kd.val (.int .i64) x1] false .bool h K) a1 addr2 h Q) :
    CallT Try.prog 93 [Kd.val .ptr a1, Kd.val (.int .i64) addr2] false .bool h Q :=
  fn_sound2 (c := weave (Try.f93.body.getD .skip) cells_Arena_outside.mk) Try.func93 (by kernel_rfl) Try.ntmps93 (rs := [.tmp 4]) (by kernel_rfl) [⟨.ptr, a1⟩, ⟨(.int .i64), addr2⟩] (by kernel_rfl) (by kernel_rfl) (by kernel_rfl) (by kernel_rfl) H

theorem deque_place.br {a1 : Int} {c2 : Int} {i3 : Int} {h : Heap} {Q : Int → Heap → Prop} (H : deque_place.M  a1 c2 i3 h Q) :
    CallT Try.prog 94 [Kd.val (.int .i64) a1, Kd.val (.int .i64) c2, Kd.val (.int .i64) i3] false (.int .i64) h Q :=
  fn_sound2 (c := weave (Try.f94.body.getD .skip) deque_place.mk) Try.func94 (by kernel_rfl) Try.ntmps94 (rs := [.tmp 6]) (by kernel_rfl) [⟨(.int .i64), a1⟩, ⟨(.int .i64), c2⟩, ⟨(.int .i64), i3⟩] (by kernel_rfl) (by kernel_rfl) (by kernel_rfl) (by kernel_rfl) H

theorem deque_Op_next.br {o1 : Den kdequeOp} {h : Heap} {Q : Int → Heap → Prop} (H : deque_Op_next.M  o1 h Q) :
    CallT Try.prog 95 [Kd.val kdequeOp o1] false (.int .i64) h Q :=
  fn_sound2 (c := weave (Try.f95.body.getD .skip) deque_Op_next.mk) Try.func95 (by kernel_rfl) Try.ntmps95 (rs := [.tmp 2]) (by kernel_rfl) [⟨kdequeOp, o1⟩] (by kernel_rfl) (by kernel_rfl) (by kernel_rfl) (by kernel_rfl) H

theorem cells_ledger_has.br {l1 : Option Addr} {addr2 : Int} {h : Heap} {Q : Bool → Heap → Prop} (H : cells_ledger_has.M  l1 addr2 h Q) :
    CallT Try.prog 109 [Kd.val .ptr l1, Kd.val (.int .i64) addr2] false .bool h Q :=
  fn_sound2 (c := weave (Try.f109.body.getD .skip) cells_ledger_has.mk) Try.func109 (by kernel_rfl) Try.ntmps109 (rs := [.tmp 4]) (by kernel_rfl) [⟨.ptr, l1⟩, ⟨(.int .i64), addr2⟩] (by kernel_rfl) (by kernel_rfl) (by kernel_rfl) (by kernel_rfl) H

theorem cells_Arena_Add.br {a1 : Option Addr} {addr2 : Int} {d3 : Int} {h : Heap} {Q : Den kparkLot → Heap → Prop} (H : cells_Arena_Add.M (fun x0 x1 h K => CallT Try.prog 93 [Kd.val .ptr x0, Kd.val (.int .i64) x1] false .bool h K) (fun x0 x1 x2 x3 x4 x5 h K => CallT Try.prog 92 [Kd.val .ptr x0, Kd.val (.int .i64) x1, Kd.val (.int .i64) x2, Kd.val (.int .i64) x3, Kd.val (.int .i64) x4, Kd.val .bool x5] true .nil h K) a1 addr2 d3 h Q) :
    CallT Try.prog 126 [Kd.val .ptr a1, Kd.val (.int .i64) addr2, Kd.val (.int .i64) d3] true kparkLot h Q :=
  fn_sound2 (c := weave (Try.f126.body.getD .skip) cells_Arena_Add.mk) Try.func126 (by kernel_rfl) Try.ntmps126 (rs := [.tmp 6, .tmp 7]) (by kernel_rfl) [⟨.ptr, a1⟩, ⟨(.int .i64), addr2⟩, ⟨(.int .i64), d3⟩] (by kernel_rfl) (by kernel_rfl) (by kernel_rfl) (by kernel_rfl) H

theorem cells_Arena_CAS.br {a1 : Option Addr} {addr2 : Int} {old3 : Int} {next4 : Int} {h : Heap} {Q : (Bool × (Int × Unit)) → Heap → Prop} (H : cells_Arena_CAS.M (fun x0 x1 h K => CallT Try.prog 93 [Kd.val .ptr x0, Kd.val (.int .i64) x1] false .bool h K) (fun x0 x1 x2 x3 x4 x5 h K => CallT Try.prog 92 [Kd.val .ptr x0, Kd.val (.int .i64) x1, Kd.val (.int .i64) x2, Kd.val (.int .i64) x3, Kd.val (.int .i64) x4, Kd.val .bool x5] true .nil h K) a1 addr2 old3 next4 h Q) :
    CallT Try.prog 127 [Kd.val .ptr a1, Kd.val (.int .i64) addr2, Kd.val (.int .i64) old3, Kd.val (.int .i64) next4] true (.pair .bool (.pair (.int .i64) .nil)) h Q :=
  fn_sound2 (c := weave (Try.f127.body.getD .skip) cells_Arena_CAS.mk) Try.func127 (by kernel_rfl) Try.ntmps127 (rs := [.tmp 8, .tmp 9]) (by kernel_rfl) [⟨.ptr, a1⟩, ⟨(.int .i64), addr2⟩, ⟨(.int .i64), old3⟩, ⟨(.int .i64), next4⟩] (by kernel_rfl) (by kernel_rfl) (by kernel_rfl) (by kernel_rfl) H

theorem cells_Arena_Load.br {a1 : Option Addr} {addr2 : Int} {h : Heap} {Q : Den kparkLot → Heap → Prop} (H : cells_Arena_Load.M (fun x0 x1 h K => CallT Try.prog 93 [Kd.val .ptr x0, Kd.val (.int .i64) x1] false .bool h K) (fun x0 x1 x2 x3 x4 x5 h K => CallT Try.prog 92 [Kd.val .ptr x0, Kd.val (.int .i64) x1, Kd.val (.int .i64) x2, Kd.val (.int .i64) x3, Kd.val (.int .i64) x4, Kd.val .bool x5] true .nil h K) a1 addr2 h Q) :
    CallT Try.prog 128 [Kd.val .ptr a1, Kd.val (.int .i64) addr2] true kparkLot h Q :=
  fn_sound2 (c := weave (Try.f128.body.getD .skip) cells_Arena_Load.mk) Try.func128 (by kernel_rfl) Try.ntmps128 (rs := [.tmp 4, .tmp 5]) (by kernel_rfl) [⟨.ptr, a1⟩, ⟨(.int .i64), addr2⟩] (by kernel_rfl) (by kernel_rfl) (by kernel_rfl) (by kernel_rfl) H

theorem law3_Deny_CAS.br {m1 : Option Addr} {addr2 : Int} {from_3 : Int} {to4 : Int} {h : Heap} {Q : (Bool × (Int × Unit)) → Heap → Prop} (H : law3_Deny_CAS.M (fun x0 h K => CallT Try.prog 135 [Kd.val .ptr x0] false .bool h K) (fun x0 x1 x2 x3 h K => CallT Try.prog 127 [Kd.val .ptr x0, Kd.val (.int .i64) x1, Kd.val (.int .i64) x2, Kd.val (.int .i64) x3] true (.pair .bool (.pair (.int .i64) .nil)) h K) m1 addr2 from_3 to4 h Q) :
    CallT Try.prog 131 [Kd.val .ptr m1, Kd.val (.int .i64) addr2, Kd.val (.int .i64) from_3, Kd.val (.int .i64) to4] true (.pair .bool (.pair (.int .i64) .nil)) h Q :=
  fn_sound2 (c := weave (Try.f131.body.getD .skip) law3_Deny_CAS.mk) Try.func131 (by kernel_rfl) Try.ntmps131 (rs := [.tmp 8, .tmp 9]) (by kernel_rfl) [⟨.ptr, m1⟩, ⟨(.int .i64), addr2⟩, ⟨(.int .i64), from_3⟩, ⟨(.int .i64), to4⟩] (by kernel_rfl) (by kernel_rfl) (by kernel_rfl) (by kernel_rfl) H

theorem law3_Deny_Load.br {m1 : Option Addr} {addr2 : Int} {h : Heap} {Q : Den kparkLot → Heap → Prop} (H : law3_Deny_Load.M (fun x0 h K => CallT Try.prog 135 [Kd.val .ptr x0] false .bool h K) (fun x0 x1 h K => CallT Try.prog 128 [Kd.val .ptr x0, Kd.val (.int .i64) x1] true kparkLot h K) m1 addr2 h Q) :
    CallT Try.prog 132 [Kd.val .ptr m1, Kd.val (.int .i64) addr2] true kparkLot h Q :=
  fn_sound2 (c := weave (Try.f132.body.getD .skip) law3_Deny_Load.mk) Try.func132 (by kernel_rfl) Try.ntmps132 (rs := [.tmp 4, .tmp 5]) (by kernel_rfl) [⟨.ptr, m1⟩, ⟨(.int .i64), addr2⟩] (by kernel_rfl) (by kernel_rfl) (by kernel_rfl) (by kernel_rfl) H

theorem law3_Deny_Reserve.br {m1 : Option Addr} {n2 : Int} {h : Heap} {Q : Den kparkLot → Heap → Prop} (H : law3_Deny_Reserve.M (fun x0 h K => CallT Try.prog 135 [Kd.val .ptr x0] false .bool h K) (fun x0 x1 h K => CallT Try.prog 52 [Kd.val .ptr x0, Kd.val (.int .i64) x1] true kparkLot h K) m1 n2 h Q) :
    CallT Try.prog 133 [Kd.val .ptr m1, Kd.val (.int .i64) n2] true kparkLot h Q :=
  fn_sound2 (c := weave (Try.f133.body.getD .skip) law3_Deny_Reserve.mk) Try.func133 (by kernel_rfl) Try.ntmps133 (rs := [.tmp 4, .tmp 5]) (by kernel_rfl) [⟨.ptr, m1⟩, ⟨(.int .i64), n2⟩] (by kernel_rfl) (by kernel_rfl) (by kernel_rfl) (by kernel_rfl) H

theorem law3_Deny_Store.br {m1 : Option Addr} {addr2 : Int} {v3 : Int} {h : Heap} {Q : Int → Heap → Prop} (H : law3_Deny_Store.M (fun x0 h K => CallT Try.prog 135 [Kd.val .ptr x0] false .bool h K) (fun x0 x1 x2 h K => CallT Try.prog 53 [Kd.val .ptr x0, Kd.val (.int .i64) x1, Kd.val (.int .i64) x2] false (.int .i64) h K) m1 addr2 v3 h Q) :
    CallT Try.prog 134 [Kd.val .ptr m1, Kd.val (.int .i64) addr2, Kd.val (.int .i64) v3] false (.int .i64) h Q :=
  fn_sound2 (c := weave (Try.f134.body.getD .skip) law3_Deny_Store.mk) Try.func134 (by kernel_rfl) Try.ntmps134 (rs := [.tmp 6]) (by kernel_rfl) [⟨.ptr, m1⟩, ⟨(.int .i64), addr2⟩, ⟨(.int .i64), v3⟩] (by kernel_rfl) (by kernel_rfl) (by kernel_rfl) (by kernel_rfl) H

theorem law3_Deny_refuses.br {m1 : Option Addr} {h : Heap} {Q : Bool → Heap → Prop} (H : law3_Deny_refuses.M  m1 h Q) :
    CallT Try.prog 135 [Kd.val .ptr m1] false .bool h Q :=
  fn_sound2 (c := weave (Try.f135.body.getD .skip) law3_Deny_refuses.mk) Try.func135 (by kernel_rfl) Try.ntmps135 (rs := [.tmp 2]) (by kernel_rfl) [⟨.ptr, m1⟩] (by kernel_rfl) (by kernel_rfl) (by kernel_rfl) (by kernel_rfl) H

end Go.Mx
