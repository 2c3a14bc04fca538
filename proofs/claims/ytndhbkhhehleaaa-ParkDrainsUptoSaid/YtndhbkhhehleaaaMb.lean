/-
  The bridges: a function's calls, by what it comes to over abstract heaps: printed by a program of this workplace.
-/
import Derived.Test.YtndhbkhhehleaaaMd
import Derived.Test.YtndhbkhhehleaaaProg
set_option linter.unusedVariables false
set_option maxRecDepth 100000
namespace Go.Mx
open Go.Proofs
theorem law9_ParkDrains.br {first1 : Int} {most2 : Int} {sleepers3 : Int} {todos4 : Sl} {picks5 : Sl} {h : Heap} {Q : Bool → Heap → Prop} (H : law9_ParkDrains.M (fun x0 x1 x2 x3 x4 h K => CallT Try.prog 19 [Kd.val kI x0, Kd.val kI x1, Kd.val kI x2, Kd.val .sl x3, Kd.val .sl x4] false .bool h K) (fun x0 h K => CallT Try.prog 23 [Kd.val .sl x0] true (.pair .sl (.pair kI .nil)) h K) (fun x0 x1 x2 x3 h K => CallT Try.prog 24 [Kd.val .sl x0, Kd.val kI x1, Kd.val kI x2, Kd.val kI x3] false .sl h K) (fun x0 x1 x2 x3 x4 h K => CallT Try.prog 20 [Kd.val kI x0, Kd.val kI x1, Kd.val kI x2, Kd.val .sl x3, Kd.val .sl x4] true (.pair kapiParkRun (.pair kI .nil)) h K) (fun x0 x1 h K => CallT Try.prog 25 [Kd.val kapiParkRun x0, Kd.val .sl x1] false .bool h K) (fun x0 x1 h K => CallT Try.prog 26 [Kd.val .sl x0, Kd.val .sl x1] false .bool h K) (fun x0 h K => CallT Try.prog 22 [Kd.val kapiParkRun x0] false kI h K) first1 most2 sleepers3 todos4 picks5 h Q) :
 CallT Try.prog 6 [Kd.val kI first1, Kd.val kI most2, Kd.val kI sleepers3, Kd.val .sl todos4, Kd.val .sl picks5] false .bool h Q :=
  fn_sound2 (c := weave (Try.f6.body.getD .skip) law9_ParkDrains.mk) Try.func6 (by kernel_rfl) Try.ntmps6 (rs := [.tmp 10]) (by kernel_rfl) [⟨kI, first1⟩, ⟨kI, most2⟩, ⟨kI, sleepers3⟩, ⟨.sl, todos4⟩, ⟨.sl, picks5⟩] (by kernel_rfl) (by kernel_rfl) (by kernel_rfl) (by kernel_rfl) H

theorem cells_Arena_Log.br {a1 : Option Addr} {h : Heap} {Q : Sl → Heap → Prop} (H : cells_Arena_Log.M  a1 h Q) :
 CallT Try.prog 13 [Kd.val .ptr a1] false .sl h Q :=
  fn_sound2 (c := weave (Try.f13.body.getD .skip) cells_Arena_Log.mk) Try.func13 (by kernel_rfl) Try.ntmps13 (rs := [.tmp 2]) (by kernel_rfl) [⟨.ptr, a1⟩] (by kernel_rfl) (by kernel_rfl) (by kernel_rfl) (by kernel_rfl) H

theorem park_Answer.br {o1 : Den kparkOp} {h : Heap} {Q : Den kparkLot → Heap → Prop} (H : park_Answer.M  o1 h Q) :
 CallT Try.prog 14 [Kd.val kparkOp o1] true kparkLot h Q :=
  fn_sound2 (c := weave (Try.f14.body.getD .skip) park_Answer.mk) Try.func14 (by kernel_rfl) Try.ntmps14 (rs := [.tmp 2, .tmp 3]) (by kernel_rfl) [⟨kparkOp, o1⟩] (by kernel_rfl) (by kernel_rfl) (by kernel_rfl) (by kernel_rfl) H

theorem park_Step.e2 {Q : Den kparkOp → Heap → Prop} (s : (Option Addr × ((Int × (Int × (Int × (Int × (Int × (Int × (Int × (Int × (Int × ((Fin 64 → Den kparkLot) × (Int × (Int × (Int × (Int × (Int × (Int × (Int × (Int × (Int × (Int × (Int × (Int × (Int × (Bool × Den kparkLot)))))))))))))))))))))))) × Unit))) (h : Heap) : park_Step.k1 Q s h = interp Try.prog 66 (AC.rest 4 (AC.rest 1 (weave (Try.f15.body.getD .skip) park_Step.mk))) [] (setC [.slot 3 .ptr, .box 4 (.pair kI (.pair kI (.pair kI (.pair kI (.pair kI (.pair kI (.pair kI (.pair kI (.pair kI (.pair (.arr 64 kparkLot) (.pair kI (.pair kI (.pair kI (.pair kI (.pair kI (.pair kI (.pair kI (.pair kI (.pair kI (.pair kI (.pair kI (.pair kI (.pair kI (.pair .bool kparkLot))))))))))))))))))))))))] s (addrS [(4, 4, 0)])) (setB [.slot 3 .ptr, .box 4 (.pair kI (.pair kI (.pair kI (.pair kI (.pair kI (.pair kI (.pair kI (.pair kI (.pair kI (.pair (.arr 64 kparkLot) (.pair kI (.pair kI (.pair kI (.pair kI (.pair kI (.pair kI (.pair kI (.pair kI (.pair kI (.pair kI (.pair kI (.pair kI (.pair kI (.pair .bool kparkLot))))))))))))))))))))))))] s []) h (retK Try.prog [.cell 4 40] false kparkOp Q) (fun _ _ _ _ => False) (retK Try.prog [.cell 4 40] false kparkOp Q) :=
  (by kernel_rfl)
theorem park_Step.e1 {Q : Den kparkOp → Heap → Prop} (s : (Value × (Option Addr × ((Int × (Int × (Int × (Int × (Int × (Int × (Int × (Int × (Int × ((Fin 64 → Den kparkLot) × (Int × (Int × (Int × (Int × (Int × (Int × (Int × (Int × (Int × (Int × (Int × (Int × (Int × (Bool × Den kparkLot)))))))))))))))))))))))) × Unit)))) (h : Heap) : park_Step.k2 (fun x0 x1 x2 h K => CallT Try.prog 43 [Kd.val .ptr x0, Kd.val kI x1, Kd.val kI x2] true .nil h K) (fun x0 x1 h K => CallT Try.prog 44 [Kd.val kparkOp x0, Kd.val .iface x1] false kparkOp h K) (fun x0 x1 h K => CallT Try.prog 45 [Kd.val .ptr x0, Kd.val .iface x1] true kparkLot h K) (fun x0 x1 h K => CallT Try.prog 46 [Kd.val kparkOp x0, Kd.val kI x1] false kparkOp h K) (fun x0 x1 h K => CallT Try.prog 47 [Kd.val .ptr x0, Kd.val kI x1] true .nil h K) (fun x0 x1 h K => CallT Try.prog 48 [Kd.val .ptr x0, Kd.val kI x1] true .nil h K) Q s h = interp Try.prog 66 (AC.rest 1 (weave (Try.f15.body.getD .skip) park_Step.mk)) [] (setC [.slot 0 .iface, .slot 3 .ptr, .box 4 (.pair kI (.pair kI (.pair kI (.pair kI (.pair kI (.pair kI (.pair kI (.pair kI (.pair kI (.pair (.arr 64 kparkLot) (.pair kI (.pair kI (.pair kI (.pair kI (.pair kI (.pair kI (.pair kI (.pair kI (.pair kI (.pair kI (.pair kI (.pair kI (.pair kI (.pair .bool kparkLot))))))))))))))))))))))))] s (addrS [(4, 4, 0)])) (setB [.slot 0 .iface, .slot 3 .ptr, .box 4 (.pair kI (.pair kI (.pair kI (.pair kI (.pair kI (.pair kI (.pair kI (.pair kI (.pair kI (.pair (.arr 64 kparkLot) (.pair kI (.pair kI (.pair kI (.pair kI (.pair kI (.pair kI (.pair kI (.pair kI (.pair kI (.pair kI (.pair kI (.pair kI (.pair kI (.pair .bool kparkLot))))))))))))))))))))))))] s []) h (retK Try.prog [.cell 4 40] false kparkOp Q) (fun _ _ _ _ => False) (retK Try.prog [.cell 4 40] false kparkOp Q) :=
  (cut_part 4 (cc := [.slot 3 .ptr, .box 4 (.pair kI (.pair kI (.pair kI (.pair kI (.pair kI (.pair kI (.pair kI (.pair kI (.pair kI (.pair (.arr 64 kparkLot) (.pair kI (.pair kI (.pair kI (.pair kI (.pair kI (.pair kI (.pair kI (.pair kI (.pair kI (.pair kI (.pair kI (.pair kI (.pair kI (.pair .bool kparkLot))))))))))))))))))))))))]) (A := [(4, 4, 0)]) (b := (AC.rest 4 (AC.rest 1 (weave (Try.f15.body.getD .skip) park_Step.mk)))) (by kernel_rfl) (fun s h => park_Step.k1 Q s h) (by kernel_rfl) park_Step.e2)
theorem park_Step.br {m1 : Value} {o2 : Den kparkOp} {h : Heap} {Q : Den kparkOp → Heap → Prop} (H : park_Step.M (fun x0 x1 x2 h K => CallT Try.prog 43 [Kd.val .ptr x0, Kd.val kI x1, Kd.val kI x2] true .nil h K) (fun x0 x1 h K => CallT Try.prog 44 [Kd.val kparkOp x0, Kd.val .iface x1] false kparkOp h K) (fun x0 x1 h K => CallT Try.prog 45 [Kd.val .ptr x0, Kd.val .iface x1] true kparkLot h K) (fun x0 x1 h K => CallT Try.prog 46 [Kd.val kparkOp x0, Kd.val kI x1] false kparkOp h K) (fun x0 x1 h K => CallT Try.prog 47 [Kd.val .ptr x0, Kd.val kI x1] true .nil h K) (fun x0 x1 h K => CallT Try.prog 48 [Kd.val .ptr x0, Kd.val kI x1] true .nil h K) m1 o2 h Q) :
 CallT Try.prog 15 [Kd.val .iface m1, Kd.val kparkOp o2] false kparkOp h Q :=
  fn_sound2 (c := weave (Try.f15.body.getD .skip) park_Step.mk) Try.func15 (by kernel_rfl) Try.ntmps15 (rs := [.cell 4 40]) (by kernel_rfl) [⟨.iface, m1⟩, ⟨kparkOp, o2⟩] (by kernel_rfl) (by kernel_rfl) (by kernel_rfl) (cut_part 1 (cc := [.slot 0 .iface, .slot 3 .ptr, .box 4 (.pair kI (.pair kI (.pair kI (.pair kI (.pair kI (.pair kI (.pair kI (.pair kI (.pair kI (.pair (.arr 64 kparkLot) (.pair kI (.pair kI (.pair kI (.pair kI (.pair kI (.pair kI (.pair kI (.pair kI (.pair kI (.pair kI (.pair kI (.pair kI (.pair kI (.pair .bool kparkLot))))))))))))))))))))))))]) (A := [(4, 4, 0)]) (b := (AC.rest 1 (weave (Try.f15.body.getD .skip) park_Step.mk))) (by kernel_rfl) (fun s h => park_Step.k2 (fun x0 x1 x2 h K => CallT Try.prog 43 [Kd.val .ptr x0, Kd.val kI x1, Kd.val kI x2] true .nil h K) (fun x0 x1 h K => CallT Try.prog 44 [Kd.val kparkOp x0, Kd.val .iface x1] false kparkOp h K) (fun x0 x1 h K => CallT Try.prog 45 [Kd.val .ptr x0, Kd.val .iface x1] true kparkLot h K) (fun x0 x1 h K => CallT Try.prog 46 [Kd.val kparkOp x0, Kd.val kI x1] false kparkOp h K) (fun x0 x1 h K => CallT Try.prog 47 [Kd.val .ptr x0, Kd.val kI x1] true .nil h K) (fun x0 x1 h K => CallT Try.prog 48 [Kd.val .ptr x0, Kd.val kI x1] true .nil h K) Q s h) (by kernel_rfl) park_Step.e1) H

theorem cells_Arena_Watch.br {a1 : Option Addr} {on2 : Bool} {h : Heap} {Q : Unit → Heap → Prop} (H : cells_Arena_Watch.M  a1 on2 h Q) :
 CallT Try.prog 16 [Kd.val .ptr a1, Kd.val .bool on2] true .nil h Q :=
  fn_sound2 (c := weave (Try.f16.body.getD .skip) cells_Arena_Watch.mk) Try.func16 (by kernel_rfl) Try.ntmps16 (rs := []) (by kernel_rfl) [⟨.ptr, a1⟩, ⟨.bool, on2⟩] (by kernel_rfl) (by kernel_rfl) (by kernel_rfl) (by kernel_rfl) H

theorem cells_Arena_Store.br {a1 : Option Addr} {addr2 : Int} {v3 : Int} {h : Heap} {Q : Int → Heap → Prop} (H : cells_Arena_Store.M (fun x0 x1 h K => CallT Try.prog 49 [Kd.val .ptr x0, Kd.val kI x1] false .bool h K) (fun x0 x1 x2 x3 x4 x5 h K => CallT Try.prog 50 [Kd.val .ptr x0, Kd.val kI x1, Kd.val kI x2, Kd.val kI x3, Kd.val kI x4, Kd.val .bool x5] true .nil h K) a1 addr2 v3 h Q) :
 CallT Try.prog 17 [Kd.val .ptr a1, Kd.val kI addr2, Kd.val kI v3] false kI h Q :=
  fn_sound2 (c := weave (Try.f17.body.getD .skip) cells_Arena_Store.mk) Try.func17 (by kernel_rfl) Try.ntmps17 (rs := [.tmp 6]) (by kernel_rfl) [⟨.ptr, a1⟩, ⟨kI, addr2⟩, ⟨kI, v3⟩] (by kernel_rfl) (by kernel_rfl) (by kernel_rfl) (by kernel_rfl) H

theorem park_Parked.br {o1 : Den kparkOp} {h : Heap} {Q : Bool → Heap → Prop} (H : park_Parked.M  o1 h Q) :
 CallT Try.prog 18 [Kd.val kparkOp o1] false .bool h Q :=
  fn_sound2 (c := weave (Try.f18.body.getD .skip) park_Parked.mk) Try.func18 (by kernel_rfl) Try.ntmps18 (rs := [.tmp 2]) (by kernel_rfl) [⟨kparkOp, o1⟩] (by kernel_rfl) (by kernel_rfl) (by kernel_rfl) (by kernel_rfl) H

theorem law9_fair.br {first1 : Int} {most2 : Int} {sleepers3 : Int} {todos4 : Sl} {picks5 : Sl} {h : Heap} {Q : Bool → Heap → Prop} (H : law9_fair.M  first1 most2 sleepers3 todos4 picks5 h Q) :
 CallT Try.prog 19 [Kd.val kI first1, Kd.val kI most2, Kd.val kI sleepers3, Kd.val .sl todos4, Kd.val .sl picks5] false .bool h Q :=
  fn_sound2 (c := weave (Try.f19.body.getD .skip) law9_fair.mk) Try.func19 (by kernel_rfl) Try.ntmps19 (rs := [.tmp 10]) (by kernel_rfl) [⟨kI, first1⟩, ⟨kI, most2⟩, ⟨kI, sleepers3⟩, ⟨.sl, todos4⟩, ⟨.sl, picks5⟩] (by kernel_rfl) (by kernel_rfl) (by kernel_rfl) (by kernel_rfl) H

theorem park_Play.br {first1 : Int} {most2 : Int} {sleepers3 : Int} {todos4 : Sl} {picks5 : Sl} {h : Heap} {Q : (Den kapiParkRun × (Int × Unit)) → Heap → Prop} (H : park_Play.M (fun x0 x1 x2 x3 x4 h K => CallT Try.prog 51 [Kd.val kI x0, Kd.val kI x1, Kd.val kI x2, Kd.val .sl x3, Kd.val .sl x4] false kI h K) (fun x0 h K => CallT Try.prog 30 [Kd.val kI x0] false kI h K) (fun x0 x1 h K => CallT Try.prog 31 [Kd.val kI x0, Kd.val kI x1] false kI h K) (fun x0 h K => CallT Try.prog 28 [Kd.val kI x0] true (.pair .ptr (.pair kI .nil)) h K) (fun x0 x1 h K => CallT Try.prog 32 [Kd.val .iface x0, Kd.val kI x1] true (.pair kparkLot (.pair kI .nil)) h K) (fun x0 x1 x2 h K => CallT Try.prog 33 [Kd.val .iface x0, Kd.val kI x1, Kd.val kI x2] true (.pair kparkLot (.pair kI .nil)) h K) (fun x0 x1 h K => CallT Try.prog 16 [Kd.val .ptr x0, Kd.val .bool x1] true .nil h K) (fun x0 x1 h K => CallT Try.prog 52 [Kd.val kI x0, Kd.val kI x1] false kI h K) (fun x0 x1 h K => CallT Try.prog 53 [Kd.val .ptr x0, Kd.val kI x1] true .nil h K) (fun x0 x1 h K => CallT Try.prog 54 [Kd.val .ptr x0, Kd.val .ptr x1] true .nil h K) (fun x0 x1 x2 h K => CallT Try.prog 55 [Kd.val .ptr x0, Kd.val .ptr x1, Kd.val kI x2] true .nil h K) (fun x0 h K => CallT Try.prog 56 [Kd.val .ptr x0] true .nil h K) first1 most2 sleepers3 todos4 picks5 h Q) :
 CallT Try.prog 20 [Kd.val kI first1, Kd.val kI most2, Kd.val kI sleepers3, Kd.val .sl todos4, Kd.val .sl picks5] true (.pair kapiParkRun (.pair kI .nil)) h Q :=
  fn_sound2 (c := weave (Try.f20.body.getD .skip) park_Play.mk) Try.func20 (by kernel_rfl) Try.ntmps20 (rs := [.cell 10 66, .tmp 11]) (by kernel_rfl) [⟨kI, first1⟩, ⟨kI, most2⟩, ⟨kI, sleepers3⟩, ⟨.sl, todos4⟩, ⟨.sl, picks5⟩] (by kernel_rfl) (by kernel_rfl) (by kernel_rfl) (by kernel_rfl) H

theorem law9_awake.br {r1 : Den kapiParkRun} {h : Heap} {Q : Int → Heap → Prop} (H : law9_awake.M  r1 h Q) :
 CallT Try.prog 22 [Kd.val kapiParkRun r1] false kI h Q :=
  fn_sound2 (c := weave (Try.f22.body.getD .skip) law9_awake.mk) Try.func22 (by kernel_rfl) Try.ntmps22 (rs := [.tmp 2]) (by kernel_rfl) [⟨kapiParkRun, r1⟩] (by kernel_rfl) (by kernel_rfl) (by kernel_rfl) (by kernel_rfl) H

theorem law9_numbered.br {todos1 : Sl} {h : Heap} {Q : (Sl × (Int × Unit)) → Heap → Prop} (H : law9_numbered.M  todos1 h Q) :
 CallT Try.prog 23 [Kd.val .sl todos1] true (.pair .sl (.pair kI .nil)) h Q :=
  fn_sound2 (c := weave (Try.f23.body.getD .skip) law9_numbered.mk) Try.func23 (by kernel_rfl) Try.ntmps23 (rs := [.tmp 2, .tmp 3]) (by kernel_rfl) [⟨.sl, todos1⟩] (by kernel_rfl) (by kernel_rfl) (by kernel_rfl) (by kernel_rfl) H

theorem law9_rounds.br {picks1 : Sl} {owner2 : Int} {sleepers3 : Int} {turns4 : Int} {h : Heap} {Q : Sl → Heap → Prop} (H : law9_rounds.M  picks1 owner2 sleepers3 turns4 h Q) :
 CallT Try.prog 24 [Kd.val .sl picks1, Kd.val kI owner2, Kd.val kI sleepers3, Kd.val kI turns4] false .sl h Q :=
  fn_sound2 (c := weave (Try.f24.body.getD .skip) law9_rounds.mk) Try.func24 (by kernel_rfl) Try.ntmps24 (rs := [.tmp 8]) (by kernel_rfl) [⟨.sl, picks1⟩, ⟨kI, owner2⟩, ⟨kI, sleepers3⟩, ⟨kI, turns4⟩] (by kernel_rfl) (by kernel_rfl) (by kernel_rfl) (by kernel_rfl) H

theorem law9_once.br {r1 : Den kapiParkRun} {todos2 : Sl} {h : Heap} {Q : Bool → Heap → Prop} (H : law9_once.M  r1 todos2 h Q) :
 CallT Try.prog 25 [Kd.val kapiParkRun r1, Kd.val .sl todos2] false .bool h Q :=
  fn_sound2 (c := weave (Try.f25.body.getD .skip) law9_once.mk) Try.func25 (by kernel_rfl) Try.ntmps25 (rs := [.tmp 4]) (by kernel_rfl) [⟨kapiParkRun, r1⟩, ⟨.sl, todos2⟩] (by kernel_rfl) (by kernel_rfl) (by kernel_rfl) (by kernel_rfl) H

theorem law9_sameTakes.br {a1 : Sl} {b2 : Sl} {h : Heap} {Q : Bool → Heap → Prop} (H : law9_sameTakes.M  a1 b2 h Q) :
 CallT Try.prog 26 [Kd.val .sl a1, Kd.val .sl b2] false .bool h Q :=
  fn_sound2 (c := weave (Try.f26.body.getD .skip) law9_sameTakes.mk) Try.func26 (by kernel_rfl) Try.ntmps26 (rs := [.tmp 4]) (by kernel_rfl) [⟨.sl, a1⟩, ⟨.sl, b2⟩] (by kernel_rfl) (by kernel_rfl) (by kernel_rfl) (by kernel_rfl) H

theorem cells_New.br {size1 : Int} {h : Heap} {Q : (Option Addr × (Int × Unit)) → Heap → Prop} (H : cells_New.M (fun x0 h K => CallT Try.prog 57 [Kd.val kI x0] false .bool h K) size1 h Q) :
 CallT Try.prog 28 [Kd.val kI size1] true (.pair .ptr (.pair kI .nil)) h Q :=
  fn_sound2 (c := weave (Try.f28.body.getD .skip) cells_New.mk) Try.func28 (by kernel_rfl) Try.ntmps28 (rs := [.tmp 2, .tmp 3]) (by kernel_rfl) [⟨kI, size1⟩] (by kernel_rfl) (by kernel_rfl) (by kernel_rfl) (by kernel_rfl) H

theorem cells_Arena_Reserve.br {a1 : Option Addr} {n2 : Int} {h : Heap} {Q : Den kparkLot → Heap → Prop} (H : cells_Arena_Reserve.M (fun x0 x1 h K => CallT Try.prog 58 [Kd.val .ptr x0, Kd.val kI x1] false kI h K) (fun x0 x1 h K => CallT Try.prog 59 [Kd.val .ptr x0, Kd.val kI x1] false kI h K) (fun x0 x1 x2 x3 x4 x5 h K => CallT Try.prog 50 [Kd.val .ptr x0, Kd.val kI x1, Kd.val kI x2, Kd.val kI x3, Kd.val kI x4, Kd.val .bool x5] true .nil h K) a1 n2 h Q) :
 CallT Try.prog 29 [Kd.val .ptr a1, Kd.val kI n2] true kparkLot h Q :=
  fn_sound2 (c := weave (Try.f29.body.getD .skip) cells_Arena_Reserve.mk) Try.func29 (by kernel_rfl) Try.ntmps29 (rs := [.tmp 4, .tmp 5]) (by kernel_rfl) [⟨.ptr, a1⟩, ⟨kI, n2⟩] (by kernel_rfl) (by kernel_rfl) (by kernel_rfl) (by kernel_rfl) H

theorem park_Cells.br {workers1 : Int} {h : Heap} {Q : Int → Heap → Prop} (H : park_Cells.M  workers1 h Q) :
 CallT Try.prog 30 [Kd.val kI workers1] false kI h Q :=
  fn_sound2 (c := weave (Try.f30.body.getD .skip) park_Cells.mk) Try.func30 (by kernel_rfl) Try.ntmps30 (rs := [.tmp 2]) (by kernel_rfl) [⟨kI, workers1⟩] (by kernel_rfl) (by kernel_rfl) (by kernel_rfl) (by kernel_rfl) H

theorem deque_Cells.br {low1 : Int} {most2 : Int} {h : Heap} {Q : Int → Heap → Prop} (H : deque_Cells.M (fun x0 x1 h K => CallT Try.prog 60 [Kd.val kI x0, Kd.val kI x1] false .bool h K) low1 most2 h Q) :
 CallT Try.prog 31 [Kd.val kI low1, Kd.val kI most2] false kI h Q :=
  fn_sound2 (c := weave (Try.f31.body.getD .skip) deque_Cells.mk) Try.func31 (by kernel_rfl) Try.ntmps31 (rs := [.tmp 4]) (by kernel_rfl) [⟨kI, low1⟩, ⟨kI, most2⟩] (by kernel_rfl) (by kernel_rfl) (by kernel_rfl) (by kernel_rfl) H

theorem park_New.br {m1 : Value} {workers2 : Int} {h : Heap} {Q : (Den kparkLot × (Int × Unit)) → Heap → Prop} (H : park_New.M (fun x0 h K => CallT Try.prog 30 [Kd.val kI x0] false kI h K) (fun x0 x1 h K => InvT Try.prog "Reserve" x0 [Kd.val kI x1] true kparkLot h K) (NilT Try.prog) m1 workers2 h Q) :
 CallT Try.prog 32 [Kd.val .iface m1, Kd.val kI workers2] true (.pair kparkLot (.pair kI .nil)) h Q :=
  fn_sound2 (c := weave (Try.f32.body.getD .skip) park_New.mk) Try.func32 (by kernel_rfl) Try.ntmps32 (rs := [.cell 4 31, .tmp 5]) (by kernel_rfl) [⟨.iface, m1⟩, ⟨kI, workers2⟩] (by kernel_rfl) (by kernel_rfl) (by kernel_rfl) (by kernel_rfl) H

theorem deque_New.br {m1 : Value} {low2 : Int} {most3 : Int} {h : Heap} {Q : (Den kparkLot × (Int × Unit)) → Heap → Prop} (H : deque_New.M (fun x0 x1 h K => CallT Try.prog 60 [Kd.val kI x0, Kd.val kI x1] false .bool h K) (fun x0 x1 h K => InvT Try.prog "Reserve" x0 [Kd.val kI x1] true kparkLot h K) (fun x0 x1 x2 h K => InvT Try.prog "Store" x0 [Kd.val kI x1, Kd.val kI x2] false kI h K) m1 low2 most3 h Q) :
 CallT Try.prog 33 [Kd.val .iface m1, Kd.val kI low2, Kd.val kI most3] true (.pair kparkLot (.pair kI .nil)) h Q :=
  fn_sound2 (c := weave (Try.f33.body.getD .skip) deque_New.mk) Try.func33 (by kernel_rfl) Try.ntmps33 (rs := [.cell 6 35, .tmp 7]) (by kernel_rfl) [⟨.iface, m1⟩, ⟨kI, low2⟩, ⟨kI, most3⟩] (by kernel_rfl) (by kernel_rfl) (by kernel_rfl) (by kernel_rfl) H

theorem park_Rest.e1 {Q : Den kparkOp → Heap → Prop} (s : (Int × (Sl × (Den kparkLot × ((Int × (Int × (Int × (Int × (Int × (Int × (Int × (Int × (Int × ((Fin 64 → Den kparkLot) × (Int × (Int × (Int × (Int × (Int × (Int × (Int × (Int × (Int × (Int × (Int × (Int × (Int × (Bool × Den kparkLot)))))))))))))))))))))))) × Unit))))) (h : Heap) : park_Rest.k5 Q s h = interp Try.prog 53 (AC.rest 1 (weave (Try.f34.body.getD .skip) park_Rest.mk)) [] (setC [.slot 1 kI, .slot 2 .sl, .box 3 kparkLot, .box 6 (.pair kI (.pair kI (.pair kI (.pair kI (.pair kI (.pair kI (.pair kI (.pair kI (.pair kI (.pair (.arr 64 kparkLot) (.pair kI (.pair kI (.pair kI (.pair kI (.pair kI (.pair kI (.pair kI (.pair kI (.pair kI (.pair kI (.pair kI (.pair kI (.pair kI (.pair .bool kparkLot))))))))))))))))))))))))] s (addrS [(3, 3, 0), (6, 6, 0)])) (setB [.slot 1 kI, .slot 2 .sl, .box 3 kparkLot, .box 6 (.pair kI (.pair kI (.pair kI (.pair kI (.pair kI (.pair kI (.pair kI (.pair kI (.pair kI (.pair (.arr 64 kparkLot) (.pair kI (.pair kI (.pair kI (.pair kI (.pair kI (.pair kI (.pair kI (.pair kI (.pair kI (.pair kI (.pair kI (.pair kI (.pair kI (.pair .bool kparkLot))))))))))))))))))))))))] s []) h (retK Try.prog [.cell 6 40] false kparkOp Q) (fun _ _ _ _ => False) (retK Try.prog [.cell 6 40] false kparkOp Q) :=
  (by kernel_rfl)
theorem park_Rest.br {l1 : Den kparkLot} {self2 : Int} {deques3 : Sl} {h : Heap} {Q : Den kparkOp → Heap → Prop} (H : park_Rest.M (fun x0 x1 h K => CallT Try.prog 61 [Kd.val kparkLot x0, Kd.val kI x1] false .bool h K) l1 self2 deques3 h Q) :
 CallT Try.prog 34 [Kd.val kparkLot l1, Kd.val kI self2, Kd.val .sl deques3] false kparkOp h Q :=
  fn_sound2 (c := weave (Try.f34.body.getD .skip) park_Rest.mk) Try.func34 (by kernel_rfl) Try.ntmps34 (rs := [.cell 6 40]) (by kernel_rfl) [⟨kparkLot, l1⟩, ⟨kI, self2⟩, ⟨.sl, deques3⟩] (by kernel_rfl) (by kernel_rfl) (by kernel_rfl) (cut_part 1 (cc := [.slot 1 kI, .slot 2 .sl, .box 3 kparkLot, .box 6 (.pair kI (.pair kI (.pair kI (.pair kI (.pair kI (.pair kI (.pair kI (.pair kI (.pair kI (.pair (.arr 64 kparkLot) (.pair kI (.pair kI (.pair kI (.pair kI (.pair kI (.pair kI (.pair kI (.pair kI (.pair kI (.pair kI (.pair kI (.pair kI (.pair kI (.pair .bool kparkLot))))))))))))))))))))))))]) (A := [(3, 3, 0), (6, 6, 0)]) (b := (AC.rest 1 (weave (Try.f34.body.getD .skip) park_Rest.mk))) (by kernel_rfl) (fun s h => park_Rest.k5 Q s h) (by kernel_rfl) park_Rest.e1) H

theorem park_Wake.br {l1 : Den kparkLot} {self2 : Int} {h : Heap} {Q : Den kparkOp → Heap → Prop} (H : park_Wake.M (fun x0 x1 h K => CallT Try.prog 61 [Kd.val kparkLot x0, Kd.val kI x1] false .bool h K) l1 self2 h Q) :
 CallT Try.prog 35 [Kd.val kparkLot l1, Kd.val kI self2] false kparkOp h Q :=
  fn_sound2 (c := weave (Try.f35.body.getD .skip) park_Wake.mk) Try.func35 (by kernel_rfl) Try.ntmps35 (rs := [.cell 4 40]) (by kernel_rfl) [⟨kparkLot, l1⟩, ⟨kI, self2⟩] (by kernel_rfl) (by kernel_rfl) (by kernel_rfl) (by kernel_rfl) H

theorem park_Finish.br {l1 : Den kparkLot} {self2 : Int} {h : Heap} {Q : Den kparkOp → Heap → Prop} (H : park_Finish.M (fun x0 x1 h K => CallT Try.prog 61 [Kd.val kparkLot x0, Kd.val kI x1] false .bool h K) l1 self2 h Q) :
 CallT Try.prog 40 [Kd.val kparkLot l1, Kd.val kI self2] false kparkOp h Q :=
  fn_sound2 (c := weave (Try.f40.body.getD .skip) park_Finish.mk) Try.func40 (by kernel_rfl) Try.ntmps40 (rs := [.cell 4 40]) (by kernel_rfl) [⟨kparkLot, l1⟩, ⟨kI, self2⟩] (by kernel_rfl) (by kernel_rfl) (by kernel_rfl) (by kernel_rfl) H

theorem park_state_over.br {s1 : Option Addr} {code2 : Int} {v3 : Int} {h : Heap} {Q : Unit → Heap → Prop} (H : park_state_over.M  s1 code2 v3 h Q) :
 CallT Try.prog 43 [Kd.val .ptr s1, Kd.val kI code2, Kd.val kI v3] true .nil h Q :=
  fn_sound2 (c := weave (Try.f43.body.getD .skip) park_state_over.mk) Try.func43 (by kernel_rfl) Try.ntmps43 (rs := []) (by kernel_rfl) [⟨.ptr, s1⟩, ⟨kI, code2⟩, ⟨kI, v3⟩] (by kernel_rfl) (by kernel_rfl) (by kernel_rfl) (by kernel_rfl) H

theorem park_Op_looked.br {o1 : Den kparkOp} {m2 : Value} {h : Heap} {Q : Den kparkOp → Heap → Prop} (H : park_Op_looked.M (fun x0 x1 h K => CallT Try.prog 63 [Kd.val .iface x0, Kd.val kdequeOp x1] false kdequeOp h K) (fun x0 h K => CallT Try.prog 64 [Kd.val kdequeOp x0] true kparkLot h K) (fun x0 x1 h K => CallT Try.prog 65 [Kd.val .ptr x0, Kd.val kI x1] true .nil h K) (fun x0 h K => CallT Try.prog 66 [Kd.val kparkOp x0] false kparkOp h K) (fun x0 x1 x2 h K => CallT Try.prog 43 [Kd.val .ptr x0, Kd.val kI x1, Kd.val kI x2] true .nil h K) o1 m2 h Q) :
 CallT Try.prog 44 [Kd.val kparkOp o1, Kd.val .iface m2] false kparkOp h Q :=
  fn_sound2 (c := weave (Try.f44.body.getD .skip) park_Op_looked.mk) Try.func44 (by kernel_rfl) Try.ntmps44 (rs := [.cell 4 40]) (by kernel_rfl) [⟨kparkOp, o1⟩, ⟨.iface, m2⟩] (by kernel_rfl) (by kernel_rfl) (by kernel_rfl) (by kernel_rfl) H

theorem park_state_access.br {s1 : Option Addr} {m2 : Value} {h : Heap} {Q : Den kparkLot → Heap → Prop} (H : park_state_access.M (fun x0 x1 h K => CallT Try.prog 68 [Kd.val .ptr x0, Kd.val kI x1] false kI h K) (fun x0 x1 x2 h K => InvT Try.prog "Store" x0 [Kd.val kI x1, Kd.val kI x2] false kI h K) (fun x0 x1 x2 h K => InvT Try.prog "Add" x0 [Kd.val kI x1, Kd.val kI x2] true kparkLot h K) (fun x0 x1 h K => InvT Try.prog "Load" x0 [Kd.val kI x1] true kparkLot h K) (fun x0 x1 h K => FnT Try.prog x0 [Kd.val kI x1] true kparkLot h K) (fun x0 h K => CallT Try.prog 69 [Kd.val .ptr x0] false kI h K) (NilT Try.prog) s1 m2 h Q) :
 CallT Try.prog 45 [Kd.val .ptr s1, Kd.val .iface m2] true kparkLot h Q :=
  fn_sound2 (c := weave (Try.f45.body.getD .skip) park_state_access.mk) Try.func45 (by kernel_rfl) Try.ntmps45 (rs := [.tmp 4, .tmp 5]) (by kernel_rfl) [⟨.ptr, s1⟩, ⟨.iface, m2⟩] (by kernel_rfl) (by kernel_rfl) (by kernel_rfl) (by kernel_rfl) H

theorem park_Op_rested.br {o1 : Den kparkOp} {got2 : Int} {h : Heap} {Q : Den kparkOp → Heap → Prop} (H : park_Op_rested.M (fun x0 h K => CallT Try.prog 66 [Kd.val kparkOp x0] false kparkOp h K) (fun x0 x1 h K => CallT Try.prog 65 [Kd.val .ptr x0, Kd.val kI x1] true .nil h K) (fun x0 x1 x2 h K => CallT Try.prog 43 [Kd.val .ptr x0, Kd.val kI x1, Kd.val kI x2] true .nil h K) o1 got2 h Q) :
 CallT Try.prog 46 [Kd.val kparkOp o1, Kd.val kI got2] false kparkOp h Q :=
  fn_sound2 (c := weave (Try.f46.body.getD .skip) park_Op_rested.mk) Try.func46 (by kernel_rfl) Try.ntmps46 (rs := [.cell 4 40]) (by kernel_rfl) [⟨kparkOp, o1⟩, ⟨kI, got2⟩] (by kernel_rfl) (by kernel_rfl) (by kernel_rfl) (by kernel_rfl) H

theorem park_state_woken.br {s1 : Option Addr} {got2 : Int} {h : Heap} {Q : Unit → Heap → Prop} (H : park_state_woken.M (fun x0 x1 x2 h K => CallT Try.prog 43 [Kd.val .ptr x0, Kd.val kI x1, Kd.val kI x2] true .nil h K) (fun x0 h K => CallT Try.prog 69 [Kd.val .ptr x0] false kI h K) s1 got2 h Q) :
 CallT Try.prog 47 [Kd.val .ptr s1, Kd.val kI got2] true .nil h Q :=
  fn_sound2 (c := weave (Try.f47.body.getD .skip) park_state_woken.mk) Try.func47 (by kernel_rfl) Try.ntmps47 (rs := []) (by kernel_rfl) [⟨.ptr, s1⟩, ⟨kI, got2⟩] (by kernel_rfl) (by kernel_rfl) (by kernel_rfl) (by kernel_rfl) H

theorem park_state_finished.br {s1 : Option Addr} {got2 : Int} {h : Heap} {Q : Unit → Heap → Prop} (H : park_state_finished.M (fun x0 x1 x2 h K => CallT Try.prog 43 [Kd.val .ptr x0, Kd.val kI x1, Kd.val kI x2] true .nil h K) s1 got2 h Q) :
 CallT Try.prog 48 [Kd.val .ptr s1, Kd.val kI got2] true .nil h Q :=
  fn_sound2 (c := weave (Try.f48.body.getD .skip) park_state_finished.mk) Try.func48 (by kernel_rfl) Try.ntmps48 (rs := []) (by kernel_rfl) [⟨.ptr, s1⟩, ⟨kI, got2⟩] (by kernel_rfl) (by kernel_rfl) (by kernel_rfl) (by kernel_rfl) H

theorem cells_Arena_outside.br {a1 : Option Addr} {addr2 : Int} {h : Heap} {Q : Bool → Heap → Prop} (H : cells_Arena_outside.M (fun x0 x1 h K => CallT Try.prog 70 [Kd.val .ptr x0, Kd.val kI x1] false .bool h K) a1 addr2 h Q) :
 CallT Try.prog 49 [Kd.val .ptr a1, Kd.val kI addr2] false .bool h Q :=
  fn_sound2 (c := weave (Try.f49.body.getD .skip) cells_Arena_outside.mk) Try.func49 (by kernel_rfl) Try.ntmps49 (rs := [.tmp 4]) (by kernel_rfl) [⟨.ptr, a1⟩, ⟨kI, addr2⟩] (by kernel_rfl) (by kernel_rfl) (by kernel_rfl) (by kernel_rfl) H

theorem cells_Arena_note.br {a1 : Option Addr} {kind2 : Int} {addr3 : Int} {x4 : Int} {y5 : Int} {ok6 : Bool} {h : Heap} {Q : Unit → Heap → Prop} (H : cells_Arena_note.M  a1 kind2 addr3 x4 y5 ok6 h Q) :
 CallT Try.prog 50 [Kd.val .ptr a1, Kd.val kI kind2, Kd.val kI addr3, Kd.val kI x4, Kd.val kI y5, Kd.val .bool ok6] true .nil h Q :=
  fn_sound2 (c := weave (Try.f50.body.getD .skip) cells_Arena_note.mk) Try.func50 (by kernel_rfl) Try.ntmps50 (rs := []) (by kernel_rfl) [⟨.ptr, a1⟩, ⟨kI, kind2⟩, ⟨kI, addr3⟩, ⟨kI, x4⟩, ⟨kI, y5⟩, ⟨.bool, ok6⟩] (by kernel_rfl) (by kernel_rfl) (by kernel_rfl) (by kernel_rfl) H

theorem park_judged.br {first1 : Int} {most2 : Int} {sleepers3 : Int} {todos4 : Sl} {picks5 : Sl} {h : Heap} {Q : Int → Heap → Prop} (H : park_judged.M (fun x0 x1 h K => CallT Try.prog 31 [Kd.val kI x0, Kd.val kI x1] false kI h K) first1 most2 sleepers3 todos4 picks5 h Q) :
 CallT Try.prog 51 [Kd.val kI first1, Kd.val kI most2, Kd.val kI sleepers3, Kd.val .sl todos4, Kd.val .sl picks5] false kI h Q :=
  fn_sound2 (c := weave (Try.f51.body.getD .skip) park_judged.mk) Try.func51 (by kernel_rfl) Try.ntmps51 (rs := [.tmp 10]) (by kernel_rfl) [⟨kI, first1⟩, ⟨kI, most2⟩, ⟨kI, sleepers3⟩, ⟨.sl, todos4⟩, ⟨.sl, picks5⟩] (by kernel_rfl) (by kernel_rfl) (by kernel_rfl) (by kernel_rfl) H

theorem ops_Mod.br {x1 : Int} {n2 : Int} {h : Heap} {Q : Int → Heap → Prop} (H : ops_Mod.M  x1 n2 h Q) :
 CallT Try.prog 52 [Kd.val kI x1, Kd.val kI n2] false kI h Q :=
  fn_sound2 (c := weave (Try.f52.body.getD .skip) ops_Mod.mk) Try.func52 (by kernel_rfl) Try.ntmps52 (rs := [.tmp 4]) (by kernel_rfl) [⟨kI, x1⟩, ⟨kI, n2⟩] (by kernel_rfl) (by kernel_rfl) (by kernel_rfl) (by kernel_rfl) H

theorem cells_Arena_Who.br {a1 : Option Addr} {actor2 : Int} {h : Heap} {Q : Unit → Heap → Prop} (H : cells_Arena_Who.M  a1 actor2 h Q) :
 CallT Try.prog 53 [Kd.val .ptr a1, Kd.val kI actor2] true .nil h Q :=
  fn_sound2 (c := weave (Try.f53.body.getD .skip) cells_Arena_Who.mk) Try.func53 (by kernel_rfl) Try.ntmps53 (rs := []) (by kernel_rfl) [⟨.ptr, a1⟩, ⟨kI, actor2⟩] (by kernel_rfl) (by kernel_rfl) (by kernel_rfl) (by kernel_rfl) H

theorem park_game_worker.br {g1 : Option Addr} {a2 : Option Addr} {h : Heap} {Q : Unit → Heap → Prop} (H : park_game_worker.M (fun x0 x1 h K => CallT Try.prog 71 [Kd.val .ptr x0, Kd.val .ptr x1] false .bool h K) (fun x0 x1 h K => CallT Try.prog 15 [Kd.val .iface x0, Kd.val kparkOp x1] false kparkOp h K) (fun x0 h K => CallT Try.prog 14 [Kd.val kparkOp x0] true kparkLot h K) (fun x0 x1 h K => CallT Try.prog 63 [Kd.val .iface x0, Kd.val kdequeOp x1] false kdequeOp h K) (fun x0 h K => CallT Try.prog 64 [Kd.val kdequeOp x0] true kparkLot h K) (fun x0 x1 x2 x3 h K => CallT Try.prog 72 [Kd.val .ptr x0, Kd.val kI x1, Kd.val kI x2, Kd.val kI x3] true .nil h K) g1 a2 h Q) :
 CallT Try.prog 54 [Kd.val .ptr g1, Kd.val .ptr a2] true .nil h Q :=
  fn_sound2 (c := weave (Try.f54.body.getD .skip) park_game_worker.mk) Try.func54 (by kernel_rfl) Try.ntmps54 (rs := []) (by kernel_rfl) [⟨.ptr, g1⟩, ⟨.ptr, a2⟩] (by kernel_rfl) (by kernel_rfl) (by kernel_rfl) (by kernel_rfl) H

theorem park_game_sleeper.br {g1 : Option Addr} {a2 : Option Addr} {who3 : Int} {h : Heap} {Q : Unit → Heap → Prop} (H : park_game_sleeper.M (fun x0 x1 x2 h K => CallT Try.prog 34 [Kd.val kparkLot x0, Kd.val kI x1, Kd.val .sl x2] false kparkOp h K) (fun x0 h K => CallT Try.prog 73 [Kd.val kparkLot x0] false kdequeOp h K) (fun x0 x1 h K => CallT Try.prog 63 [Kd.val .iface x0, Kd.val kdequeOp x1] false kdequeOp h K) (fun x0 h K => CallT Try.prog 64 [Kd.val kdequeOp x0] true kparkLot h K) (fun x0 x1 x2 x3 h K => CallT Try.prog 72 [Kd.val .ptr x0, Kd.val kI x1, Kd.val kI x2, Kd.val kI x3] true .nil h K) (fun x0 x1 h K => CallT Try.prog 15 [Kd.val .iface x0, Kd.val kparkOp x1] false kparkOp h K) (fun x0 h K => CallT Try.prog 14 [Kd.val kparkOp x0] true kparkLot h K) g1 a2 who3 h Q) :
 CallT Try.prog 55 [Kd.val .ptr g1, Kd.val .ptr a2, Kd.val kI who3] true .nil h Q :=
  fn_sound2 (c := weave (Try.f55.body.getD .skip) park_game_sleeper.mk) Try.func55 (by kernel_rfl) Try.ntmps55 (rs := []) (by kernel_rfl) [⟨.ptr, g1⟩, ⟨.ptr, a2⟩, ⟨kI, who3⟩] (by kernel_rfl) (by kernel_rfl) (by kernel_rfl) (by kernel_rfl) H

theorem park_game_told.br {g1 : Option Addr} {h : Heap} {Q : Unit → Heap → Prop} (H : park_game_told.M (fun x0 h K => CallT Try.prog 74 [Kd.val .ptr x0] false .sl h K) (fun x0 h K => CallT Try.prog 18 [Kd.val kparkOp x0] false .bool h K) (fun x0 x1 h K => CallT Try.prog 52 [Kd.val kI x0, Kd.val kI x1] false kI h K) (fun x0 h K => CallT Try.prog 13 [Kd.val .ptr x0] false .sl h K) g1 h Q) :
 CallT Try.prog 56 [Kd.val .ptr g1] true .nil h Q :=
  fn_sound2 (c := weave (Try.f56.body.getD .skip) park_game_told.mk) Try.func56 (by kernel_rfl) Try.ntmps56 (rs := []) (by kernel_rfl) [⟨.ptr, g1⟩] (by kernel_rfl) (by kernel_rfl) (by kernel_rfl) (by kernel_rfl) H

theorem cells_good.br {size1 : Int} {h : Heap} {Q : Bool → Heap → Prop} (H : cells_good.M  size1 h Q) :
 CallT Try.prog 57 [Kd.val kI size1] false .bool h Q :=
  fn_sound2 (c := weave (Try.f57.body.getD .skip) cells_good.mk) Try.func57 (by kernel_rfl) Try.ntmps57 (rs := [.tmp 2]) (by kernel_rfl) [⟨kI, size1⟩] (by kernel_rfl) (by kernel_rfl) (by kernel_rfl) (by kernel_rfl) H

theorem cells_ledger_refuse.br {l1 : Option Addr} {n2 : Int} {h : Heap} {Q : Int → Heap → Prop} (H : cells_ledger_refuse.M  l1 n2 h Q) :
 CallT Try.prog 58 [Kd.val .ptr l1, Kd.val kI n2] false kI h Q :=
  fn_sound2 (c := weave (Try.f58.body.getD .skip) cells_ledger_refuse.mk) Try.func58 (by kernel_rfl) Try.ntmps58 (rs := [.tmp 4]) (by kernel_rfl) [⟨.ptr, l1⟩, ⟨kI, n2⟩] (by kernel_rfl) (by kernel_rfl) (by kernel_rfl) (by kernel_rfl) H

theorem cells_ledger_take.br {l1 : Option Addr} {n2 : Int} {h : Heap} {Q : Int → Heap → Prop} (H : cells_ledger_take.M  l1 n2 h Q) :
 CallT Try.prog 59 [Kd.val .ptr l1, Kd.val kI n2] false kI h Q :=
  fn_sound2 (c := weave (Try.f59.body.getD .skip) cells_ledger_take.mk) Try.func59 (by kernel_rfl) Try.ntmps59 (rs := [.tmp 4]) (by kernel_rfl) [⟨.ptr, l1⟩, ⟨kI, n2⟩] (by kernel_rfl) (by kernel_rfl) (by kernel_rfl) (by kernel_rfl) H

theorem deque_capsOK.br {low1 : Int} {most2 : Int} {h : Heap} {Q : Bool → Heap → Prop} (H : deque_capsOK.M  low1 most2 h Q) :
 CallT Try.prog 60 [Kd.val kI low1, Kd.val kI most2] false .bool h Q :=
  fn_sound2 (c := weave (Try.f60.body.getD .skip) deque_capsOK.mk) Try.func60 (by kernel_rfl) Try.ntmps60 (rs := [.tmp 4]) (by kernel_rfl) [⟨kI, low1⟩, ⟨kI, most2⟩] (by kernel_rfl) (by kernel_rfl) (by kernel_rfl) (by kernel_rfl) H

theorem park_Lot_right.br {l1 : Den kparkLot} {self2 : Int} {h : Heap} {Q : Bool → Heap → Prop} (H : park_Lot_right.M (fun x0 h K => CallT Try.prog 30 [Kd.val kI x0] false kI h K) l1 self2 h Q) :
 CallT Try.prog 61 [Kd.val kparkLot l1, Kd.val kI self2] false .bool h Q :=
  fn_sound2 (c := weave (Try.f61.body.getD .skip) park_Lot_right.mk) Try.func61 (by kernel_rfl) Try.ntmps61 (rs := [.tmp 4]) (by kernel_rfl) [⟨kparkLot, l1⟩, ⟨kI, self2⟩] (by kernel_rfl) (by kernel_rfl) (by kernel_rfl) (by kernel_rfl) H

theorem deque_Step.br {m1 : Value} {o2 : Den kdequeOp} {h : Heap} {Q : Den kdequeOp → Heap → Prop} (H : deque_Step.M (fun x0 x1 x2 h K => CallT Try.prog 75 [Kd.val kdequeOp x0, Kd.val kI x1, Kd.val kI x2] false kdequeOp h K) (fun x0 x1 h K => CallT Try.prog 76 [Kd.val kdequeOp x0, Kd.val .iface x1] true kparkLot h K) (fun x0 x1 h K => CallT Try.prog 77 [Kd.val kdequeOp x0, Kd.val kI x1] false kdequeOp h K) (fun x0 x1 h K => CallT Try.prog 78 [Kd.val kdequeOp x0, Kd.val kI x1] false kdequeOp h K) (fun x0 x1 h K => CallT Try.prog 79 [Kd.val kdequeOp x0, Kd.val kI x1] false kdequeOp h K) (fun x0 x1 h K => CallT Try.prog 80 [Kd.val kdequeOp x0, Kd.val kI x1] false kdequeOp h K) m1 o2 h Q) :
 CallT Try.prog 63 [Kd.val .iface m1, Kd.val kdequeOp o2] false kdequeOp h Q :=
  fn_sound2 (c := weave (Try.f63.body.getD .skip) deque_Step.mk) Try.func63 (by kernel_rfl) Try.ntmps63 (rs := [.cell 4 38]) (by kernel_rfl) [⟨.iface, m1⟩, ⟨kdequeOp, o2⟩] (by kernel_rfl) (by kernel_rfl) (by kernel_rfl) (by kernel_rfl) H

theorem deque_Answer.br {o1 : Den kdequeOp} {h : Heap} {Q : Den kparkLot → Heap → Prop} (H : deque_Answer.M  o1 h Q) :
 CallT Try.prog 64 [Kd.val kdequeOp o1] true kparkLot h Q :=
  fn_sound2 (c := weave (Try.f64.body.getD .skip) deque_Answer.mk) Try.func64 (by kernel_rfl) Try.ntmps64 (rs := [.tmp 2, .tmp 3]) (by kernel_rfl) [⟨kdequeOp, o1⟩] (by kernel_rfl) (by kernel_rfl) (by kernel_rfl) (by kernel_rfl) H

theorem park_state_back.br {s1 : Option Addr} {code2 : Int} {h : Heap} {Q : Unit → Heap → Prop} (H : park_state_back.M  s1 code2 h Q) :
 CallT Try.prog 65 [Kd.val .ptr s1, Kd.val kI code2] true .nil h Q :=
  fn_sound2 (c := weave (Try.f65.body.getD .skip) park_state_back.mk) Try.func65 (by kernel_rfl) Try.ntmps65 (rs := []) (by kernel_rfl) [⟨.ptr, s1⟩, ⟨kI, code2⟩] (by kernel_rfl) (by kernel_rfl) (by kernel_rfl) (by kernel_rfl) H

theorem park_Op_around.br {o1 : Den kparkOp} {h : Heap} {Q : Den kparkOp → Heap → Prop} (H : park_Op_around.M (fun x0 h K => CallT Try.prog 69 [Kd.val .ptr x0] false kI h K) (fun x0 h K => CallT Try.prog 81 [Kd.val kparkLot x0] false kdequeOp h K) o1 h Q) :
 CallT Try.prog 66 [Kd.val kparkOp o1] false kparkOp h Q :=
  fn_sound2 (c := weave (Try.f66.body.getD .skip) park_Op_around.mk) Try.func66 (by kernel_rfl) Try.ntmps66 (rs := [.cell 2 40]) (by kernel_rfl) [⟨kparkOp, o1⟩] (by kernel_rfl) (by kernel_rfl) (by kernel_rfl) (by kernel_rfl) H

theorem park_state_access_1.br {i1 : Int} {t2 : Option Addr} {t3 : Option Addr} {h : Heap} {Q : Den kparkLot → Heap → Prop} (H : park_state_access_1.M (fun x0 x1 h K => CallT Try.prog 68 [Kd.val .ptr x0, Kd.val kI x1] false kI h K) (fun x0 x1 x2 x3 h K => InvT Try.prog "CAS" x0 [Kd.val kI x1, Kd.val kI x2, Kd.val kI x3] true (.pair .bool (.pair kI .nil)) h K) (NilT Try.prog) i1 t2 t3 h Q) :
 CallT Try.prog 67 [Kd.val kI i1, Kd.val .ptr t2, Kd.val .ptr t3] true kparkLot h Q :=
  fn_sound2 (c := weave (Try.f67.body.getD .skip) park_state_access_1.mk) Try.func67 (by kernel_rfl) Try.ntmps67 (rs := [.tmp 4, .tmp 5]) (by kernel_rfl) [⟨kI, i1⟩, ⟨.ptr, t2⟩, ⟨.ptr, t3⟩] (by kernel_rfl) (by kernel_rfl) (by kernel_rfl) (by kernel_rfl) H

theorem park_state_flag.br {s1 : Option Addr} {i2 : Int} {h : Heap} {Q : Int → Heap → Prop} (H : park_state_flag.M  s1 i2 h Q) :
 CallT Try.prog 68 [Kd.val .ptr s1, Kd.val kI i2] false kI h Q :=
  fn_sound2 (c := weave (Try.f68.body.getD .skip) park_state_flag.mk) Try.func68 (by kernel_rfl) Try.ntmps68 (rs := [.tmp 4]) (by kernel_rfl) [⟨.ptr, s1⟩, ⟨kI, i2⟩] (by kernel_rfl) (by kernel_rfl) (by kernel_rfl) (by kernel_rfl) H

theorem park_state_other.br {s1 : Option Addr} {h : Heap} {Q : Int → Heap → Prop} (H : park_state_other.M  s1 h Q) :
 CallT Try.prog 69 [Kd.val .ptr s1] false kI h Q :=
  fn_sound2 (c := weave (Try.f69.body.getD .skip) park_state_other.mk) Try.func69 (by kernel_rfl) Try.ntmps69 (rs := [.tmp 2]) (by kernel_rfl) [⟨.ptr, s1⟩] (by kernel_rfl) (by kernel_rfl) (by kernel_rfl) (by kernel_rfl) H

theorem cells_ledger_has.br {l1 : Option Addr} {addr2 : Int} {h : Heap} {Q : Bool → Heap → Prop} (H : cells_ledger_has.M  l1 addr2 h Q) :
 CallT Try.prog 70 [Kd.val .ptr l1, Kd.val kI addr2] false .bool h Q :=
  fn_sound2 (c := weave (Try.f70.body.getD .skip) cells_ledger_has.mk) Try.func70 (by kernel_rfl) Try.ntmps70 (rs := [.tmp 4]) (by kernel_rfl) [⟨.ptr, l1⟩, ⟨kI, addr2⟩] (by kernel_rfl) (by kernel_rfl) (by kernel_rfl) (by kernel_rfl) H

theorem park_game_begin.br {g1 : Option Addr} {a2 : Option Addr} {h : Heap} {Q : Bool → Heap → Prop} (H : park_game_begin.M (fun x0 x1 h K => CallT Try.prog 35 [Kd.val kparkLot x0, Kd.val kI x1] false kparkOp h K) (fun x0 x1 h K => CallT Try.prog 82 [Kd.val kparkLot x0, Kd.val kI x1] false kdequeOp h K) (fun x0 h K => CallT Try.prog 83 [Kd.val kparkLot x0] false kdequeOp h K) (fun x0 x1 h K => CallT Try.prog 40 [Kd.val kparkLot x0, Kd.val kI x1] false kparkOp h K) g1 a2 h Q) :
 CallT Try.prog 71 [Kd.val .ptr g1, Kd.val .ptr a2] false .bool h Q :=
  fn_sound2 (c := weave (Try.f71.body.getD .skip) park_game_begin.mk) Try.func71 (by kernel_rfl) Try.ntmps71 (rs := [.tmp 4]) (by kernel_rfl) [⟨.ptr, g1⟩, ⟨.ptr, a2⟩] (by kernel_rfl) (by kernel_rfl) (by kernel_rfl) (by kernel_rfl) H

theorem park_game_took.br {g1 : Option Addr} {who2 : Int} {code3 : Int} {v4 : Int} {h : Heap} {Q : Unit → Heap → Prop} (H : park_game_took.M  g1 who2 code3 v4 h Q) :
 CallT Try.prog 72 [Kd.val .ptr g1, Kd.val kI who2, Kd.val kI code3, Kd.val kI v4] true .nil h Q :=
  fn_sound2 (c := weave (Try.f72.body.getD .skip) park_game_took.mk) Try.func72 (by kernel_rfl) Try.ntmps72 (rs := []) (by kernel_rfl) [⟨.ptr, g1⟩, ⟨kI, who2⟩, ⟨kI, code3⟩, ⟨kI, v4⟩] (by kernel_rfl) (by kernel_rfl) (by kernel_rfl) (by kernel_rfl) H

theorem deque_Steal.br {d1 : Den kparkLot} {h : Heap} {Q : Den kdequeOp → Heap → Prop} (H : deque_Steal.M (fun x0 x1 x2 x3 h K => CallT Try.prog 84 [Kd.val kI x0, Kd.val kI x1, Kd.val kparkLot x2, Kd.val kI x3] false kdequeOp h K) d1 h Q) :
 CallT Try.prog 73 [Kd.val kparkLot d1] false kdequeOp h Q :=
  fn_sound2 (c := weave (Try.f73.body.getD .skip) deque_Steal.mk) Try.func73 (by kernel_rfl) Try.ntmps73 (rs := [.cell 2 38]) (by kernel_rfl) [⟨kparkLot, d1⟩] (by kernel_rfl) (by kernel_rfl) (by kernel_rfl) (by kernel_rfl) H

theorem cells_Arena_Cells.br {a1 : Option Addr} {h : Heap} {Q : Sl → Heap → Prop} (H : cells_Arena_Cells.M  a1 h Q) :
 CallT Try.prog 74 [Kd.val .ptr a1] false .sl h Q :=
  fn_sound2 (c := weave (Try.f74.body.getD .skip) cells_Arena_Cells.mk) Try.func74 (by kernel_rfl) Try.ntmps74 (rs := [.tmp 2]) (by kernel_rfl) [⟨.ptr, a1⟩] (by kernel_rfl) (by kernel_rfl) (by kernel_rfl) (by kernel_rfl) H

theorem deque_Op_over.br {o1 : Den kdequeOp} {code2 : Int} {v3 : Int} {h : Heap} {Q : Den kdequeOp → Heap → Prop} (H : deque_Op_over.M  o1 code2 v3 h Q) :
 CallT Try.prog 75 [Kd.val kdequeOp o1, Kd.val kI code2, Kd.val kI v3] false kdequeOp h Q :=
  fn_sound2 (c := weave (Try.f75.body.getD .skip) deque_Op_over.mk) Try.func75 (by kernel_rfl) Try.ntmps75 (rs := [.cell 6 38]) (by kernel_rfl) [⟨kdequeOp, o1⟩, ⟨kI, code2⟩, ⟨kI, v3⟩] (by kernel_rfl) (by kernel_rfl) (by kernel_rfl) (by kernel_rfl) H

theorem deque_Op_access.br {o1 : Den kdequeOp} {m2 : Value} {h : Heap} {Q : Den kparkLot → Heap → Prop} (H : deque_Op_access.M (fun x0 x1 h K => InvT Try.prog "Load" x0 [Kd.val kI x1] true kparkLot h K) (fun x0 x1 h K => InvT Try.prog "Reserve" x0 [Kd.val kI x1] true kparkLot h K) (fun x0 x1 x2 h K => InvT Try.prog "Store" x0 [Kd.val kI x1, Kd.val kI x2] false kI h K) (fun x0 x1 x2 h K => CallT Try.prog 85 [Kd.val kI x0, Kd.val kI x1, Kd.val kI x2] false kI h K) (fun x0 h K => CallT Try.prog 86 [Kd.val kdequeOp x0] false kI h K) (fun x0 x1 x2 x3 h K => InvT Try.prog "CAS" x0 [Kd.val kI x1, Kd.val kI x2, Kd.val kI x3] true (.pair .bool (.pair kI .nil)) h K) (NilT Try.prog) o1 m2 h Q) :
 CallT Try.prog 76 [Kd.val kdequeOp o1, Kd.val .iface m2] true kparkLot h Q :=
  fn_sound2 (c := weave (Try.f76.body.getD .skip) deque_Op_access.mk) Try.func76 (by kernel_rfl) Try.ntmps76 (rs := [.tmp 4, .tmp 5]) (by kernel_rfl) [⟨kdequeOp, o1⟩, ⟨.iface, m2⟩] (by kernel_rfl) (by kernel_rfl) (by kernel_rfl) (by kernel_rfl) H

theorem deque_Op_pushed.br {o1 : Den kdequeOp} {got2 : Int} {h : Heap} {Q : Den kdequeOp → Heap → Prop} (H : deque_Op_pushed.M (fun x0 x1 x2 h K => CallT Try.prog 75 [Kd.val kdequeOp x0, Kd.val kI x1, Kd.val kI x2] false kdequeOp h K) o1 got2 h Q) :
 CallT Try.prog 77 [Kd.val kdequeOp o1, Kd.val kI got2] false kdequeOp h Q :=
  fn_sound2 (c := weave (Try.f77.body.getD .skip) deque_Op_pushed.mk) Try.func77 (by kernel_rfl) Try.ntmps77 (rs := [.cell 4 38]) (by kernel_rfl) [⟨kdequeOp, o1⟩, ⟨kI, got2⟩] (by kernel_rfl) (by kernel_rfl) (by kernel_rfl) (by kernel_rfl) H

theorem deque_Op_popped.br {o1 : Den kdequeOp} {got2 : Int} {h : Heap} {Q : Den kdequeOp → Heap → Prop} (H : deque_Op_popped.M (fun x0 x1 x2 h K => CallT Try.prog 75 [Kd.val kdequeOp x0, Kd.val kI x1, Kd.val kI x2] false kdequeOp h K) o1 got2 h Q) :
 CallT Try.prog 78 [Kd.val kdequeOp o1, Kd.val kI got2] false kdequeOp h Q :=
  fn_sound2 (c := weave (Try.f78.body.getD .skip) deque_Op_popped.mk) Try.func78 (by kernel_rfl) Try.ntmps78 (rs := [.cell 4 38]) (by kernel_rfl) [⟨kdequeOp, o1⟩, ⟨kI, got2⟩] (by kernel_rfl) (by kernel_rfl) (by kernel_rfl) (by kernel_rfl) H

theorem deque_Op_stolen.br {o1 : Den kdequeOp} {got2 : Int} {h : Heap} {Q : Den kdequeOp → Heap → Prop} (H : deque_Op_stolen.M (fun x0 x1 x2 h K => CallT Try.prog 75 [Kd.val kdequeOp x0, Kd.val kI x1, Kd.val kI x2] false kdequeOp h K) o1 got2 h Q) :
 CallT Try.prog 79 [Kd.val kdequeOp o1, Kd.val kI got2] false kdequeOp h Q :=
  fn_sound2 (c := weave (Try.f79.body.getD .skip) deque_Op_stolen.mk) Try.func79 (by kernel_rfl) Try.ntmps79 (rs := [.cell 4 38]) (by kernel_rfl) [⟨kdequeOp, o1⟩, ⟨kI, got2⟩] (by kernel_rfl) (by kernel_rfl) (by kernel_rfl) (by kernel_rfl) H

theorem deque_Op_looked.br {o1 : Den kdequeOp} {got2 : Int} {h : Heap} {Q : Den kdequeOp → Heap → Prop} (H : deque_Op_looked.M (fun x0 x1 x2 h K => CallT Try.prog 75 [Kd.val kdequeOp x0, Kd.val kI x1, Kd.val kI x2] false kdequeOp h K) o1 got2 h Q) :
 CallT Try.prog 80 [Kd.val kdequeOp o1, Kd.val kI got2] false kdequeOp h Q :=
  fn_sound2 (c := weave (Try.f80.body.getD .skip) deque_Op_looked.mk) Try.func80 (by kernel_rfl) Try.ntmps80 (rs := [.cell 4 38]) (by kernel_rfl) [⟨kdequeOp, o1⟩, ⟨kI, got2⟩] (by kernel_rfl) (by kernel_rfl) (by kernel_rfl) (by kernel_rfl) H

theorem deque_Look.br {d1 : Den kparkLot} {h : Heap} {Q : Den kdequeOp → Heap → Prop} (H : deque_Look.M (fun x0 x1 x2 x3 h K => CallT Try.prog 84 [Kd.val kI x0, Kd.val kI x1, Kd.val kparkLot x2, Kd.val kI x3] false kdequeOp h K) d1 h Q) :
 CallT Try.prog 81 [Kd.val kparkLot d1] false kdequeOp h Q :=
  fn_sound2 (c := weave (Try.f81.body.getD .skip) deque_Look.mk) Try.func81 (by kernel_rfl) Try.ntmps81 (rs := [.cell 2 38]) (by kernel_rfl) [⟨kparkLot, d1⟩] (by kernel_rfl) (by kernel_rfl) (by kernel_rfl) (by kernel_rfl) H

theorem deque_Push.br {d1 : Den kparkLot} {v2 : Int} {h : Heap} {Q : Den kdequeOp → Heap → Prop} (H : deque_Push.M (fun x0 x1 x2 x3 h K => CallT Try.prog 84 [Kd.val kI x0, Kd.val kI x1, Kd.val kparkLot x2, Kd.val kI x3] false kdequeOp h K) d1 v2 h Q) :
 CallT Try.prog 82 [Kd.val kparkLot d1, Kd.val kI v2] false kdequeOp h Q :=
  fn_sound2 (c := weave (Try.f82.body.getD .skip) deque_Push.mk) Try.func82 (by kernel_rfl) Try.ntmps82 (rs := [.cell 4 38]) (by kernel_rfl) [⟨kparkLot, d1⟩, ⟨kI, v2⟩] (by kernel_rfl) (by kernel_rfl) (by kernel_rfl) (by kernel_rfl) H

theorem deque_Pop.br {d1 : Den kparkLot} {h : Heap} {Q : Den kdequeOp → Heap → Prop} (H : deque_Pop.M (fun x0 x1 x2 x3 h K => CallT Try.prog 84 [Kd.val kI x0, Kd.val kI x1, Kd.val kparkLot x2, Kd.val kI x3] false kdequeOp h K) d1 h Q) :
 CallT Try.prog 83 [Kd.val kparkLot d1] false kdequeOp h Q :=
  fn_sound2 (c := weave (Try.f83.body.getD .skip) deque_Pop.mk) Try.func83 (by kernel_rfl) Try.ntmps83 (rs := [.cell 2 38]) (by kernel_rfl) [⟨kparkLot, d1⟩] (by kernel_rfl) (by kernel_rfl) (by kernel_rfl) (by kernel_rfl) H

theorem deque_begin.br {kind1 : Int} {at_2 : Int} {d3 : Den kparkLot} {v4 : Int} {h : Heap} {Q : Den kdequeOp → Heap → Prop} (H : deque_begin.M  kind1 at_2 d3 v4 h Q) :
 CallT Try.prog 84 [Kd.val kI kind1, Kd.val kI at_2, Kd.val kparkLot d3, Kd.val kI v4] false kdequeOp h Q :=
  fn_sound2 (c := weave (Try.f84.body.getD .skip) deque_begin.mk) Try.func84 (by kernel_rfl) Try.ntmps84 (rs := [.cell 8 38]) (by kernel_rfl) [⟨kI, kind1⟩, ⟨kI, at_2⟩, ⟨kparkLot, d3⟩, ⟨kI, v4⟩] (by kernel_rfl) (by kernel_rfl) (by kernel_rfl) (by kernel_rfl) H

theorem deque_place.br {a1 : Int} {c2 : Int} {i3 : Int} {h : Heap} {Q : Int → Heap → Prop} (H : deque_place.M  a1 c2 i3 h Q) :
 CallT Try.prog 85 [Kd.val kI a1, Kd.val kI c2, Kd.val kI i3] false kI h Q :=
  fn_sound2 (c := weave (Try.f85.body.getD .skip) deque_place.mk) Try.func85 (by kernel_rfl) Try.ntmps85 (rs := [.tmp 6]) (by kernel_rfl) [⟨kI, a1⟩, ⟨kI, c2⟩, ⟨kI, i3⟩] (by kernel_rfl) (by kernel_rfl) (by kernel_rfl) (by kernel_rfl) H

theorem deque_Op_next.br {o1 : Den kdequeOp} {h : Heap} {Q : Int → Heap → Prop} (H : deque_Op_next.M  o1 h Q) :
 CallT Try.prog 86 [Kd.val kdequeOp o1] false kI h Q :=
  fn_sound2 (c := weave (Try.f86.body.getD .skip) deque_Op_next.mk) Try.func86 (by kernel_rfl) Try.ntmps86 (rs := [.tmp 2]) (by kernel_rfl) [⟨kdequeOp, o1⟩] (by kernel_rfl) (by kernel_rfl) (by kernel_rfl) (by kernel_rfl) H

theorem cells_Arena_Add.br {a1 : Option Addr} {addr2 : Int} {d3 : Int} {h : Heap} {Q : Den kparkLot → Heap → Prop} (H : cells_Arena_Add.M (fun x0 x1 h K => CallT Try.prog 49 [Kd.val .ptr x0, Kd.val kI x1] false .bool h K) (fun x0 x1 x2 x3 x4 x5 h K => CallT Try.prog 50 [Kd.val .ptr x0, Kd.val kI x1, Kd.val kI x2, Kd.val kI x3, Kd.val kI x4, Kd.val .bool x5] true .nil h K) a1 addr2 d3 h Q) :
 CallT Try.prog 102 [Kd.val .ptr a1, Kd.val kI addr2, Kd.val kI d3] true kparkLot h Q :=
  fn_sound2 (c := weave (Try.f102.body.getD .skip) cells_Arena_Add.mk) Try.func102 (by kernel_rfl) Try.ntmps102 (rs := [.tmp 6, .tmp 7]) (by kernel_rfl) [⟨.ptr, a1⟩, ⟨kI, addr2⟩, ⟨kI, d3⟩] (by kernel_rfl) (by kernel_rfl) (by kernel_rfl) (by kernel_rfl) H

theorem cells_Arena_CAS.br {a1 : Option Addr} {addr2 : Int} {old3 : Int} {next4 : Int} {h : Heap} {Q : (Bool × (Int × Unit)) → Heap → Prop} (H : cells_Arena_CAS.M (fun x0 x1 h K => CallT Try.prog 49 [Kd.val .ptr x0, Kd.val kI x1] false .bool h K) (fun x0 x1 x2 x3 x4 x5 h K => CallT Try.prog 50 [Kd.val .ptr x0, Kd.val kI x1, Kd.val kI x2, Kd.val kI x3, Kd.val kI x4, Kd.val .bool x5] true .nil h K) a1 addr2 old3 next4 h Q) :
 CallT Try.prog 103 [Kd.val .ptr a1, Kd.val kI addr2, Kd.val kI old3, Kd.val kI next4] true (.pair .bool (.pair kI .nil)) h Q :=
  fn_sound2 (c := weave (Try.f103.body.getD .skip) cells_Arena_CAS.mk) Try.func103 (by kernel_rfl) Try.ntmps103 (rs := [.tmp 8, .tmp 9]) (by kernel_rfl) [⟨.ptr, a1⟩, ⟨kI, addr2⟩, ⟨kI, old3⟩, ⟨kI, next4⟩] (by kernel_rfl) (by kernel_rfl) (by kernel_rfl) (by kernel_rfl) H

theorem cells_Arena_Load.br {a1 : Option Addr} {addr2 : Int} {h : Heap} {Q : Den kparkLot → Heap → Prop} (H : cells_Arena_Load.M (fun x0 x1 h K => CallT Try.prog 49 [Kd.val .ptr x0, Kd.val kI x1] false .bool h K) (fun x0 x1 x2 x3 x4 x5 h K => CallT Try.prog 50 [Kd.val .ptr x0, Kd.val kI x1, Kd.val kI x2, Kd.val kI x3, Kd.val kI x4, Kd.val .bool x5] true .nil h K) a1 addr2 h Q) :
 CallT Try.prog 104 [Kd.val .ptr a1, Kd.val kI addr2] true kparkLot h Q :=
  fn_sound2 (c := weave (Try.f104.body.getD .skip) cells_Arena_Load.mk) Try.func104 (by kernel_rfl) Try.ntmps104 (rs := [.tmp 4, .tmp 5]) (by kernel_rfl) [⟨.ptr, a1⟩, ⟨kI, addr2⟩] (by kernel_rfl) (by kernel_rfl) (by kernel_rfl) (by kernel_rfl) H

end Go.Mx
