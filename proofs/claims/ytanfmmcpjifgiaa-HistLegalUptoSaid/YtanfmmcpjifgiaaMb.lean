/-
  The bridges: a function's calls, by what it comes to over abstract heaps: printed by a program of this workplace.
-/
import Derived.Test.YtanfmmcpjifgiaaMd
import Derived.Test.YtanfmmcpjifgiaaProg
set_option linter.unusedVariables false
namespace Go.Mx
open Go.Proofs
theorem law4_HistCut.br {calls1 : Sl} {pick2 : Int} {h : Heap} {Q : Bool → Heap → Prop} (H : law4_HistCut.M (fun x0 h K => CallT Try.prog 9 [Kd.val .sl x0] false .sl h K) (fun x0 x1 h K => CallT Try.prog 10 [Kd.val .sl x0, Kd.val (.int .i64) x1] false .sl h K) (fun x0 x1 h K => CallT Try.prog 11 [Kd.val .sl x0, Kd.val .sl x1] true .nil h K) (fun x0 x1 h K => CallT Try.prog 12 [Kd.val .sl x0, Kd.val (.int .i64) x1] false .sl h K) (fun x0 x1 h K => CallT Try.prog 13 [Kd.val .sl x0, Kd.val .sl x1] false .bool h K) (fun x0 h K => CallT Try.prog 14 [Kd.val .sl x0] false .bool h K) calls1 pick2 h Q) :
    CallT Try.prog 3 [Kd.val .sl calls1, Kd.val (.int .i64) pick2] false .bool h Q :=
  fn_sound (c := weave (Try.f3.body.getD .skip) law4_HistCut.mk) Try.func3 (by kernel_rfl) Try.ntmps3 (rs := [.tmp 4]) (by kernel_rfl) [⟨.sl, calls1⟩, ⟨(.int .i64), pick2⟩] (by kernel_rfl) (by kernel_rfl)
    (Eq.mp (show (law4_HistCut.M (fun x0 h K => CallT Try.prog 9 [Kd.val .sl x0] false .sl h K) (fun x0 x1 h K => CallT Try.prog 10 [Kd.val .sl x0, Kd.val (.int .i64) x1] false .sl h K) (fun x0 x1 h K => CallT Try.prog 11 [Kd.val .sl x0, Kd.val .sl x1] true .nil h K) (fun x0 x1 h K => CallT Try.prog 12 [Kd.val .sl x0, Kd.val (.int .i64) x1] false .sl h K) (fun x0 x1 h K => CallT Try.prog 13 [Kd.val .sl x0, Kd.val .sl x1] false .bool h K) (fun x0 h K => CallT Try.prog 14 [Kd.val .sl x0] false .bool h K) calls1 pick2 h Q) = interp Try.prog 114 (weave (Try.f3.body.getD .skip) law4_HistCut.mk) [] (rho0 [⟨.sl, calls1⟩, ⟨(.int .i64), pick2⟩]) [] h (retK Try.prog [.tmp 4] false .bool Q) (fun _ _ _ _ => False) (retK Try.prog [.tmp 4] false .bool Q) from by kernel_rfl) H)

theorem law4_HistSerial.br {todos1 : Sl} {most2 : Int} {h : Heap} {Q : Bool → Heap → Prop} (H : law4_HistSerial.M (fun x0 x1 h K => CallT Try.prog 15 [Kd.val .sl x0, Kd.val (.int .i64) x1] true (.pair .sl (.pair .sl (.pair (.int .i64) .nil))) h K) (fun x0 x1 h K => CallT Try.prog 16 [Kd.val .sl x0, Kd.val (.int .i64) x1] true (.pair .sl (.pair .sl (.pair (.int .i64) .nil))) h K) (fun x0 x1 h K => CallT Try.prog 13 [Kd.val .sl x0, Kd.val .sl x1] false .bool h K) (fun x0 x1 h K => CallT Try.prog 17 [Kd.val .sl x0, Kd.val .sl x1] false .bool h K) todos1 most2 h Q) :
    CallT Try.prog 4 [Kd.val .sl todos1, Kd.val (.int .i64) most2] false .bool h Q :=
  fn_sound (c := weave (Try.f4.body.getD .skip) law4_HistSerial.mk) Try.func4 (by kernel_rfl) Try.ntmps4 (rs := [.tmp 4]) (by kernel_rfl) [⟨.sl, todos1⟩, ⟨(.int .i64), most2⟩] (by kernel_rfl) (by kernel_rfl)
    (Eq.mp (show (law4_HistSerial.M (fun x0 x1 h K => CallT Try.prog 15 [Kd.val .sl x0, Kd.val (.int .i64) x1] true (.pair .sl (.pair .sl (.pair (.int .i64) .nil))) h K) (fun x0 x1 h K => CallT Try.prog 16 [Kd.val .sl x0, Kd.val (.int .i64) x1] true (.pair .sl (.pair .sl (.pair (.int .i64) .nil))) h K) (fun x0 x1 h K => CallT Try.prog 13 [Kd.val .sl x0, Kd.val .sl x1] false .bool h K) (fun x0 x1 h K => CallT Try.prog 17 [Kd.val .sl x0, Kd.val .sl x1] false .bool h K) todos1 most2 h Q) = interp Try.prog 168 (weave (Try.f4.body.getD .skip) law4_HistSerial.mk) [] (rho0 [⟨.sl, todos1⟩, ⟨(.int .i64), most2⟩]) [] h (retK Try.prog [.tmp 4] false .bool Q) (fun _ _ _ _ => False) (retK Try.prog [.tmp 4] false .bool Q) from by kernel_rfl) H)

theorem law4_HistLegal.br {calls1 : Sl} {most2 : Int} {order3 : Sl} {h : Heap} {Q : Bool → Heap → Prop} (H : law4_HistLegal.M (fun x0 h K => CallT Try.prog 9 [Kd.val .sl x0] false .sl h K) (fun x0 x1 x2 h K => CallT Try.prog 18 [Kd.val .sl x0, Kd.val (.int .i64) x1, Kd.val .sl x2] false .bool h K) (fun x0 x1 h K => CallT Try.prog 11 [Kd.val .sl x0, Kd.val .sl x1] true .nil h K) (fun x0 x1 h K => CallT Try.prog 13 [Kd.val .sl x0, Kd.val .sl x1] false .bool h K) (fun x0 h K => CallT Try.prog 14 [Kd.val .sl x0] false .bool h K) (fun x0 x1 x2 h K => CallT Try.prog 19 [Kd.val .sl x0, Kd.val (.int .i64) x1, Kd.val .sl x2] false .bool h K) calls1 most2 order3 h Q) :
    CallT Try.prog 5 [Kd.val .sl calls1, Kd.val (.int .i64) most2, Kd.val .sl order3] false .bool h Q :=
  fn_sound (c := weave (Try.f5.body.getD .skip) law4_HistLegal.mk) Try.func5 (by kernel_rfl) Try.ntmps5 (rs := [.tmp 6]) (by kernel_rfl) [⟨.sl, calls1⟩, ⟨(.int .i64), most2⟩, ⟨.sl, order3⟩] (by kernel_rfl) (by kernel_rfl)
    (Eq.mp (show (law4_HistLegal.M (fun x0 h K => CallT Try.prog 9 [Kd.val .sl x0] false .sl h K) (fun x0 x1 x2 h K => CallT Try.prog 18 [Kd.val .sl x0, Kd.val (.int .i64) x1, Kd.val .sl x2] false .bool h K) (fun x0 x1 h K => CallT Try.prog 11 [Kd.val .sl x0, Kd.val .sl x1] true .nil h K) (fun x0 x1 h K => CallT Try.prog 13 [Kd.val .sl x0, Kd.val .sl x1] false .bool h K) (fun x0 h K => CallT Try.prog 14 [Kd.val .sl x0] false .bool h K) (fun x0 x1 x2 h K => CallT Try.prog 19 [Kd.val .sl x0, Kd.val (.int .i64) x1, Kd.val .sl x2] false .bool h K) calls1 most2 order3 h Q) = interp Try.prog 116 (weave (Try.f5.body.getD .skip) law4_HistLegal.mk) [] (rho0 [⟨.sl, calls1⟩, ⟨(.int .i64), most2⟩, ⟨.sl, order3⟩]) [] h (retK Try.prog [.tmp 6] false .bool Q) (fun _ _ _ _ => False) (retK Try.prog [.tmp 6] false .bool Q) from by kernel_rfl) H)

theorem law4_HistOrder.br {calls1 : Sl} {most2 : Int} {h : Heap} {Q : Bool → Heap → Prop} (H : law4_HistOrder.M (fun x0 h K => CallT Try.prog 9 [Kd.val .sl x0] false .sl h K) (fun x0 x1 h K => CallT Try.prog 20 [Kd.val .sl x0, Kd.val (.int .i64) x1] true (.pair .sl (.pair (.int .i64) .nil)) h K) (fun x0 x1 h K => CallT Try.prog 11 [Kd.val .sl x0, Kd.val .sl x1] true .nil h K) (fun x0 x1 h K => CallT Try.prog 13 [Kd.val .sl x0, Kd.val .sl x1] false .bool h K) (fun x0 h K => CallT Try.prog 14 [Kd.val .sl x0] false .bool h K) (fun x0 x1 h K => CallT Try.prog 21 [Kd.val .sl x0, Kd.val (.int .i64) x1] false (.int .i64) h K) (fun x0 x1 x2 h K => CallT Try.prog 19 [Kd.val .sl x0, Kd.val (.int .i64) x1, Kd.val .sl x2] false .bool h K) calls1 most2 h Q) :
    CallT Try.prog 6 [Kd.val .sl calls1, Kd.val (.int .i64) most2] false .bool h Q :=
  fn_sound (c := weave (Try.f6.body.getD .skip) law4_HistOrder.mk) Try.func6 (by kernel_rfl) Try.ntmps6 (rs := [.tmp 4]) (by kernel_rfl) [⟨.sl, calls1⟩, ⟨(.int .i64), most2⟩] (by kernel_rfl) (by kernel_rfl)
    (Eq.mp (show (law4_HistOrder.M (fun x0 h K => CallT Try.prog 9 [Kd.val .sl x0] false .sl h K) (fun x0 x1 h K => CallT Try.prog 20 [Kd.val .sl x0, Kd.val (.int .i64) x1] true (.pair .sl (.pair (.int .i64) .nil)) h K) (fun x0 x1 h K => CallT Try.prog 11 [Kd.val .sl x0, Kd.val .sl x1] true .nil h K) (fun x0 x1 h K => CallT Try.prog 13 [Kd.val .sl x0, Kd.val .sl x1] false .bool h K) (fun x0 h K => CallT Try.prog 14 [Kd.val .sl x0] false .bool h K) (fun x0 x1 h K => CallT Try.prog 21 [Kd.val .sl x0, Kd.val (.int .i64) x1] false (.int .i64) h K) (fun x0 x1 x2 h K => CallT Try.prog 19 [Kd.val .sl x0, Kd.val (.int .i64) x1, Kd.val .sl x2] false .bool h K) calls1 most2 h Q) = interp Try.prog 80 (weave (Try.f6.body.getD .skip) law4_HistOrder.mk) [] (rho0 [⟨.sl, calls1⟩, ⟨(.int .i64), most2⟩]) [] h (retK Try.prog [.tmp 4] false .bool Q) (fun _ _ _ _ => False) (retK Try.prog [.tmp 4] false .bool Q) from by kernel_rfl) H)

theorem law4_HistKeeps.br {calls1 : Sl} {most2 : Int} {h : Heap} {Q : Bool → Heap → Prop} (H : law4_HistKeeps.M (fun x0 x1 h K => CallT Try.prog 20 [Kd.val .sl x0, Kd.val (.int .i64) x1] true (.pair .sl (.pair (.int .i64) .nil)) h K) calls1 most2 h Q) :
    CallT Try.prog 7 [Kd.val .sl calls1, Kd.val (.int .i64) most2] false .bool h Q :=
  fn_sound (c := weave (Try.f7.body.getD .skip) law4_HistKeeps.mk) Try.func7 (by kernel_rfl) Try.ntmps7 (rs := [.tmp 4]) (by kernel_rfl) [⟨.sl, calls1⟩, ⟨(.int .i64), most2⟩] (by kernel_rfl) (by kernel_rfl)
    (Eq.mp (show (law4_HistKeeps.M (fun x0 x1 h K => CallT Try.prog 20 [Kd.val .sl x0, Kd.val (.int .i64) x1] true (.pair .sl (.pair (.int .i64) .nil)) h K) calls1 most2 h Q) = interp Try.prog 111 (weave (Try.f7.body.getD .skip) law4_HistKeeps.mk) [] (rho0 [⟨.sl, calls1⟩, ⟨(.int .i64), most2⟩]) [] h (retK Try.prog [.tmp 4] false .bool Q) (fun _ _ _ _ => False) (retK Try.prog [.tmp 4] false .bool Q) from by kernel_rfl) H)

theorem law4_moved.br {calls1 : Sl} {h : Heap} {Q : Sl → Heap → Prop} (H : law4_moved.M  calls1 h Q) :
    CallT Try.prog 9 [Kd.val .sl calls1] false .sl h Q :=
  fn_sound (c := weave (Try.f9.body.getD .skip) law4_moved.mk) Try.func9 (by kernel_rfl) Try.ntmps9 (rs := [.tmp 2]) (by kernel_rfl) [⟨.sl, calls1⟩] (by kernel_rfl) (by kernel_rfl)
    (Eq.mp (show (law4_moved.M  calls1 h Q) = interp Try.prog 36 (weave (Try.f9.body.getD .skip) law4_moved.mk) [] (rho0 [⟨.sl, calls1⟩]) [] h (retK Try.prog [.tmp 2] false .sl Q) (fun _ _ _ _ => False) (retK Try.prog [.tmp 2] false .sl Q) from by kernel_rfl) H)

theorem hist_Cut.br {calls1 : Sl} {pick2 : Int} {h : Heap} {Q : Sl → Heap → Prop} (H : hist_Cut.M  calls1 pick2 h Q) :
    CallT Try.prog 10 [Kd.val .sl calls1, Kd.val (.int .i64) pick2] false .sl h Q :=
  fn_sound (c := weave (Try.f10.body.getD .skip) hist_Cut.mk) Try.func10 (by kernel_rfl) Try.ntmps10 (rs := [.tmp 4]) (by kernel_rfl) [⟨.sl, calls1⟩, ⟨(.int .i64), pick2⟩] (by kernel_rfl) (by kernel_rfl)
    (Eq.mp (show (hist_Cut.M  calls1 pick2 h Q) = interp Try.prog 31 (weave (Try.f10.body.getD .skip) hist_Cut.mk) [] (rho0 [⟨.sl, calls1⟩, ⟨(.int .i64), pick2⟩]) [] h (retK Try.prog [.tmp 4] false .sl Q) (fun _ _ _ _ => False) (retK Try.prog [.tmp 4] false .sl Q) from by kernel_rfl) H)

theorem law4_back.br {l1 : Sl} {calls2 : Sl} {h : Heap} {Q : Unit → Heap → Prop} (H : law4_back.M  l1 calls2 h Q) :
    CallT Try.prog 11 [Kd.val .sl l1, Kd.val .sl calls2] true .nil h Q :=
  fn_sound (c := weave (Try.f11.body.getD .skip) law4_back.mk) Try.func11 (by kernel_rfl) Try.ntmps11 (rs := []) (by kernel_rfl) [⟨.sl, l1⟩, ⟨.sl, calls2⟩] (by kernel_rfl) (by kernel_rfl)
    (Eq.mp (show (law4_back.M  l1 calls2 h Q) = interp Try.prog 18 (weave (Try.f11.body.getD .skip) law4_back.mk) [] (rho0 [⟨.sl, l1⟩, ⟨.sl, calls2⟩]) [] h (retK Try.prog [] true .nil Q) (fun _ _ _ _ => False) (retK Try.prog [] true .nil Q) from by kernel_rfl) H)

theorem ref4_Cut.br {calls1 : Sl} {pick2 : Int} {h : Heap} {Q : Sl → Heap → Prop} (H : ref4_Cut.M  calls1 pick2 h Q) :
    CallT Try.prog 12 [Kd.val .sl calls1, Kd.val (.int .i64) pick2] false .sl h Q :=
  fn_sound (c := weave (Try.f12.body.getD .skip) ref4_Cut.mk) Try.func12 (by kernel_rfl) Try.ntmps12 (rs := [.tmp 4]) (by kernel_rfl) [⟨.sl, calls1⟩, ⟨(.int .i64), pick2⟩] (by kernel_rfl) (by kernel_rfl)
    (Eq.mp (show (ref4_Cut.M  calls1 pick2 h Q) = interp Try.prog 34 (weave (Try.f12.body.getD .skip) ref4_Cut.mk) [] (rho0 [⟨.sl, calls1⟩, ⟨(.int .i64), pick2⟩]) [] h (retK Try.prog [.tmp 4] false .sl Q) (fun _ _ _ _ => False) (retK Try.prog [.tmp 4] false .sl Q) from by kernel_rfl) H)

theorem law4_same.br {a1 : Sl} {b2 : Sl} {h : Heap} {Q : Bool → Heap → Prop} (H : law4_same.M  a1 b2 h Q) :
    CallT Try.prog 13 [Kd.val .sl a1, Kd.val .sl b2] false .bool h Q :=
  fn_sound (c := weave (Try.f13.body.getD .skip) law4_same.mk) Try.func13 (by kernel_rfl) Try.ntmps13 (rs := [.tmp 4]) (by kernel_rfl) [⟨.sl, a1⟩, ⟨.sl, b2⟩] (by kernel_rfl) (by kernel_rfl)
    (Eq.mp (show (law4_same.M  a1 b2 h Q) = interp Try.prog 26 (weave (Try.f13.body.getD .skip) law4_same.mk) [] (rho0 [⟨.sl, a1⟩, ⟨.sl, b2⟩]) [] h (retK Try.prog [.tmp 4] false .bool Q) (fun _ _ _ _ => False) (retK Try.prog [.tmp 4] false .bool Q) from by kernel_rfl) H)

theorem law4_marked.br {l1 : Sl} {h : Heap} {Q : Bool → Heap → Prop} (H : law4_marked.M  l1 h Q) :
    CallT Try.prog 14 [Kd.val .sl l1] false .bool h Q :=
  fn_sound (c := weave (Try.f14.body.getD .skip) law4_marked.mk) Try.func14 (by kernel_rfl) Try.ntmps14 (rs := [.tmp 2]) (by kernel_rfl) [⟨.sl, l1⟩] (by kernel_rfl) (by kernel_rfl)
    (Eq.mp (show (law4_marked.M  l1 h Q) = interp Try.prog 16 (weave (Try.f14.body.getD .skip) law4_marked.mk) [] (rho0 [⟨.sl, l1⟩]) [] h (retK Try.prog [.tmp 2] false .bool Q) (fun _ _ _ _ => False) (retK Try.prog [.tmp 2] false .bool Q) from by kernel_rfl) H)

theorem hist_Serial.br {todos1 : Sl} {most2 : Int} {h : Heap} {Q : (Sl × (Sl × (Int × Unit))) → Heap → Prop} (H : hist_Serial.M (fun x0 h K => CallT Try.prog 24 [Kd.val (.int .i64) x0] false .bool h K) (fun x0 x1 x2 h K => CallT Try.prog 25 [Kd.val .sl x0, Kd.val kapiCall x1, Kd.val (.int .i64) x2] true (.pair .sl (.pair .bool .nil)) h K) (fun x0 h K => CallT Try.prog 26 [Kd.val .sl x0] false .sl h K) todos1 most2 h Q) :
    CallT Try.prog 15 [Kd.val .sl todos1, Kd.val (.int .i64) most2] true (.pair .sl (.pair .sl (.pair (.int .i64) .nil))) h Q :=
  fn_sound (c := weave (Try.f15.body.getD .skip) hist_Serial.mk) Try.func15 (by kernel_rfl) Try.ntmps15 (rs := [.tmp 4, .tmp 5, .tmp 6]) (by kernel_rfl) [⟨.sl, todos1⟩, ⟨(.int .i64), most2⟩] (by kernel_rfl) (by kernel_rfl)
    (Eq.mp (show (hist_Serial.M (fun x0 h K => CallT Try.prog 24 [Kd.val (.int .i64) x0] false .bool h K) (fun x0 x1 x2 h K => CallT Try.prog 25 [Kd.val .sl x0, Kd.val kapiCall x1, Kd.val (.int .i64) x2] true (.pair .sl (.pair .bool .nil)) h K) (fun x0 h K => CallT Try.prog 26 [Kd.val .sl x0] false .sl h K) todos1 most2 h Q) = interp Try.prog 106 (weave (Try.f15.body.getD .skip) hist_Serial.mk) [] (rho0 [⟨.sl, todos1⟩, ⟨(.int .i64), most2⟩]) [] h (retK Try.prog [.tmp 4, .tmp 5, .tmp 6] true (.pair .sl (.pair .sl (.pair (.int .i64) .nil))) Q) (fun _ _ _ _ => False) (retK Try.prog [.tmp 4, .tmp 5, .tmp 6] true (.pair .sl (.pair .sl (.pair (.int .i64) .nil))) Q) from by kernel_rfl) H)

theorem ref4_Serial.br {todos1 : Sl} {most2 : Int} {h : Heap} {Q : (Sl × (Sl × (Int × Unit))) → Heap → Prop} (H : ref4_Serial.M (fun x0 x1 x2 h K => CallT Try.prog 27 [Kd.val .sl x0, Kd.val kapiTodo x1, Kd.val (.int .i64) x2] false kapiCall h K) (fun x0 x1 x2 h K => CallT Try.prog 28 [Kd.val .sl x0, Kd.val kapiCall x1, Kd.val (.int .i64) x2] true (.pair .sl (.pair .bool .nil)) h K) todos1 most2 h Q) :
    CallT Try.prog 16 [Kd.val .sl todos1, Kd.val (.int .i64) most2] true (.pair .sl (.pair .sl (.pair (.int .i64) .nil))) h Q :=
  fn_sound (c := weave (Try.f16.body.getD .skip) ref4_Serial.mk) Try.func16 (by kernel_rfl) Try.ntmps16 (rs := [.tmp 4, .tmp 5, .tmp 6]) (by kernel_rfl) [⟨.sl, todos1⟩, ⟨(.int .i64), most2⟩] (by kernel_rfl) (by kernel_rfl)
    (Eq.mp (show (ref4_Serial.M (fun x0 x1 x2 h K => CallT Try.prog 27 [Kd.val .sl x0, Kd.val kapiTodo x1, Kd.val (.int .i64) x2] false kapiCall h K) (fun x0 x1 x2 h K => CallT Try.prog 28 [Kd.val .sl x0, Kd.val kapiCall x1, Kd.val (.int .i64) x2] true (.pair .sl (.pair .bool .nil)) h K) todos1 most2 h Q) = interp Try.prog 71 (weave (Try.f16.body.getD .skip) ref4_Serial.mk) [] (rho0 [⟨.sl, todos1⟩, ⟨(.int .i64), most2⟩]) [] h (retK Try.prog [.tmp 4, .tmp 5, .tmp 6] true (.pair .sl (.pair .sl (.pair (.int .i64) .nil))) Q) (fun _ _ _ _ => False) (retK Try.prog [.tmp 4, .tmp 5, .tmp 6] true (.pair .sl (.pair .sl (.pair (.int .i64) .nil))) Q) from by kernel_rfl) H)

theorem law4_sameInts.br {a1 : Sl} {b2 : Sl} {h : Heap} {Q : Bool → Heap → Prop} (H : law4_sameInts.M  a1 b2 h Q) :
    CallT Try.prog 17 [Kd.val .sl a1, Kd.val .sl b2] false .bool h Q :=
  fn_sound (c := weave (Try.f17.body.getD .skip) law4_sameInts.mk) Try.func17 (by kernel_rfl) Try.ntmps17 (rs := [.tmp 4]) (by kernel_rfl) [⟨.sl, a1⟩, ⟨.sl, b2⟩] (by kernel_rfl) (by kernel_rfl)
    (Eq.mp (show (law4_sameInts.M  a1 b2 h Q) = interp Try.prog 26 (weave (Try.f17.body.getD .skip) law4_sameInts.mk) [] (rho0 [⟨.sl, a1⟩, ⟨.sl, b2⟩]) [] h (retK Try.prog [.tmp 4] false .bool Q) (fun _ _ _ _ => False) (retK Try.prog [.tmp 4] false .bool Q) from by kernel_rfl) H)

theorem hist_Legal.br {calls1 : Sl} {most2 : Int} {order3 : Sl} {h : Heap} {Q : Bool → Heap → Prop} (H : hist_Legal.M (fun x0 h K => CallT Try.prog 24 [Kd.val (.int .i64) x0] false .bool h K) (fun x0 h K => CallT Try.prog 29 [Kd.val .sl x0] false .bool h K) (fun x0 x1 x2 h K => CallT Try.prog 25 [Kd.val .sl x0, Kd.val kapiCall x1, Kd.val (.int .i64) x2] true (.pair .sl (.pair .bool .nil)) h K) calls1 most2 order3 h Q) :
    CallT Try.prog 18 [Kd.val .sl calls1, Kd.val (.int .i64) most2, Kd.val .sl order3] false .bool h Q :=
  fn_sound (c := weave (Try.f18.body.getD .skip) hist_Legal.mk) Try.func18 (by kernel_rfl) Try.ntmps18 (rs := [.tmp 6]) (by kernel_rfl) [⟨.sl, calls1⟩, ⟨(.int .i64), most2⟩, ⟨.sl, order3⟩] (by kernel_rfl) (by kernel_rfl)
    (Eq.mp (show (hist_Legal.M (fun x0 h K => CallT Try.prog 24 [Kd.val (.int .i64) x0] false .bool h K) (fun x0 h K => CallT Try.prog 29 [Kd.val .sl x0] false .bool h K) (fun x0 x1 x2 h K => CallT Try.prog 25 [Kd.val .sl x0, Kd.val kapiCall x1, Kd.val (.int .i64) x2] true (.pair .sl (.pair .bool .nil)) h K) calls1 most2 order3 h Q) = interp Try.prog 119 (weave (Try.f18.body.getD .skip) hist_Legal.mk) [] (rho0 [⟨.sl, calls1⟩, ⟨(.int .i64), most2⟩, ⟨.sl, order3⟩]) [] h (retK Try.prog [.tmp 6] false .bool Q) (fun _ _ _ _ => False) (retK Try.prog [.tmp 6] false .bool Q) from by kernel_rfl) H)

theorem ref4_Legal.br {calls1 : Sl} {most2 : Int} {order3 : Sl} {h : Heap} {Q : Bool → Heap → Prop} (H : ref4_Legal.M (fun x0 x1 h K => CallT Try.prog 30 [Kd.val .sl x0, Kd.val (.int .i64) x1] false (.int .i64) h K) (fun x0 x1 x2 h K => CallT Try.prog 31 [Kd.val .sl x0, Kd.val (.int .i64) x1, Kd.val .sl x2] true (.pair .sl (.pair .bool .nil)) h K) calls1 most2 order3 h Q) :
    CallT Try.prog 19 [Kd.val .sl calls1, Kd.val (.int .i64) most2, Kd.val .sl order3] false .bool h Q :=
  fn_sound (c := weave (Try.f19.body.getD .skip) ref4_Legal.mk) Try.func19 (by kernel_rfl) Try.ntmps19 (rs := [.tmp 6]) (by kernel_rfl) [⟨.sl, calls1⟩, ⟨(.int .i64), most2⟩, ⟨.sl, order3⟩] (by kernel_rfl) (by kernel_rfl)
    (Eq.mp (show (ref4_Legal.M (fun x0 x1 h K => CallT Try.prog 30 [Kd.val .sl x0, Kd.val (.int .i64) x1] false (.int .i64) h K) (fun x0 x1 x2 h K => CallT Try.prog 31 [Kd.val .sl x0, Kd.val (.int .i64) x1, Kd.val .sl x2] true (.pair .sl (.pair .bool .nil)) h K) calls1 most2 order3 h Q) = interp Try.prog 21 (weave (Try.f19.body.getD .skip) ref4_Legal.mk) [] (rho0 [⟨.sl, calls1⟩, ⟨(.int .i64), most2⟩, ⟨.sl, order3⟩]) [] h (retK Try.prog [.tmp 6] false .bool Q) (fun _ _ _ _ => False) (retK Try.prog [.tmp 6] false .bool Q) from by kernel_rfl) H)

theorem ref4_Refused.br {calls1 : Sl} {most2 : Int} {h : Heap} {Q : Int → Heap → Prop} (H : ref4_Refused.M (fun x0 x1 h K => CallT Try.prog 30 [Kd.val .sl x0, Kd.val (.int .i64) x1] false (.int .i64) h K) (fun x0 x1 h K => CallT Try.prog 34 [Kd.val .sl x0, Kd.val (.int .i64) x1] false .bool h K) calls1 most2 h Q) :
    CallT Try.prog 21 [Kd.val .sl calls1, Kd.val (.int .i64) most2] false (.int .i64) h Q :=
  fn_sound (c := weave (Try.f21.body.getD .skip) ref4_Refused.mk) Try.func21 (by kernel_rfl) Try.ntmps21 (rs := [.tmp 4]) (by kernel_rfl) [⟨.sl, calls1⟩, ⟨(.int .i64), most2⟩] (by kernel_rfl) (by kernel_rfl)
    (Eq.mp (show (ref4_Refused.M (fun x0 x1 h K => CallT Try.prog 30 [Kd.val .sl x0, Kd.val (.int .i64) x1] false (.int .i64) h K) (fun x0 x1 h K => CallT Try.prog 34 [Kd.val .sl x0, Kd.val (.int .i64) x1] false .bool h K) calls1 most2 h Q) = interp Try.prog 16 (weave (Try.f21.body.getD .skip) ref4_Refused.mk) [] (rho0 [⟨.sl, calls1⟩, ⟨(.int .i64), most2⟩]) [] h (retK Try.prog [.tmp 4] false (.int .i64) Q) (fun _ _ _ _ => False) (retK Try.prog [.tmp 4] false (.int .i64) Q) from by kernel_rfl) H)

theorem law4_mod.br {x1 : Int} {n2 : Int} {h : Heap} {Q : Int → Heap → Prop} (H : law4_mod.M  x1 n2 h Q) :
    CallT Try.prog 22 [Kd.val (.int .i64) x1, Kd.val (.int .i64) n2] false (.int .i64) h Q :=
  fn_sound (c := weave (Try.f22.body.getD .skip) law4_mod.mk) Try.func22 (by kernel_rfl) Try.ntmps22 (rs := [.tmp 4]) (by kernel_rfl) [⟨(.int .i64), x1⟩, ⟨(.int .i64), n2⟩] (by kernel_rfl) (by kernel_rfl)
    (Eq.mp (show (law4_mod.M  x1 n2 h Q) = interp Try.prog 15 (weave (Try.f22.body.getD .skip) law4_mod.mk) [] (rho0 [⟨(.int .i64), x1⟩, ⟨(.int .i64), n2⟩]) [] h (retK Try.prog [.tmp 4] false (.int .i64) Q) (fun _ _ _ _ => False) (retK Try.prog [.tmp 4] false (.int .i64) Q) from by kernel_rfl) H)

theorem hist_goodMost.br {most1 : Int} {h : Heap} {Q : Bool → Heap → Prop} (H : hist_goodMost.M  most1 h Q) :
    CallT Try.prog 24 [Kd.val (.int .i64) most1] false .bool h Q :=
  fn_sound (c := weave (Try.f24.body.getD .skip) hist_goodMost.mk) Try.func24 (by kernel_rfl) Try.ntmps24 (rs := [.tmp 2]) (by kernel_rfl) [⟨(.int .i64), most1⟩] (by kernel_rfl) (by kernel_rfl)
    (Eq.mp (show (hist_goodMost.M  most1 h Q) = interp Try.prog 9 (weave (Try.f24.body.getD .skip) hist_goodMost.mk) [] (rho0 [⟨(.int .i64), most1⟩]) [] h (retK Try.prog [.tmp 2] false .bool Q) (fun _ _ _ _ => False) (retK Try.prog [.tmp 2] false .bool Q) from by kernel_rfl) H)

theorem hist_row_does.br {r1 : Sl} {c2 : Den kapiCall} {most3 : Int} {h : Heap} {Q : (Sl × (Bool × Unit)) → Heap → Prop} (H : hist_row_does.M  r1 c2 most3 h Q) :
    CallT Try.prog 25 [Kd.val .sl r1, Kd.val kapiCall c2, Kd.val (.int .i64) most3] true (.pair .sl (.pair .bool .nil)) h Q :=
  fn_sound (c := weave (Try.f25.body.getD .skip) hist_row_does.mk) Try.func25 (by kernel_rfl) Try.ntmps25 (rs := [.tmp 6, .tmp 7]) (by kernel_rfl) [⟨.sl, r1⟩, ⟨kapiCall, c2⟩, ⟨(.int .i64), most3⟩] (by kernel_rfl) (by kernel_rfl)
    (Eq.mp (show (hist_row_does.M  r1 c2 most3 h Q) = interp Try.prog 99 (weave (Try.f25.body.getD .skip) hist_row_does.mk) [] (rho0 [⟨.sl, r1⟩, ⟨kapiCall, c2⟩, ⟨(.int .i64), most3⟩]) [] h (retK Try.prog [.tmp 6, .tmp 7] true (.pair .sl (.pair .bool .nil)) Q) (fun _ _ _ _ => False) (retK Try.prog [.tmp 6, .tmp 7] true (.pair .sl (.pair .bool .nil)) Q) from by kernel_rfl) H)

theorem slices_Clone_int64_int64.br {s1 : Sl} {h : Heap} {Q : Sl → Heap → Prop} (H : slices_Clone_int64_int64.M  s1 h Q) :
    CallT Try.prog 26 [Kd.val .sl s1] false .sl h Q :=
  fn_sound (c := weave (Try.f26.body.getD .skip) slices_Clone_int64_int64.mk) Try.func26 (by kernel_rfl) Try.ntmps26 (rs := [.tmp 2]) (by kernel_rfl) [⟨.sl, s1⟩] (by kernel_rfl) (by kernel_rfl)
    (Eq.mp (show (slices_Clone_int64_int64.M  s1 h Q) = interp Try.prog 8 (weave (Try.f26.body.getD .skip) slices_Clone_int64_int64.mk) [] (rho0 [⟨.sl, s1⟩]) [] h (retK Try.prog [.tmp 2] false .sl Q) (fun _ _ _ _ => False) (retK Try.prog [.tmp 2] false .sl Q) from by kernel_rfl) H)

theorem ref4_asked.br {row1 : Sl} {t2 : Den kapiTodo} {most3 : Int} {h : Heap} {Q : Den kapiCall → Heap → Prop} (H : ref4_asked.M  row1 t2 most3 h Q) :
    CallT Try.prog 27 [Kd.val .sl row1, Kd.val kapiTodo t2, Kd.val (.int .i64) most3] false kapiCall h Q :=
  fn_sound (c := weave (Try.f27.body.getD .skip) ref4_asked.mk) Try.func27 (by kernel_rfl) Try.ntmps27 (rs := [.cell 6 28]) (by kernel_rfl) [⟨.sl, row1⟩, ⟨kapiTodo, t2⟩, ⟨(.int .i64), most3⟩] (by kernel_rfl) (by kernel_rfl)
    (Eq.mp (show (ref4_asked.M  row1 t2 most3 h Q) = interp Try.prog 58 (weave (Try.f27.body.getD .skip) ref4_asked.mk) [] (rho0 [⟨.sl, row1⟩, ⟨kapiTodo, t2⟩, ⟨(.int .i64), most3⟩]) [] h (retK Try.prog [.cell 6 28] false kapiCall Q) (fun _ _ _ _ => False) (retK Try.prog [.cell 6 28] false kapiCall Q) from by kernel_rfl) H)

theorem ref4_Do.br {row1 : Sl} {c2 : Den kapiCall} {most3 : Int} {h : Heap} {Q : (Sl × (Bool × Unit)) → Heap → Prop} (H : ref4_Do.M  row1 c2 most3 h Q) :
    CallT Try.prog 28 [Kd.val .sl row1, Kd.val kapiCall c2, Kd.val (.int .i64) most3] true (.pair .sl (.pair .bool .nil)) h Q :=
  fn_sound (c := weave (Try.f28.body.getD .skip) ref4_Do.mk) Try.func28 (by kernel_rfl) Try.ntmps28 (rs := [.tmp 6, .tmp 7]) (by kernel_rfl) [⟨.sl, row1⟩, ⟨kapiCall, c2⟩, ⟨(.int .i64), most3⟩] (by kernel_rfl) (by kernel_rfl)
    (Eq.mp (show (ref4_Do.M  row1 c2 most3 h Q) = interp Try.prog 80 (weave (Try.f28.body.getD .skip) ref4_Do.mk) [] (rho0 [⟨.sl, row1⟩, ⟨kapiCall, c2⟩, ⟨(.int .i64), most3⟩]) [] h (retK Try.prog [.tmp 6, .tmp 7] true (.pair .sl (.pair .bool .nil)) Q) (fun _ _ _ _ => False) (retK Try.prog [.tmp 6, .tmp 7] true (.pair .sl (.pair .bool .nil)) Q) from by kernel_rfl) H)

theorem hist_history.br {calls1 : Sl} {h : Heap} {Q : Bool → Heap → Prop} (H : hist_history.M (fun x0 h K => CallT Try.prog 35 [Kd.val kapiCall x0] false .bool h K) calls1 h Q) :
    CallT Try.prog 29 [Kd.val .sl calls1] false .bool h Q :=
  fn_sound (c := weave (Try.f29.body.getD .skip) hist_history.mk) Try.func29 (by kernel_rfl) Try.ntmps29 (rs := [.tmp 2]) (by kernel_rfl) [⟨.sl, calls1⟩] (by kernel_rfl) (by kernel_rfl)
    (Eq.mp (show (hist_history.M (fun x0 h K => CallT Try.prog 35 [Kd.val kapiCall x0] false .bool h K) calls1 h Q) = interp Try.prog 53 (weave (Try.f29.body.getD .skip) hist_history.mk) [] (rho0 [⟨.sl, calls1⟩]) [] h (retK Try.prog [.tmp 2] false .bool Q) (fun _ _ _ _ => False) (retK Try.prog [.tmp 2] false .bool Q) from by kernel_rfl) H)

theorem ref4_Bad.br {calls1 : Sl} {most2 : Int} {h : Heap} {Q : Int → Heap → Prop} (H : ref4_Bad.M (fun x0 h K => CallT Try.prog 36 [Kd.val .sl x0] false .bool h K) calls1 most2 h Q) :
    CallT Try.prog 30 [Kd.val .sl calls1, Kd.val (.int .i64) most2] false (.int .i64) h Q :=
  fn_sound (c := weave (Try.f30.body.getD .skip) ref4_Bad.mk) Try.func30 (by kernel_rfl) Try.ntmps30 (rs := [.tmp 4]) (by kernel_rfl) [⟨.sl, calls1⟩, ⟨(.int .i64), most2⟩] (by kernel_rfl) (by kernel_rfl)
    (Eq.mp (show (ref4_Bad.M (fun x0 h K => CallT Try.prog 36 [Kd.val .sl x0] false .bool h K) calls1 most2 h Q) = interp Try.prog 17 (weave (Try.f30.body.getD .skip) ref4_Bad.mk) [] (rho0 [⟨.sl, calls1⟩, ⟨(.int .i64), most2⟩]) [] h (retK Try.prog [.tmp 4] false (.int .i64) Q) (fun _ _ _ _ => False) (retK Try.prog [.tmp 4] false (.int .i64) Q) from by kernel_rfl) H)

theorem ref4_Replay.br {calls1 : Sl} {most2 : Int} {order3 : Sl} {h : Heap} {Q : (Sl × (Bool × Unit)) → Heap → Prop} (H : ref4_Replay.M (fun x0 x1 h K => CallT Try.prog 37 [Kd.val kapiCall x0, Kd.val kapiCall x1] false .bool h K) (fun x0 x1 x2 h K => CallT Try.prog 28 [Kd.val .sl x0, Kd.val kapiCall x1, Kd.val (.int .i64) x2] true (.pair .sl (.pair .bool .nil)) h K) calls1 most2 order3 h Q) :
    CallT Try.prog 31 [Kd.val .sl calls1, Kd.val (.int .i64) most2, Kd.val .sl order3] true (.pair .sl (.pair .bool .nil)) h Q :=
  fn_sound (c := weave (Try.f31.body.getD .skip) ref4_Replay.mk) Try.func31 (by kernel_rfl) Try.ntmps31 (rs := [.tmp 6, .tmp 7]) (by kernel_rfl) [⟨.sl, calls1⟩, ⟨(.int .i64), most2⟩, ⟨.sl, order3⟩] (by kernel_rfl) (by kernel_rfl)
    (Eq.mp (show (ref4_Replay.M (fun x0 x1 h K => CallT Try.prog 37 [Kd.val kapiCall x0, Kd.val kapiCall x1] false .bool h K) (fun x0 x1 x2 h K => CallT Try.prog 28 [Kd.val .sl x0, Kd.val kapiCall x1, Kd.val (.int .i64) x2] true (.pair .sl (.pair .bool .nil)) h K) calls1 most2 order3 h Q) = interp Try.prog 96 (weave (Try.f31.body.getD .skip) ref4_Replay.mk) [] (rho0 [⟨.sl, calls1⟩, ⟨(.int .i64), most2⟩, ⟨.sl, order3⟩]) [] h (retK Try.prog [.tmp 6, .tmp 7] true (.pair .sl (.pair .bool .nil)) Q) (fun _ _ _ _ => False) (retK Try.prog [.tmp 6, .tmp 7] true (.pair .sl (.pair .bool .nil)) Q) from by kernel_rfl) H)

theorem slices_Clone_int_int.br {s1 : Sl} {h : Heap} {Q : Sl → Heap → Prop} (H : slices_Clone_int_int.M  s1 h Q) :
    CallT Try.prog 33 [Kd.val .sl s1] false .sl h Q :=
  fn_sound (c := weave (Try.f33.body.getD .skip) slices_Clone_int_int.mk) Try.func33 (by kernel_rfl) Try.ntmps33 (rs := [.tmp 2]) (by kernel_rfl) [⟨.sl, s1⟩] (by kernel_rfl) (by kernel_rfl)
    (Eq.mp (show (slices_Clone_int_int.M  s1 h Q) = interp Try.prog 8 (weave (Try.f33.body.getD .skip) slices_Clone_int_int.mk) [] (rho0 [⟨.sl, s1⟩]) [] h (retK Try.prog [.tmp 2] false .sl Q) (fun _ _ _ _ => False) (retK Try.prog [.tmp 2] false .sl Q) from by kernel_rfl) H)

theorem ref4_Has.br {calls1 : Sl} {most2 : Int} {h : Heap} {Q : Bool → Heap → Prop} (H : ref4_Has.M (fun x0 x1 h K => CallT Try.prog 40 [Kd.val .sl x0, Kd.val kref4State x1] false .bool h K) (fun x0 x1 x2 x3 x4 h K => CallT Try.prog 41 [Kd.val .sl x0, Kd.val (.int .i64) x1, Kd.val kref4State x2, Kd.val (.int .i64) x3, Kd.val .sl x4] false .sl h K) calls1 most2 h Q) :
    CallT Try.prog 34 [Kd.val .sl calls1, Kd.val (.int .i64) most2] false .bool h Q :=
  fn_sound (c := weave (Try.f34.body.getD .skip) ref4_Has.mk) Try.func34 (by kernel_rfl) Try.ntmps34 (rs := [.tmp 4]) (by kernel_rfl) [⟨.sl, calls1⟩, ⟨(.int .i64), most2⟩] (by kernel_rfl) (by kernel_rfl)
    (Eq.mp (show (ref4_Has.M (fun x0 x1 h K => CallT Try.prog 40 [Kd.val .sl x0, Kd.val kref4State x1] false .bool h K) (fun x0 x1 x2 x3 x4 h K => CallT Try.prog 41 [Kd.val .sl x0, Kd.val (.int .i64) x1, Kd.val kref4State x2, Kd.val (.int .i64) x3, Kd.val .sl x4] false .sl h K) calls1 most2 h Q) = interp Try.prog 40 (weave (Try.f34.body.getD .skip) ref4_Has.mk) [] (rho0 [⟨.sl, calls1⟩, ⟨(.int .i64), most2⟩]) [] h (retK Try.prog [.tmp 4] false .bool Q) (fun _ _ _ _ => False) (retK Try.prog [.tmp 4] false .bool Q) from by kernel_rfl) H)

theorem hist_sound.br {c1 : Den kapiCall} {h : Heap} {Q : Bool → Heap → Prop} (H : hist_sound.M (fun x0 x1 h K => CallT Try.prog 42 [Kd.val (.int .i64) x0, Kd.val (.int .i64) x1] false .bool h K) c1 h Q) :
    CallT Try.prog 35 [Kd.val kapiCall c1] false .bool h Q :=
  fn_sound (c := weave (Try.f35.body.getD .skip) hist_sound.mk) Try.func35 (by kernel_rfl) Try.ntmps35 (rs := [.tmp 2]) (by kernel_rfl) [⟨kapiCall, c1⟩] (by kernel_rfl) (by kernel_rfl)
    (Eq.mp (show (hist_sound.M (fun x0 x1 h K => CallT Try.prog 42 [Kd.val (.int .i64) x0, Kd.val (.int .i64) x1] false .bool h K) c1 h Q) = interp Try.prog 55 (weave (Try.f35.body.getD .skip) hist_sound.mk) [] (rho0 [⟨kapiCall, c1⟩]) [] h (retK Try.prog [.tmp 2] false .bool Q) (fun _ _ _ _ => False) (retK Try.prog [.tmp 2] false .bool Q) from by kernel_rfl) H)

theorem ref4_History.br {calls1 : Sl} {h : Heap} {Q : Bool → Heap → Prop} (H : ref4_History.M (fun x0 h K => CallT Try.prog 43 [Kd.val kapiCall x0] false .bool h K) calls1 h Q) :
    CallT Try.prog 36 [Kd.val .sl calls1] false .bool h Q :=
  fn_sound (c := weave (Try.f36.body.getD .skip) ref4_History.mk) Try.func36 (by kernel_rfl) Try.ntmps36 (rs := [.tmp 2]) (by kernel_rfl) [⟨.sl, calls1⟩] (by kernel_rfl) (by kernel_rfl)
    (Eq.mp (show (ref4_History.M (fun x0 h K => CallT Try.prog 43 [Kd.val kapiCall x0] false .bool h K) calls1 h Q) = interp Try.prog 54 (weave (Try.f36.body.getD .skip) ref4_History.mk) [] (rho0 [⟨.sl, calls1⟩]) [] h (retK Try.prog [.tmp 2] false .bool Q) (fun _ _ _ _ => False) (retK Try.prog [.tmp 2] false .bool Q) from by kernel_rfl) H)

theorem ref4_ahead.br {x1 : Den kapiCall} {y2 : Den kapiCall} {h : Heap} {Q : Bool → Heap → Prop} (H : ref4_ahead.M  x1 y2 h Q) :
    CallT Try.prog 37 [Kd.val kapiCall x1, Kd.val kapiCall y2] false .bool h Q :=
  fn_sound (c := weave (Try.f37.body.getD .skip) ref4_ahead.mk) Try.func37 (by kernel_rfl) Try.ntmps37 (rs := [.tmp 4]) (by kernel_rfl) [⟨kapiCall, x1⟩, ⟨kapiCall, y2⟩] (by kernel_rfl) (by kernel_rfl)
    (Eq.mp (show (ref4_ahead.M  x1 y2 h Q) = interp Try.prog 15 (weave (Try.f37.body.getD .skip) ref4_ahead.mk) [] (rho0 [⟨kapiCall, x1⟩, ⟨kapiCall, y2⟩]) [] h (retK Try.prog [.tmp 4] false .bool Q) (fun _ _ _ _ => False) (retK Try.prog [.tmp 4] false .bool Q) from by kernel_rfl) H)

theorem hist_search_done.br {s1 : Option Addr} {taken2 : (Fin 4 → Int)} {h : Heap} {Q : Bool → Heap → Prop} (H : hist_search_done.M  s1 taken2 h Q) :
    CallT Try.prog 38 [Kd.val .ptr s1, Kd.val (.arr 4 (.int .i64)) taken2] false .bool h Q :=
  fn_sound (c := weave (Try.f38.body.getD .skip) hist_search_done.mk) Try.func38 (by kernel_rfl) Try.ntmps38 (rs := [.tmp 4]) (by kernel_rfl) [⟨.ptr, s1⟩, ⟨(.arr 4 (.int .i64)), taken2⟩] (by kernel_rfl) (by kernel_rfl)
    (Eq.mp (show (hist_search_done.M  s1 taken2 h Q) = interp Try.prog 38 (weave (Try.f38.body.getD .skip) hist_search_done.mk) [] (rho0 [⟨.ptr, s1⟩, ⟨(.arr 4 (.int .i64)), taken2⟩]) [] h (retK Try.prog [.tmp 4] false .bool Q) (fun _ _ _ _ => False) (retK Try.prog [.tmp 4] false .bool Q) from by kernel_rfl) H)

theorem hist_search_waits.br {s1 : Option Addr} {taken2 : (Fin 4 → Int)} {c3 : Den kapiCall} {h : Heap} {Q : Bool → Heap → Prop} (H : hist_search_waits.M  s1 taken2 c3 h Q) :
    CallT Try.prog 39 [Kd.val .ptr s1, Kd.val (.arr 4 (.int .i64)) taken2, Kd.val kapiCall c3] false .bool h Q :=
  fn_sound (c := weave (Try.f39.body.getD .skip) hist_search_waits.mk) Try.func39 (by kernel_rfl) Try.ntmps39 (rs := [.tmp 6]) (by kernel_rfl) [⟨.ptr, s1⟩, ⟨(.arr 4 (.int .i64)), taken2⟩, ⟨kapiCall, c3⟩] (by kernel_rfl) (by kernel_rfl)
    (Eq.mp (show (hist_search_waits.M  s1 taken2 c3 h Q) = interp Try.prog 49 (weave (Try.f39.body.getD .skip) hist_search_waits.mk) [] (rho0 [⟨.ptr, s1⟩, ⟨(.arr 4 (.int .i64)), taken2⟩, ⟨kapiCall, c3⟩]) [] h (retK Try.prog [.tmp 6] false .bool Q) (fun _ _ _ _ => False) (retK Try.prog [.tmp 6] false .bool Q) from by kernel_rfl) H)

theorem ref4_over.br {calls1 : Sl} {s2 : Den kref4State} {h : Heap} {Q : Bool → Heap → Prop} (H : ref4_over.M (fun x0 x1 x2 h K => CallT Try.prog 44 [Kd.val .sl x0, Kd.val (.int .i64) x1, Kd.val (.int .i64) x2] false (.int .i64) h K) calls1 s2 h Q) :
    CallT Try.prog 40 [Kd.val .sl calls1, Kd.val kref4State s2] false .bool h Q :=
  fn_sound (c := weave (Try.f40.body.getD .skip) ref4_over.mk) Try.func40 (by kernel_rfl) Try.ntmps40 (rs := [.tmp 4]) (by kernel_rfl) [⟨.sl, calls1⟩, ⟨kref4State, s2⟩] (by kernel_rfl) (by kernel_rfl)
    (Eq.mp (show (ref4_over.M (fun x0 x1 x2 h K => CallT Try.prog 44 [Kd.val .sl x0, Kd.val (.int .i64) x1, Kd.val (.int .i64) x2] false (.int .i64) h K) calls1 s2 h Q) = interp Try.prog 28 (weave (Try.f40.body.getD .skip) ref4_over.mk) [] (rho0 [⟨.sl, calls1⟩, ⟨kref4State, s2⟩]) [] h (retK Try.prog [.tmp 4] false .bool Q) (fun _ _ _ _ => False) (retK Try.prog [.tmp 4] false .bool Q) from by kernel_rfl) H)

theorem ref4_step.br {calls1 : Sl} {most2 : Int} {s3 : Den kref4State} {who4 : Int} {later5 : Sl} {h : Heap} {Q : Sl → Heap → Prop} (H : ref4_step.M (fun x0 x1 x2 h K => CallT Try.prog 44 [Kd.val .sl x0, Kd.val (.int .i64) x1, Kd.val (.int .i64) x2] false (.int .i64) h K) (fun x0 x1 x2 h K => CallT Try.prog 45 [Kd.val .sl x0, Kd.val kref4State x1, Kd.val (.int .i64) x2] false .bool h K) (fun x0 x1 x2 h K => CallT Try.prog 28 [Kd.val .sl x0, Kd.val kapiCall x1, Kd.val (.int .i64) x2] true (.pair .sl (.pair .bool .nil)) h K) (fun x0 x1 h K => CallT Try.prog 46 [Kd.val .sl x0, Kd.val (.arr 4 (.int .i64)) x1] false .bool h K) calls1 most2 s3 who4 later5 h Q) :
    CallT Try.prog 41 [Kd.val .sl calls1, Kd.val (.int .i64) most2, Kd.val kref4State s3, Kd.val (.int .i64) who4, Kd.val .sl later5] false .sl h Q :=
  fn_sound (c := weave (Try.f41.body.getD .skip) ref4_step.mk) Try.func41 (by kernel_rfl) Try.ntmps41 (rs := [.tmp 10]) (by kernel_rfl) [⟨.sl, calls1⟩, ⟨(.int .i64), most2⟩, ⟨kref4State, s3⟩, ⟨(.int .i64), who4⟩, ⟨.sl, later5⟩] (by kernel_rfl) (by kernel_rfl)
    (Eq.mp (show (ref4_step.M (fun x0 x1 x2 h K => CallT Try.prog 44 [Kd.val .sl x0, Kd.val (.int .i64) x1, Kd.val (.int .i64) x2] false (.int .i64) h K) (fun x0 x1 x2 h K => CallT Try.prog 45 [Kd.val .sl x0, Kd.val kref4State x1, Kd.val (.int .i64) x2] false .bool h K) (fun x0 x1 x2 h K => CallT Try.prog 28 [Kd.val .sl x0, Kd.val kapiCall x1, Kd.val (.int .i64) x2] true (.pair .sl (.pair .bool .nil)) h K) (fun x0 x1 h K => CallT Try.prog 46 [Kd.val .sl x0, Kd.val (.arr 4 (.int .i64)) x1] false .bool h K) calls1 most2 s3 who4 later5 h Q) = interp Try.prog 66 (weave (Try.f41.body.getD .skip) ref4_step.mk) [] (rho0 [⟨.sl, calls1⟩, ⟨(.int .i64), most2⟩, ⟨kref4State, s3⟩, ⟨(.int .i64), who4⟩, ⟨.sl, later5⟩]) [] h (retK Try.prog [.tmp 10] false .sl Q) (fun _ _ _ _ => False) (retK Try.prog [.tmp 10] false .sl Q) from by kernel_rfl) H)

theorem hist_may.br {kind1 : Int} {code2 : Int} {h : Heap} {Q : Bool → Heap → Prop} (H : hist_may.M  kind1 code2 h Q) :
    CallT Try.prog 42 [Kd.val (.int .i64) kind1, Kd.val (.int .i64) code2] false .bool h Q :=
  fn_sound (c := weave (Try.f42.body.getD .skip) hist_may.mk) Try.func42 (by kernel_rfl) Try.ntmps42 (rs := [.tmp 4]) (by kernel_rfl) [⟨(.int .i64), kind1⟩, ⟨(.int .i64), code2⟩] (by kernel_rfl) (by kernel_rfl)
    (Eq.mp (show (hist_may.M  kind1 code2 h Q) = interp Try.prog 32 (weave (Try.f42.body.getD .skip) hist_may.mk) [] (rho0 [⟨(.int .i64), kind1⟩, ⟨(.int .i64), code2⟩]) [] h (retK Try.prog [.tmp 4] false .bool Q) (fun _ _ _ _ => False) (retK Try.prog [.tmp 4] false .bool Q) from by kernel_rfl) H)

theorem ref4_single.br {c1 : Den kapiCall} {h : Heap} {Q : Bool → Heap → Prop} (H : ref4_single.M (fun x0 x1 h K => CallT Try.prog 47 [Kd.val (.int .i64) x0, Kd.val (.int .i64) x1] false .bool h K) c1 h Q) :
    CallT Try.prog 43 [Kd.val kapiCall c1] false .bool h Q :=
  fn_sound (c := weave (Try.f43.body.getD .skip) ref4_single.mk) Try.func43 (by kernel_rfl) Try.ntmps43 (rs := [.tmp 2]) (by kernel_rfl) [⟨kapiCall, c1⟩] (by kernel_rfl) (by kernel_rfl)
    (Eq.mp (show (ref4_single.M (fun x0 x1 h K => CallT Try.prog 47 [Kd.val (.int .i64) x0, Kd.val (.int .i64) x1] false .bool h K) c1 h Q) = interp Try.prog 57 (weave (Try.f43.body.getD .skip) ref4_single.mk) [] (rho0 [⟨kapiCall, c1⟩]) [] h (retK Try.prog [.tmp 2] false .bool Q) (fun _ _ _ _ => False) (retK Try.prog [.tmp 2] false .bool Q) from by kernel_rfl) H)

theorem ref4_next.br {calls1 : Sl} {who2 : Int} {n3 : Int} {h : Heap} {Q : Int → Heap → Prop} (H : ref4_next.M  calls1 who2 n3 h Q) :
    CallT Try.prog 44 [Kd.val .sl calls1, Kd.val (.int .i64) who2, Kd.val (.int .i64) n3] false (.int .i64) h Q :=
  fn_sound (c := weave (Try.f44.body.getD .skip) ref4_next.mk) Try.func44 (by kernel_rfl) Try.ntmps44 (rs := [.tmp 6]) (by kernel_rfl) [⟨.sl, calls1⟩, ⟨(.int .i64), who2⟩, ⟨(.int .i64), n3⟩] (by kernel_rfl) (by kernel_rfl)
    (Eq.mp (show (ref4_next.M  calls1 who2 n3 h Q) = interp Try.prog 26 (weave (Try.f44.body.getD .skip) ref4_next.mk) [] (rho0 [⟨.sl, calls1⟩, ⟨(.int .i64), who2⟩, ⟨(.int .i64), n3⟩]) [] h (retK Try.prog [.tmp 6] false (.int .i64) Q) (fun _ _ _ _ => False) (retK Try.prog [.tmp 6] false (.int .i64) Q) from by kernel_rfl) H)

theorem ref4_free.br {calls1 : Sl} {s2 : Den kref4State} {k3 : Int} {h : Heap} {Q : Bool → Heap → Prop} (H : ref4_free.M (fun x0 x1 x2 h K => CallT Try.prog 44 [Kd.val .sl x0, Kd.val (.int .i64) x1, Kd.val (.int .i64) x2] false (.int .i64) h K) (fun x0 x1 h K => CallT Try.prog 37 [Kd.val kapiCall x0, Kd.val kapiCall x1] false .bool h K) calls1 s2 k3 h Q) :
    CallT Try.prog 45 [Kd.val .sl calls1, Kd.val kref4State s2, Kd.val (.int .i64) k3] false .bool h Q :=
  fn_sound (c := weave (Try.f45.body.getD .skip) ref4_free.mk) Try.func45 (by kernel_rfl) Try.ntmps45 (rs := [.tmp 6]) (by kernel_rfl) [⟨.sl, calls1⟩, ⟨kref4State, s2⟩, ⟨(.int .i64), k3⟩] (by kernel_rfl) (by kernel_rfl)
    (Eq.mp (show (ref4_free.M (fun x0 x1 x2 h K => CallT Try.prog 44 [Kd.val .sl x0, Kd.val (.int .i64) x1, Kd.val (.int .i64) x2] false (.int .i64) h K) (fun x0 x1 h K => CallT Try.prog 37 [Kd.val kapiCall x0, Kd.val kapiCall x1] false .bool h K) calls1 s2 k3 h Q) = interp Try.prog 38 (weave (Try.f45.body.getD .skip) ref4_free.mk) [] (rho0 [⟨.sl, calls1⟩, ⟨kref4State, s2⟩, ⟨(.int .i64), k3⟩]) [] h (retK Try.prog [.tmp 6] false .bool Q) (fun _ _ _ _ => False) (retK Try.prog [.tmp 6] false .bool Q) from by kernel_rfl) H)

theorem ref4_known.br {l1 : Sl} {d2 : (Fin 4 → Int)} {h : Heap} {Q : Bool → Heap → Prop} (H : ref4_known.M  l1 d2 h Q) :
    CallT Try.prog 46 [Kd.val .sl l1, Kd.val (.arr 4 (.int .i64)) d2] false .bool h Q :=
  fn_sound (c := weave (Try.f46.body.getD .skip) ref4_known.mk) Try.func46 (by kernel_rfl) Try.ntmps46 (rs := [.tmp 4]) (by kernel_rfl) [⟨.sl, l1⟩, ⟨(.arr 4 (.int .i64)), d2⟩] (by kernel_rfl) (by kernel_rfl)
    (Eq.mp (show (ref4_known.M  l1 d2 h Q) = interp Try.prog 19 (weave (Try.f46.body.getD .skip) ref4_known.mk) [] (rho0 [⟨.sl, l1⟩, ⟨(.arr 4 (.int .i64)), d2⟩]) [] h (retK Try.prog [.tmp 4] false .bool Q) (fun _ _ _ _ => False) (retK Try.prog [.tmp 4] false .bool Q) from by kernel_rfl) H)

theorem ref4_mayAnswer.br {kind1 : Int} {code2 : Int} {h : Heap} {Q : Bool → Heap → Prop} (H : ref4_mayAnswer.M  kind1 code2 h Q) :
    CallT Try.prog 47 [Kd.val (.int .i64) kind1, Kd.val (.int .i64) code2] false .bool h Q :=
  fn_sound (c := weave (Try.f47.body.getD .skip) ref4_mayAnswer.mk) Try.func47 (by kernel_rfl) Try.ntmps47 (rs := [.tmp 4]) (by kernel_rfl) [⟨(.int .i64), kind1⟩, ⟨(.int .i64), code2⟩] (by kernel_rfl) (by kernel_rfl)
    (Eq.mp (show (ref4_mayAnswer.M  kind1 code2 h Q) = interp Try.prog 32 (weave (Try.f47.body.getD .skip) ref4_mayAnswer.mk) [] (rho0 [⟨(.int .i64), kind1⟩, ⟨(.int .i64), code2⟩]) [] h (retK Try.prog [.tmp 4] false .bool Q) (fun _ _ _ _ => False) (retK Try.prog [.tmp 4] false .bool Q) from by kernel_rfl) H)

end Go.Mx
