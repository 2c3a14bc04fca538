/-
  The bridges: a function's calls, by what it comes to over abstract heaps: printed by a program of this workplace.
-/
import Derived.Test.YtjkecefbbijajabMd
import Derived.Test.YtjkecefbbijajabProg
set_option linter.unusedVariables false
set_option maxRecDepth 100000
namespace Go.Mx
open Go.Proofs
theorem law3_DequeBuffers.br {first1 : Int} {most2 : Int} {todos3 : Sl} {thieves4 : Int} {picks5 : Sl} {h : Heap} {Q : Bool → Heap → Prop} (H : law3_DequeBuffers.M (fun x0 x1 x2 x3 x4 h K => CallT Try.prog 9 [Kd.val (.int .i64) x0, Kd.val (.int .i64) x1, Kd.val .sl x2, Kd.val (.int .i64) x3, Kd.val .sl x4] false .bool h K) (fun x0 x1 x2 x3 x4 h K => CallT Try.prog 10 [Kd.val (.int .i64) x0, Kd.val (.int .i64) x1, Kd.val .sl x2, Kd.val (.int .i64) x3, Kd.val .sl x4] true (.pair kapiDequeRun (.pair (.int .i64) .nil)) h K) (fun x0 x1 x2 x3 h K => CallT Try.prog 11 [Kd.val kapiDequeRun x0, Kd.val .sl x1, Kd.val (.int .i64) x2, Kd.val .sl x3] false .bool h K) first1 most2 todos3 thieves4 picks5 h Q) :
    CallT Try.prog 3 [Kd.val (.int .i64) first1, Kd.val (.int .i64) most2, Kd.val .sl todos3, Kd.val (.int .i64) thieves4, Kd.val .sl picks5] false .bool h Q :=
  fn_sound2 (c := weave (Try.f3.body.getD .skip) law3_DequeBuffers.mk) Try.func3 (by kernel_rfl) Try.ntmps3 (rs := [.tmp 10]) (by kernel_rfl) [⟨(.int .i64), first1⟩, ⟨(.int .i64), most2⟩, ⟨.sl, todos3⟩, ⟨(.int .i64), thieves4⟩, ⟨.sl, picks5⟩] (by kernel_rfl) (by kernel_rfl) (by kernel_rfl) (by kernel_rfl) H

theorem law4_HistDequeLost.br {game1 : Den klaw4Game} {h : Heap} {Q : Bool → Heap → Prop} (H : law4_HistDequeLost.M (fun x0 x1 x2 h K => CallT Try.prog 12 [Kd.val klaw4Game x0, Kd.val (.int .i64) x1, Kd.val (.int .i64) x2] false klaw4Game h K) (fun x0 x1 h K => CallT Try.prog 13 [Kd.val klaw4Game x0, Kd.val .sl x1] true (.pair kapiDequeRun (.pair .bool .nil)) h K) (fun x0 x1 h K => CallT Try.prog 14 [Kd.val klaw4Game x0, Kd.val .sl x1] false .bool h K) (fun x0 x1 x2 h K => CallT Try.prog 15 [Kd.val kapiCall x0, Kd.val (.int .i64) x1, Kd.val (.int .i64) x2] false .bool h K) game1 h Q) :
    CallT Try.prog 4 [Kd.val klaw4Game game1] false .bool h Q :=
  fn_sound2 (c := weave (Try.f4.body.getD .skip) law4_HistDequeLost.mk) Try.func4 (by kernel_rfl) Try.ntmps4 (rs := [.tmp 2]) (by kernel_rfl) [⟨klaw4Game, game1⟩] (by kernel_rfl) (by kernel_rfl) (by kernel_rfl) (by kernel_rfl) H

theorem law4_HistDequePrefix.br {game1 : Den klaw4Game} {at_2 : Int} {h : Heap} {Q : Bool → Heap → Prop} (H : law4_HistDequePrefix.M (fun x0 x1 x2 h K => CallT Try.prog 12 [Kd.val klaw4Game x0, Kd.val (.int .i64) x1, Kd.val (.int .i64) x2] false klaw4Game h K) (fun x0 x1 h K => CallT Try.prog 16 [Kd.val (.int .i64) x0, Kd.val (.int .i64) x1] false (.int .i64) h K) (fun x0 x1 h K => CallT Try.prog 13 [Kd.val klaw4Game x0, Kd.val .sl x1] true (.pair kapiDequeRun (.pair .bool .nil)) h K) (fun x0 x1 h K => CallT Try.prog 14 [Kd.val klaw4Game x0, Kd.val .sl x1] false .bool h K) (fun x0 x1 h K => CallT Try.prog 18 [Kd.val .sl x0, Kd.val (.int .i64) x1] false .sl h K) (fun x0 x1 h K => CallT Try.prog 17 [Kd.val .sl x0, Kd.val .sl x1] false .bool h K) game1 at_2 h Q) :
    CallT Try.prog 5 [Kd.val klaw4Game game1, Kd.val (.int .i64) at_2] false .bool h Q :=
  fn_sound2 (c := weave (Try.f5.body.getD .skip) law4_HistDequePrefix.mk) Try.func5 (by kernel_rfl) Try.ntmps5 (rs := [.tmp 4]) (by kernel_rfl) [⟨klaw4Game, game1⟩, ⟨(.int .i64), at_2⟩] (by kernel_rfl) (by kernel_rfl) (by kernel_rfl) (by kernel_rfl) H

theorem law4_HistDequeAlone.br {game1 : Den klaw4Game} {h : Heap} {Q : Bool → Heap → Prop} (H : law4_HistDequeAlone.M (fun x0 x1 x2 h K => CallT Try.prog 12 [Kd.val klaw4Game x0, Kd.val (.int .i64) x1, Kd.val (.int .i64) x2] false klaw4Game h K) (fun x0 x1 x2 x3 x4 h K => CallT Try.prog 10 [Kd.val (.int .i64) x0, Kd.val (.int .i64) x1, Kd.val .sl x2, Kd.val (.int .i64) x3, Kd.val .sl x4] true (.pair kapiDequeRun (.pair (.int .i64) .nil)) h K) (fun x0 x1 h K => CallT Try.prog 19 [Kd.val .sl x0, Kd.val (.int .i64) x1] true (.pair .sl (.pair .sl (.pair (.int .i64) .nil))) h K) (fun x0 x1 h K => CallT Try.prog 20 [Kd.val .sl x0, Kd.val .sl x1] false .bool h K) game1 h Q) :
    CallT Try.prog 6 [Kd.val klaw4Game game1] false .bool h Q :=
  fn_sound2 (c := weave (Try.f6.body.getD .skip) law4_HistDequeAlone.mk) Try.func6 (by kernel_rfl) Try.ntmps6 (rs := [.tmp 2]) (by kernel_rfl) [⟨klaw4Game, game1⟩] (by kernel_rfl) (by kernel_rfl) (by kernel_rfl) (by kernel_rfl) H

theorem law4_HistDequeLinear.br {game1 : Den klaw4Game} {h : Heap} {Q : Bool → Heap → Prop} (H : law4_HistDequeLinear.M (fun x0 x1 x2 h K => CallT Try.prog 12 [Kd.val klaw4Game x0, Kd.val (.int .i64) x1, Kd.val (.int .i64) x2] false klaw4Game h K) (fun x0 x1 h K => CallT Try.prog 13 [Kd.val klaw4Game x0, Kd.val .sl x1] true (.pair kapiDequeRun (.pair .bool .nil)) h K) (fun x0 x1 h K => CallT Try.prog 14 [Kd.val klaw4Game x0, Kd.val .sl x1] false .bool h K) (fun x0 x1 h K => CallT Try.prog 21 [Kd.val .sl x0, Kd.val (.int .i64) x1] true (.pair .sl (.pair (.int .i64) .nil)) h K) (fun x0 x1 x2 h K => CallT Try.prog 22 [Kd.val .sl x0, Kd.val (.int .i64) x1, Kd.val .sl x2] false .bool h K) game1 h Q) :
    CallT Try.prog 7 [Kd.val klaw4Game game1] false .bool h Q :=
  fn_sound2 (c := weave (Try.f7.body.getD .skip) law4_HistDequeLinear.mk) Try.func7 (by kernel_rfl) Try.ntmps7 (rs := [.tmp 2]) (by kernel_rfl) [⟨klaw4Game, game1⟩] (by kernel_rfl) (by kernel_rfl) (by kernel_rfl) (by kernel_rfl) H

theorem law4_HistDequeRest.br {game1 : Den klaw4Game} {h : Heap} {Q : Bool → Heap → Prop} (H : law4_HistDequeRest.M (fun x0 x1 x2 h K => CallT Try.prog 12 [Kd.val klaw4Game x0, Kd.val (.int .i64) x1, Kd.val (.int .i64) x2] false klaw4Game h K) (fun x0 x1 h K => CallT Try.prog 13 [Kd.val klaw4Game x0, Kd.val .sl x1] true (.pair kapiDequeRun (.pair .bool .nil)) h K) (fun x0 x1 h K => CallT Try.prog 14 [Kd.val klaw4Game x0, Kd.val .sl x1] false .bool h K) (fun x0 x1 h K => CallT Try.prog 21 [Kd.val .sl x0, Kd.val (.int .i64) x1] true (.pair .sl (.pair (.int .i64) .nil)) h K) (fun x0 x1 x2 h K => CallT Try.prog 23 [Kd.val .sl x0, Kd.val (.int .i64) x1, Kd.val .sl x2] true (.pair .sl (.pair .bool .nil)) h K) (fun x0 x1 h K => CallT Try.prog 20 [Kd.val .sl x0, Kd.val .sl x1] false .bool h K) game1 h Q) :
    CallT Try.prog 8 [Kd.val klaw4Game game1] false .bool h Q :=
  fn_sound2 (c := weave (Try.f8.body.getD .skip) law4_HistDequeRest.mk) Try.func8 (by kernel_rfl) Try.ntmps8 (rs := [.tmp 2]) (by kernel_rfl) [⟨klaw4Game, game1⟩] (by kernel_rfl) (by kernel_rfl) (by kernel_rfl) (by kernel_rfl) H

theorem law3_fair.br {first1 : Int} {most2 : Int} {todos3 : Sl} {thieves4 : Int} {picks5 : Sl} {h : Heap} {Q : Bool → Heap → Prop} (H : law3_fair.M (fun x0 x1 h K => CallT Try.prog 24 [Kd.val (.int .i64) x0, Kd.val (.int .i64) x1] false .bool h K) first1 most2 todos3 thieves4 picks5 h Q) :
    CallT Try.prog 9 [Kd.val (.int .i64) first1, Kd.val (.int .i64) most2, Kd.val .sl todos3, Kd.val (.int .i64) thieves4, Kd.val .sl picks5] false .bool h Q :=
  fn_sound2 (c := weave (Try.f9.body.getD .skip) law3_fair.mk) Try.func9 (by kernel_rfl) Try.ntmps9 (rs := [.tmp 10]) (by kernel_rfl) [⟨(.int .i64), first1⟩, ⟨(.int .i64), most2⟩, ⟨.sl, todos3⟩, ⟨(.int .i64), thieves4⟩, ⟨.sl, picks5⟩] (by kernel_rfl) (by kernel_rfl) (by kernel_rfl) (by kernel_rfl) H

theorem deque_Play.br {low1 : Int} {most2 : Int} {todos3 : Sl} {thieves4 : Int} {picks5 : Sl} {h : Heap} {Q : (Den kapiDequeRun × (Int × Unit)) → Heap → Prop} (H : deque_Play.M (fun x0 x1 x2 x3 x4 h K => CallT Try.prog 25 [Kd.val (.int .i64) x0, Kd.val (.int .i64) x1, Kd.val .sl x2, Kd.val (.int .i64) x3, Kd.val .sl x4] false (.int .i64) h K) (fun x0 x1 h K => CallT Try.prog 27 [Kd.val (.int .i64) x0, Kd.val (.int .i64) x1] false (.int .i64) h K) (fun x0 h K => CallT Try.prog 26 [Kd.val (.int .i64) x0] true (.pair .ptr (.pair (.int .i64) .nil)) h K) (fun x0 x1 x2 h K => CallT Try.prog 28 [Kd.val .iface x0, Kd.val (.int .i64) x1, Kd.val (.int .i64) x2] true (.pair kapiTodo (.pair (.int .i64) .nil)) h K) (fun x0 x1 h K => CallT Try.prog 29 [Kd.val .ptr x0, Kd.val .bool x1] true .nil h K) (fun x0 x1 h K => CallT Try.prog 31 [Kd.val (.int .i64) x0, Kd.val (.int .i64) x1] false (.int .i64) h K) (fun x0 x1 x2 h K => CallT Try.prog 30 [Kd.val .ptr x0, Kd.val (.int .i64) x1, Kd.val (.int .i64) x2] true .nil h K) (fun x0 h K => CallT Try.prog 32 [Kd.val .ptr x0] false .sl h K) (fun x0 h K => CallT Try.prog 33 [Kd.val .ptr x0] false .sl h K) low1 most2 todos3 thieves4 picks5 h Q) :
    CallT Try.prog 10 [Kd.val (.int .i64) low1, Kd.val (.int .i64) most2, Kd.val .sl todos3, Kd.val (.int .i64) thieves4, Kd.val .sl picks5] true (.pair kapiDequeRun (.pair (.int .i64) .nil)) h Q :=
  fn_sound2 (c := weave (Try.f10.body.getD .skip) deque_Play.mk) Try.func10 (by kernel_rfl) Try.ntmps10 (rs := [.cell 10 29, .tmp 11]) (by kernel_rfl) [⟨(.int .i64), low1⟩, ⟨(.int .i64), most2⟩, ⟨.sl, todos3⟩, ⟨(.int .i64), thieves4⟩, ⟨.sl, picks5⟩] (by kernel_rfl) (by kernel_rfl) (by kernel_rfl) (by kernel_rfl) H

theorem law3_alive.br {r1 : Den kapiDequeRun} {todos2 : Sl} {thieves3 : Int} {picks4 : Sl} {h : Heap} {Q : Bool → Heap → Prop} (H : law3_alive.M (fun x0 x1 h K => CallT Try.prog 34 [Kd.val (.int .i64) x0, Kd.val (.int .i64) x1] false (.int .i64) h K) (fun x0 x1 x2 x3 x4 h K => CallT Try.prog 35 [Kd.val .sl x0, Kd.val (.int .i64) x1, Kd.val (.int .i64) x2, Kd.val (.int .i64) x3, Kd.val (.int .i64) x4] false (.int .i64) h K) r1 todos2 thieves3 picks4 h Q) :
    CallT Try.prog 11 [Kd.val kapiDequeRun r1, Kd.val .sl todos2, Kd.val (.int .i64) thieves3, Kd.val .sl picks4] false .bool h Q :=
  fn_sound2 (c := weave (Try.f11.body.getD .skip) law3_alive.mk) Try.func11 (by kernel_rfl) Try.ntmps11 (rs := [.tmp 8]) (by kernel_rfl) [⟨kapiDequeRun, r1⟩, ⟨.sl, todos2⟩, ⟨(.int .i64), thieves3⟩, ⟨.sl, picks4⟩] (by kernel_rfl) (by kernel_rfl) (by kernel_rfl) (by kernel_rfl) H

theorem law4_Game_fit.br {g1 : Den klaw4Game} {todos2 : Int} {picks3 : Int} {h : Heap} {Q : Den klaw4Game → Heap → Prop} (H : law4_Game_fit.M (fun x0 x1 h K => CallT Try.prog 16 [Kd.val (.int .i64) x0, Kd.val (.int .i64) x1] false (.int .i64) h K) g1 todos2 picks3 h Q) :
    CallT Try.prog 12 [Kd.val klaw4Game g1, Kd.val (.int .i64) todos2, Kd.val (.int .i64) picks3] false klaw4Game h Q :=
  fn_sound2 (c := weave (Try.f12.body.getD .skip) law4_Game_fit.mk) Try.func12 (by kernel_rfl) Try.ntmps12 (rs := [.cell 6 37]) (by kernel_rfl) [⟨klaw4Game, g1⟩, ⟨(.int .i64), todos2⟩, ⟨(.int .i64), picks3⟩] (by kernel_rfl) (by kernel_rfl) (by kernel_rfl) (by kernel_rfl) H

theorem law4_Game_play.br {g1 : Den klaw4Game} {picks2 : Sl} {h : Heap} {Q : (Den kapiDequeRun × (Bool × Unit)) → Heap → Prop} (H : law4_Game_play.M (fun x0 x1 x2 x3 x4 h K => CallT Try.prog 10 [Kd.val (.int .i64) x0, Kd.val (.int .i64) x1, Kd.val .sl x2, Kd.val (.int .i64) x3, Kd.val .sl x4] true (.pair kapiDequeRun (.pair (.int .i64) .nil)) h K) g1 picks2 h Q) :
    CallT Try.prog 13 [Kd.val klaw4Game g1, Kd.val .sl picks2] true (.pair kapiDequeRun (.pair .bool .nil)) h Q :=
  fn_sound2 (c := weave (Try.f13.body.getD .skip) law4_Game_play.mk) Try.func13 (by kernel_rfl) Try.ntmps13 (rs := [.cell 4 29, .tmp 5]) (by kernel_rfl) [⟨klaw4Game, g1⟩, ⟨.sl, picks2⟩] (by kernel_rfl) (by kernel_rfl) (by kernel_rfl) (by kernel_rfl) H

theorem law4_Game_begun.br {g1 : Den klaw4Game} {calls2 : Sl} {h : Heap} {Q : Bool → Heap → Prop} (H : law4_Game_begun.M (fun x0 x1 x2 h K => CallT Try.prog 36 [Kd.val .sl x0, Kd.val (.int .i64) x1, Kd.val (.int .i64) x2] false .bool h K) g1 calls2 h Q) :
    CallT Try.prog 14 [Kd.val klaw4Game g1, Kd.val .sl calls2] false .bool h Q :=
  fn_sound2 (c := weave (Try.f14.body.getD .skip) law4_Game_begun.mk) Try.func14 (by kernel_rfl) Try.ntmps14 (rs := [.tmp 4]) (by kernel_rfl) [⟨klaw4Game, g1⟩, ⟨.sl, calls2⟩] (by kernel_rfl) (by kernel_rfl) (by kernel_rfl) (by kernel_rfl) H

theorem law4_took.br {c1 : Den kapiCall} {from_2 : Int} {to3 : Int} {h : Heap} {Q : Bool → Heap → Prop} (H : law4_took.M  c1 from_2 to3 h Q) :
    CallT Try.prog 15 [Kd.val kapiCall c1, Kd.val (.int .i64) from_2, Kd.val (.int .i64) to3] false .bool h Q :=
  fn_sound2 (c := weave (Try.f15.body.getD .skip) law4_took.mk) Try.func15 (by kernel_rfl) Try.ntmps15 (rs := [.tmp 6]) (by kernel_rfl) [⟨kapiCall, c1⟩, ⟨(.int .i64), from_2⟩, ⟨(.int .i64), to3⟩] (by kernel_rfl) (by kernel_rfl) (by kernel_rfl) (by kernel_rfl) H

theorem law4_mod.br {x1 : Int} {n2 : Int} {h : Heap} {Q : Int → Heap → Prop} (H : law4_mod.M  x1 n2 h Q) :
    CallT Try.prog 16 [Kd.val (.int .i64) x1, Kd.val (.int .i64) n2] false (.int .i64) h Q :=
  fn_sound2 (c := weave (Try.f16.body.getD .skip) law4_mod.mk) Try.func16 (by kernel_rfl) Try.ntmps16 (rs := [.tmp 4]) (by kernel_rfl) [⟨(.int .i64), x1⟩, ⟨(.int .i64), n2⟩] (by kernel_rfl) (by kernel_rfl) (by kernel_rfl) (by kernel_rfl) H

theorem law4_same.br {a1 : Sl} {b2 : Sl} {h : Heap} {Q : Bool → Heap → Prop} (H : law4_same.M  a1 b2 h Q) :
    CallT Try.prog 17 [Kd.val .sl a1, Kd.val .sl b2] false .bool h Q :=
  fn_sound2 (c := weave (Try.f17.body.getD .skip) law4_same.mk) Try.func17 (by kernel_rfl) Try.ntmps17 (rs := [.tmp 4]) (by kernel_rfl) [⟨.sl, a1⟩, ⟨.sl, b2⟩] (by kernel_rfl) (by kernel_rfl) (by kernel_rfl) (by kernel_rfl) H

theorem hist_Cut.br {calls1 : Sl} {pick2 : Int} {h : Heap} {Q : Sl → Heap → Prop} (H : hist_Cut.M  calls1 pick2 h Q) :
    CallT Try.prog 18 [Kd.val .sl calls1, Kd.val (.int .i64) pick2] false .sl h Q :=
  fn_sound2 (c := weave (Try.f18.body.getD .skip) hist_Cut.mk) Try.func18 (by kernel_rfl) Try.ntmps18 (rs := [.tmp 4]) (by kernel_rfl) [⟨.sl, calls1⟩, ⟨(.int .i64), pick2⟩] (by kernel_rfl) (by kernel_rfl) (by kernel_rfl) (by kernel_rfl) H

theorem hist_Serial.br {todos1 : Sl} {most2 : Int} {h : Heap} {Q : (Sl × (Sl × (Int × Unit))) → Heap → Prop} (H : hist_Serial.M (fun x0 h K => CallT Try.prog 37 [Kd.val (.int .i64) x0] false .bool h K) (fun x0 x1 x2 h K => CallT Try.prog 38 [Kd.val .sl x0, Kd.val kapiCall x1, Kd.val (.int .i64) x2] true (.pair .sl (.pair .bool .nil)) h K) (fun x0 h K => CallT Try.prog 39 [Kd.val .sl x0] false .sl h K) todos1 most2 h Q) :
    CallT Try.prog 19 [Kd.val .sl todos1, Kd.val (.int .i64) most2] true (.pair .sl (.pair .sl (.pair (.int .i64) .nil))) h Q :=
  fn_sound2 (c := weave (Try.f19.body.getD .skip) hist_Serial.mk) Try.func19 (by kernel_rfl) Try.ntmps19 (rs := [.tmp 4, .tmp 5, .tmp 6]) (by kernel_rfl) [⟨.sl, todos1⟩, ⟨(.int .i64), most2⟩] (by kernel_rfl) (by kernel_rfl) (by kernel_rfl) (by kernel_rfl) H

theorem law4_sameInts.br {a1 : Sl} {b2 : Sl} {h : Heap} {Q : Bool → Heap → Prop} (H : law4_sameInts.M  a1 b2 h Q) :
    CallT Try.prog 20 [Kd.val .sl a1, Kd.val .sl b2] false .bool h Q :=
  fn_sound2 (c := weave (Try.f20.body.getD .skip) law4_sameInts.mk) Try.func20 (by kernel_rfl) Try.ntmps20 (rs := [.tmp 4]) (by kernel_rfl) [⟨.sl, a1⟩, ⟨.sl, b2⟩] (by kernel_rfl) (by kernel_rfl) (by kernel_rfl) (by kernel_rfl) H

theorem hist_Order.br {calls1 : Sl} {most2 : Int} {h : Heap} {Q : (Sl × (Int × Unit)) → Heap → Prop} (H : hist_Order.M (fun x0 h K => CallT Try.prog 37 [Kd.val (.int .i64) x0] false .bool h K) (fun x0 h K => CallT Try.prog 40 [Kd.val .sl x0] false .bool h K) (fun x0 x1 x2 h K => CallT Try.prog 41 [Kd.val .ptr x0, Kd.val (.arr 4 (.int .i64)) x1, Kd.val .sl x2] false .bool h K) (fun x0 h K => CallT Try.prog 42 [Kd.val .sl x0] false .sl h K) calls1 most2 h Q) :
    CallT Try.prog 21 [Kd.val .sl calls1, Kd.val (.int .i64) most2] true (.pair .sl (.pair (.int .i64) .nil)) h Q :=
  fn_sound2 (c := weave (Try.f21.body.getD .skip) hist_Order.mk) Try.func21 (by kernel_rfl) Try.ntmps21 (rs := [.tmp 4, .tmp 5]) (by kernel_rfl) [⟨.sl, calls1⟩, ⟨(.int .i64), most2⟩] (by kernel_rfl) (by kernel_rfl) (by kernel_rfl) (by kernel_rfl) H

theorem ref4_Legal.br {calls1 : Sl} {most2 : Int} {order3 : Sl} {h : Heap} {Q : Bool → Heap → Prop} (H : ref4_Legal.M (fun x0 x1 h K => CallT Try.prog 43 [Kd.val .sl x0, Kd.val (.int .i64) x1] false (.int .i64) h K) (fun x0 x1 x2 h K => CallT Try.prog 23 [Kd.val .sl x0, Kd.val (.int .i64) x1, Kd.val .sl x2] true (.pair .sl (.pair .bool .nil)) h K) calls1 most2 order3 h Q) :
    CallT Try.prog 22 [Kd.val .sl calls1, Kd.val (.int .i64) most2, Kd.val .sl order3] false .bool h Q :=
  fn_sound2 (c := weave (Try.f22.body.getD .skip) ref4_Legal.mk) Try.func22 (by kernel_rfl) Try.ntmps22 (rs := [.tmp 6]) (by kernel_rfl) [⟨.sl, calls1⟩, ⟨(.int .i64), most2⟩, ⟨.sl, order3⟩] (by kernel_rfl) (by kernel_rfl) (by kernel_rfl) (by kernel_rfl) H

theorem ref4_Replay.br {calls1 : Sl} {most2 : Int} {order3 : Sl} {h : Heap} {Q : (Sl × (Bool × Unit)) → Heap → Prop} (H : ref4_Replay.M (fun x0 x1 h K => CallT Try.prog 44 [Kd.val kapiCall x0, Kd.val kapiCall x1] false .bool h K) (fun x0 x1 x2 h K => CallT Try.prog 45 [Kd.val .sl x0, Kd.val kapiCall x1, Kd.val (.int .i64) x2] true (.pair .sl (.pair .bool .nil)) h K) calls1 most2 order3 h Q) :
    CallT Try.prog 23 [Kd.val .sl calls1, Kd.val (.int .i64) most2, Kd.val .sl order3] true (.pair .sl (.pair .bool .nil)) h Q :=
  fn_sound2 (c := weave (Try.f23.body.getD .skip) ref4_Replay.mk) Try.func23 (by kernel_rfl) Try.ntmps23 (rs := [.tmp 6, .tmp 7]) (by kernel_rfl) [⟨.sl, calls1⟩, ⟨(.int .i64), most2⟩, ⟨.sl, order3⟩] (by kernel_rfl) (by kernel_rfl) (by kernel_rfl) (by kernel_rfl) H

theorem law3_capsOK.br {first1 : Int} {most2 : Int} {h : Heap} {Q : Bool → Heap → Prop} (H : law3_capsOK.M  first1 most2 h Q) :
    CallT Try.prog 24 [Kd.val (.int .i64) first1, Kd.val (.int .i64) most2] false .bool h Q :=
  fn_sound2 (c := weave (Try.f24.body.getD .skip) law3_capsOK.mk) Try.func24 (by kernel_rfl) Try.ntmps24 (rs := [.tmp 4]) (by kernel_rfl) [⟨(.int .i64), first1⟩, ⟨(.int .i64), most2⟩] (by kernel_rfl) (by kernel_rfl) (by kernel_rfl) (by kernel_rfl) H

theorem deque_judged.br {low1 : Int} {most2 : Int} {todos3 : Sl} {thieves4 : Int} {picks5 : Sl} {h : Heap} {Q : Int → Heap → Prop} (H : deque_judged.M (fun x0 x1 h K => CallT Try.prog 46 [Kd.val (.int .i64) x0, Kd.val (.int .i64) x1] false .bool h K) low1 most2 todos3 thieves4 picks5 h Q) :
    CallT Try.prog 25 [Kd.val (.int .i64) low1, Kd.val (.int .i64) most2, Kd.val .sl todos3, Kd.val (.int .i64) thieves4, Kd.val .sl picks5] false (.int .i64) h Q :=
  fn_sound2 (c := weave (Try.f25.body.getD .skip) deque_judged.mk) Try.func25 (by kernel_rfl) Try.ntmps25 (rs := [.tmp 10]) (by kernel_rfl) [⟨(.int .i64), low1⟩, ⟨(.int .i64), most2⟩, ⟨.sl, todos3⟩, ⟨(.int .i64), thieves4⟩, ⟨.sl, picks5⟩] (by kernel_rfl) (by kernel_rfl) (by kernel_rfl) (by kernel_rfl) H

theorem cells_New.br {size1 : Int} {h : Heap} {Q : (Option Addr × (Int × Unit)) → Heap → Prop} (H : cells_New.M (fun x0 h K => CallT Try.prog 47 [Kd.val (.int .i64) x0] false .bool h K) size1 h Q) :
    CallT Try.prog 26 [Kd.val (.int .i64) size1] true (.pair .ptr (.pair (.int .i64) .nil)) h Q :=
  fn_sound2 (c := weave (Try.f26.body.getD .skip) cells_New.mk) Try.func26 (by kernel_rfl) Try.ntmps26 (rs := [.tmp 2, .tmp 3]) (by kernel_rfl) [⟨(.int .i64), size1⟩] (by kernel_rfl) (by kernel_rfl) (by kernel_rfl) (by kernel_rfl) H

theorem deque_Cells.br {low1 : Int} {most2 : Int} {h : Heap} {Q : Int → Heap → Prop} (H : deque_Cells.M (fun x0 x1 h K => CallT Try.prog 46 [Kd.val (.int .i64) x0, Kd.val (.int .i64) x1] false .bool h K) low1 most2 h Q) :
    CallT Try.prog 27 [Kd.val (.int .i64) low1, Kd.val (.int .i64) most2] false (.int .i64) h Q :=
  fn_sound2 (c := weave (Try.f27.body.getD .skip) deque_Cells.mk) Try.func27 (by kernel_rfl) Try.ntmps27 (rs := [.tmp 4]) (by kernel_rfl) [⟨(.int .i64), low1⟩, ⟨(.int .i64), most2⟩] (by kernel_rfl) (by kernel_rfl) (by kernel_rfl) (by kernel_rfl) H

theorem deque_New.br {m1 : Value} {low2 : Int} {most3 : Int} {h : Heap} {Q : (Den kapiTodo × (Int × Unit)) → Heap → Prop} (H : deque_New.M (fun x0 x1 h K => CallT Try.prog 46 [Kd.val (.int .i64) x0, Kd.val (.int .i64) x1] false .bool h K) (fun x0 x1 h K => InvT Try.prog "Reserve" x0 [Kd.val (.int .i64) x1] true kapiTodo h K) (fun x0 x1 x2 h K => InvT Try.prog "Store" x0 [Kd.val (.int .i64) x1, Kd.val (.int .i64) x2] false (.int .i64) h K) m1 low2 most3 h Q) :
    CallT Try.prog 28 [Kd.val .iface m1, Kd.val (.int .i64) low2, Kd.val (.int .i64) most3] true (.pair kapiTodo (.pair (.int .i64) .nil)) h Q :=
  fn_sound2 (c := weave (Try.f28.body.getD .skip) deque_New.mk) Try.func28 (by kernel_rfl) Try.ntmps28 (rs := [.cell 6 66, .tmp 7]) (by kernel_rfl) [⟨.iface, m1⟩, ⟨(.int .i64), low2⟩, ⟨(.int .i64), most3⟩] (by kernel_rfl) (by kernel_rfl) (by kernel_rfl) (by kernel_rfl) H

theorem cells_Arena_Watch.br {a1 : Option Addr} {on2 : Bool} {h : Heap} {Q : Unit → Heap → Prop} (H : cells_Arena_Watch.M  a1 on2 h Q) :
    CallT Try.prog 29 [Kd.val .ptr a1, Kd.val .bool on2] true .nil h Q :=
  fn_sound2 (c := weave (Try.f29.body.getD .skip) cells_Arena_Watch.mk) Try.func29 (by kernel_rfl) Try.ntmps29 (rs := []) (by kernel_rfl) [⟨.ptr, a1⟩, ⟨.bool, on2⟩] (by kernel_rfl) (by kernel_rfl) (by kernel_rfl) (by kernel_rfl) H

theorem deque_game_step.br {g1 : Option Addr} {n2 : Int} {who3 : Int} {h : Heap} {Q : Unit → Heap → Prop} (H : deque_game_step.M (fun x0 x1 x2 h K => CallT Try.prog 48 [Kd.val .ptr x0, Kd.val (.int .i64) x1, Kd.val (.int .i64) x2] false .bool h K) (fun x0 x1 h K => CallT Try.prog 49 [Kd.val .ptr x0, Kd.val (.int .i64) x1] true .nil h K) (fun x0 x1 h K => CallT Try.prog 50 [Kd.val .iface x0, Kd.val kdequeOp x1] false kdequeOp h K) (fun x0 h K => CallT Try.prog 51 [Kd.val kdequeOp x0] true kapiTodo h K) g1 n2 who3 h Q) :
    CallT Try.prog 30 [Kd.val .ptr g1, Kd.val (.int .i64) n2, Kd.val (.int .i64) who3] true .nil h Q :=
  fn_sound2 (c := weave (Try.f30.body.getD .skip) deque_game_step.mk) Try.func30 (by kernel_rfl) Try.ntmps30 (rs := []) (by kernel_rfl) [⟨.ptr, g1⟩, ⟨(.int .i64), n2⟩, ⟨(.int .i64), who3⟩] (by kernel_rfl) (by kernel_rfl) (by kernel_rfl) (by kernel_rfl) H

theorem ops_Mod.br {x1 : Int} {n2 : Int} {h : Heap} {Q : Int → Heap → Prop} (H : ops_Mod.M  x1 n2 h Q) :
    CallT Try.prog 31 [Kd.val (.int .i64) x1, Kd.val (.int .i64) n2] false (.int .i64) h Q :=
  fn_sound2 (c := weave (Try.f31.body.getD .skip) ops_Mod.mk) Try.func31 (by kernel_rfl) Try.ntmps31 (rs := [.tmp 4]) (by kernel_rfl) [⟨(.int .i64), x1⟩, ⟨(.int .i64), n2⟩] (by kernel_rfl) (by kernel_rfl) (by kernel_rfl) (by kernel_rfl) H

theorem deque_game_rest.br {g1 : Option Addr} {h : Heap} {Q : Sl → Heap → Prop} (H : deque_game_rest.M (fun x0 h K => CallT Try.prog 52 [Kd.val .ptr x0] false .sl h K) (fun x0 x1 x2 h K => CallT Try.prog 53 [Kd.val (.int .i64) x0, Kd.val (.int .i64) x1, Kd.val (.int .i64) x2] false (.int .i64) h K) g1 h Q) :
    CallT Try.prog 32 [Kd.val .ptr g1] false .sl h Q :=
  fn_sound2 (c := weave (Try.f32.body.getD .skip) deque_game_rest.mk) Try.func32 (by kernel_rfl) Try.ntmps32 (rs := [.tmp 2]) (by kernel_rfl) [⟨.ptr, g1⟩] (by kernel_rfl) (by kernel_rfl) (by kernel_rfl) (by kernel_rfl) H

theorem cells_Arena_Log.br {a1 : Option Addr} {h : Heap} {Q : Sl → Heap → Prop} (H : cells_Arena_Log.M  a1 h Q) :
    CallT Try.prog 33 [Kd.val .ptr a1] false .sl h Q :=
  fn_sound2 (c := weave (Try.f33.body.getD .skip) cells_Arena_Log.mk) Try.func33 (by kernel_rfl) Try.ntmps33 (rs := [.tmp 2]) (by kernel_rfl) [⟨.ptr, a1⟩] (by kernel_rfl) (by kernel_rfl) (by kernel_rfl) (by kernel_rfl) H

theorem law3_mod.br {x1 : Int} {n2 : Int} {h : Heap} {Q : Int → Heap → Prop} (H : law3_mod.M  x1 n2 h Q) :
    CallT Try.prog 34 [Kd.val (.int .i64) x1, Kd.val (.int .i64) n2] false (.int .i64) h Q :=
  fn_sound2 (c := weave (Try.f34.body.getD .skip) law3_mod.mk) Try.func34 (by kernel_rfl) Try.ntmps34 (rs := [.tmp 4]) (by kernel_rfl) [⟨(.int .i64), x1⟩, ⟨(.int .i64), n2⟩] (by kernel_rfl) (by kernel_rfl) (by kernel_rfl) (by kernel_rfl) H

theorem law3_own.br {picks1 : Sl} {thieves2 : Int} {who3 : Int} {lo4 : Int} {hi5 : Int} {h : Heap} {Q : Int → Heap → Prop} (H : law3_own.M (fun x0 x1 h K => CallT Try.prog 34 [Kd.val (.int .i64) x0, Kd.val (.int .i64) x1] false (.int .i64) h K) picks1 thieves2 who3 lo4 hi5 h Q) :
    CallT Try.prog 35 [Kd.val .sl picks1, Kd.val (.int .i64) thieves2, Kd.val (.int .i64) who3, Kd.val (.int .i64) lo4, Kd.val (.int .i64) hi5] false (.int .i64) h Q :=
  fn_sound2 (c := weave (Try.f35.body.getD .skip) law3_own.mk) Try.func35 (by kernel_rfl) Try.ntmps35 (rs := [.tmp 10]) (by kernel_rfl) [⟨.sl, picks1⟩, ⟨(.int .i64), thieves2⟩, ⟨(.int .i64), who3⟩, ⟨(.int .i64), lo4⟩, ⟨(.int .i64), hi5⟩] (by kernel_rfl) (by kernel_rfl) (by kernel_rfl) (by kernel_rfl) H

theorem law4_has.br {calls1 : Sl} {who2 : Int} {at_3 : Int} {h : Heap} {Q : Bool → Heap → Prop} (H : law4_has.M  calls1 who2 at_3 h Q) :
    CallT Try.prog 36 [Kd.val .sl calls1, Kd.val (.int .i64) who2, Kd.val (.int .i64) at_3] false .bool h Q :=
  fn_sound2 (c := weave (Try.f36.body.getD .skip) law4_has.mk) Try.func36 (by kernel_rfl) Try.ntmps36 (rs := [.tmp 6]) (by kernel_rfl) [⟨.sl, calls1⟩, ⟨(.int .i64), who2⟩, ⟨(.int .i64), at_3⟩] (by kernel_rfl) (by kernel_rfl) (by kernel_rfl) (by kernel_rfl) H

theorem hist_goodMost.br {most1 : Int} {h : Heap} {Q : Bool → Heap → Prop} (H : hist_goodMost.M  most1 h Q) :
    CallT Try.prog 37 [Kd.val (.int .i64) most1] false .bool h Q :=
  fn_sound2 (c := weave (Try.f37.body.getD .skip) hist_goodMost.mk) Try.func37 (by kernel_rfl) Try.ntmps37 (rs := [.tmp 2]) (by kernel_rfl) [⟨(.int .i64), most1⟩] (by kernel_rfl) (by kernel_rfl) (by kernel_rfl) (by kernel_rfl) H

theorem hist_row_does.br {r1 : Sl} {c2 : Den kapiCall} {most3 : Int} {h : Heap} {Q : (Sl × (Bool × Unit)) → Heap → Prop} (H : hist_row_does.M  r1 c2 most3 h Q) :
    CallT Try.prog 38 [Kd.val .sl r1, Kd.val kapiCall c2, Kd.val (.int .i64) most3] true (.pair .sl (.pair .bool .nil)) h Q :=
  fn_sound2 (c := weave (Try.f38.body.getD .skip) hist_row_does.mk) Try.func38 (by kernel_rfl) Try.ntmps38 (rs := [.tmp 6, .tmp 7]) (by kernel_rfl) [⟨.sl, r1⟩, ⟨kapiCall, c2⟩, ⟨(.int .i64), most3⟩] (by kernel_rfl) (by kernel_rfl) (by kernel_rfl) (by kernel_rfl) H

theorem slices_Clone_int64_int64.br {s1 : Sl} {h : Heap} {Q : Sl → Heap → Prop} (H : slices_Clone_int64_int64.M  s1 h Q) :
    CallT Try.prog 39 [Kd.val .sl s1] false .sl h Q :=
  fn_sound2 (c := weave (Try.f39.body.getD .skip) slices_Clone_int64_int64.mk) Try.func39 (by kernel_rfl) Try.ntmps39 (rs := [.tmp 2]) (by kernel_rfl) [⟨.sl, s1⟩] (by kernel_rfl) (by kernel_rfl) (by kernel_rfl) (by kernel_rfl) H

theorem hist_history.br {calls1 : Sl} {h : Heap} {Q : Bool → Heap → Prop} (H : hist_history.M (fun x0 h K => CallT Try.prog 54 [Kd.val kapiCall x0] false .bool h K) calls1 h Q) :
    CallT Try.prog 40 [Kd.val .sl calls1] false .bool h Q :=
  fn_sound2 (c := weave (Try.f40.body.getD .skip) hist_history.mk) Try.func40 (by kernel_rfl) Try.ntmps40 (rs := [.tmp 2]) (by kernel_rfl) [⟨.sl, calls1⟩] (by kernel_rfl) (by kernel_rfl) (by kernel_rfl) (by kernel_rfl) H

theorem hist_search_from.br {s1 : Option Addr} {taken2 : (Fin 4 → Int)} {held3 : Sl} {h : Heap} {Q : Bool → Heap → Prop} (H : hist_search_from.M (fun x0 x1 h K => CallT Try.prog 55 [Kd.val .ptr x0, Kd.val (.arr 4 (.int .i64)) x1] false .bool h K) (fun x0 x1 x2 h K => CallT Try.prog 38 [Kd.val .sl x0, Kd.val kapiCall x1, Kd.val (.int .i64) x2] true (.pair .sl (.pair .bool .nil)) h K) (fun x0 x1 x2 h K => CallT Try.prog 56 [Kd.val .ptr x0, Kd.val (.arr 4 (.int .i64)) x1, Kd.val kapiCall x2] false .bool h K) (fun x0 x1 x2 h K => CallT Try.prog 41 [Kd.val .ptr x0, Kd.val (.arr 4 (.int .i64)) x1, Kd.val .sl x2] false .bool h K) s1 taken2 held3 h Q) :
    CallT Try.prog 41 [Kd.val .ptr s1, Kd.val (.arr 4 (.int .i64)) taken2, Kd.val .sl held3] false .bool h Q :=
  fn_sound2 (c := weave (Try.f41.body.getD .skip) hist_search_from.mk) Try.func41 (by kernel_rfl) Try.ntmps41 (rs := [.tmp 6]) (by kernel_rfl) [⟨.ptr, s1⟩, ⟨(.arr 4 (.int .i64)), taken2⟩, ⟨.sl, held3⟩] (by kernel_rfl) (by kernel_rfl) (by kernel_rfl) (by kernel_rfl) H

theorem slices_Clone_int_int.br {s1 : Sl} {h : Heap} {Q : Sl → Heap → Prop} (H : slices_Clone_int_int.M  s1 h Q) :
    CallT Try.prog 42 [Kd.val .sl s1] false .sl h Q :=
  fn_sound2 (c := weave (Try.f42.body.getD .skip) slices_Clone_int_int.mk) Try.func42 (by kernel_rfl) Try.ntmps42 (rs := [.tmp 2]) (by kernel_rfl) [⟨.sl, s1⟩] (by kernel_rfl) (by kernel_rfl) (by kernel_rfl) (by kernel_rfl) H

theorem ref4_Bad.br {calls1 : Sl} {most2 : Int} {h : Heap} {Q : Int → Heap → Prop} (H : ref4_Bad.M (fun x0 h K => CallT Try.prog 57 [Kd.val .sl x0] false .bool h K) calls1 most2 h Q) :
    CallT Try.prog 43 [Kd.val .sl calls1, Kd.val (.int .i64) most2] false (.int .i64) h Q :=
  fn_sound2 (c := weave (Try.f43.body.getD .skip) ref4_Bad.mk) Try.func43 (by kernel_rfl) Try.ntmps43 (rs := [.tmp 4]) (by kernel_rfl) [⟨.sl, calls1⟩, ⟨(.int .i64), most2⟩] (by kernel_rfl) (by kernel_rfl) (by kernel_rfl) (by kernel_rfl) H

theorem ref4_ahead.br {x1 : Den kapiCall} {y2 : Den kapiCall} {h : Heap} {Q : Bool → Heap → Prop} (H : ref4_ahead.M  x1 y2 h Q) :
    CallT Try.prog 44 [Kd.val kapiCall x1, Kd.val kapiCall y2] false .bool h Q :=
  fn_sound2 (c := weave (Try.f44.body.getD .skip) ref4_ahead.mk) Try.func44 (by kernel_rfl) Try.ntmps44 (rs := [.tmp 4]) (by kernel_rfl) [⟨kapiCall, x1⟩, ⟨kapiCall, y2⟩] (by kernel_rfl) (by kernel_rfl) (by kernel_rfl) (by kernel_rfl) H

theorem ref4_Do.br {row1 : Sl} {c2 : Den kapiCall} {most3 : Int} {h : Heap} {Q : (Sl × (Bool × Unit)) → Heap → Prop} (H : ref4_Do.M  row1 c2 most3 h Q) :
    CallT Try.prog 45 [Kd.val .sl row1, Kd.val kapiCall c2, Kd.val (.int .i64) most3] true (.pair .sl (.pair .bool .nil)) h Q :=
  fn_sound2 (c := weave (Try.f45.body.getD .skip) ref4_Do.mk) Try.func45 (by kernel_rfl) Try.ntmps45 (rs := [.tmp 6, .tmp 7]) (by kernel_rfl) [⟨.sl, row1⟩, ⟨kapiCall, c2⟩, ⟨(.int .i64), most3⟩] (by kernel_rfl) (by kernel_rfl) (by kernel_rfl) (by kernel_rfl) H

theorem deque_capsOK.br {low1 : Int} {most2 : Int} {h : Heap} {Q : Bool → Heap → Prop} (H : deque_capsOK.M  low1 most2 h Q) :
    CallT Try.prog 46 [Kd.val (.int .i64) low1, Kd.val (.int .i64) most2] false .bool h Q :=
  fn_sound2 (c := weave (Try.f46.body.getD .skip) deque_capsOK.mk) Try.func46 (by kernel_rfl) Try.ntmps46 (rs := [.tmp 4]) (by kernel_rfl) [⟨(.int .i64), low1⟩, ⟨(.int .i64), most2⟩] (by kernel_rfl) (by kernel_rfl) (by kernel_rfl) (by kernel_rfl) H

theorem cells_good.br {size1 : Int} {h : Heap} {Q : Bool → Heap → Prop} (H : cells_good.M  size1 h Q) :
    CallT Try.prog 47 [Kd.val (.int .i64) size1] false .bool h Q :=
  fn_sound2 (c := weave (Try.f47.body.getD .skip) cells_good.mk) Try.func47 (by kernel_rfl) Try.ntmps47 (rs := [.tmp 2]) (by kernel_rfl) [⟨(.int .i64), size1⟩] (by kernel_rfl) (by kernel_rfl) (by kernel_rfl) (by kernel_rfl) H

theorem deque_game_begin.br {g1 : Option Addr} {n2 : Int} {who3 : Int} {h : Heap} {Q : Bool → Heap → Prop} (H : deque_game_begin.M (fun x0 h K => CallT Try.prog 58 [Kd.val kapiTodo x0] false kdequeOp h K) (fun x0 x1 h K => CallT Try.prog 59 [Kd.val kapiTodo x0, Kd.val (.int .i64) x1] false kdequeOp h K) (fun x0 h K => CallT Try.prog 60 [Kd.val kapiTodo x0] false kdequeOp h K) g1 n2 who3 h Q) :
    CallT Try.prog 48 [Kd.val .ptr g1, Kd.val (.int .i64) n2, Kd.val (.int .i64) who3] false .bool h Q :=
  fn_sound2 (c := weave (Try.f48.body.getD .skip) deque_game_begin.mk) Try.func48 (by kernel_rfl) Try.ntmps48 (rs := [.tmp 6]) (by kernel_rfl) [⟨.ptr, g1⟩, ⟨(.int .i64), n2⟩, ⟨(.int .i64), who3⟩] (by kernel_rfl) (by kernel_rfl) (by kernel_rfl) (by kernel_rfl) H

theorem cells_Arena_Who.br {a1 : Option Addr} {actor2 : Int} {h : Heap} {Q : Unit → Heap → Prop} (H : cells_Arena_Who.M  a1 actor2 h Q) :
    CallT Try.prog 49 [Kd.val .ptr a1, Kd.val (.int .i64) actor2] true .nil h Q :=
  fn_sound2 (c := weave (Try.f49.body.getD .skip) cells_Arena_Who.mk) Try.func49 (by kernel_rfl) Try.ntmps49 (rs := []) (by kernel_rfl) [⟨.ptr, a1⟩, ⟨(.int .i64), actor2⟩] (by kernel_rfl) (by kernel_rfl) (by kernel_rfl) (by kernel_rfl) H

theorem deque_Step.br {m1 : Value} {o2 : Den kdequeOp} {h : Heap} {Q : Den kdequeOp → Heap → Prop} (H : deque_Step.M (fun x0 x1 x2 h K => CallT Try.prog 61 [Kd.val kdequeOp x0, Kd.val (.int .i64) x1, Kd.val (.int .i64) x2] false kdequeOp h K) (fun x0 x1 h K => CallT Try.prog 62 [Kd.val kdequeOp x0, Kd.val .iface x1] true kapiTodo h K) (fun x0 x1 h K => CallT Try.prog 63 [Kd.val kdequeOp x0, Kd.val (.int .i64) x1] false kdequeOp h K) (fun x0 x1 h K => CallT Try.prog 64 [Kd.val kdequeOp x0, Kd.val (.int .i64) x1] false kdequeOp h K) (fun x0 x1 h K => CallT Try.prog 65 [Kd.val kdequeOp x0, Kd.val (.int .i64) x1] false kdequeOp h K) (fun x0 x1 h K => CallT Try.prog 66 [Kd.val kdequeOp x0, Kd.val (.int .i64) x1] false kdequeOp h K) m1 o2 h Q) :
    CallT Try.prog 50 [Kd.val .iface m1, Kd.val kdequeOp o2] false kdequeOp h Q :=
  fn_sound2 (c := weave (Try.f50.body.getD .skip) deque_Step.mk) Try.func50 (by kernel_rfl) Try.ntmps50 (rs := [.cell 4 75]) (by kernel_rfl) [⟨.iface, m1⟩, ⟨kdequeOp, o2⟩] (by kernel_rfl) (by kernel_rfl) (by kernel_rfl) (by kernel_rfl) H

theorem deque_Answer.br {o1 : Den kdequeOp} {h : Heap} {Q : Den kapiTodo → Heap → Prop} (H : deque_Answer.M  o1 h Q) :
    CallT Try.prog 51 [Kd.val kdequeOp o1] true kapiTodo h Q :=
  fn_sound2 (c := weave (Try.f51.body.getD .skip) deque_Answer.mk) Try.func51 (by kernel_rfl) Try.ntmps51 (rs := [.tmp 2, .tmp 3]) (by kernel_rfl) [⟨kdequeOp, o1⟩] (by kernel_rfl) (by kernel_rfl) (by kernel_rfl) (by kernel_rfl) H

theorem cells_Arena_Cells.br {a1 : Option Addr} {h : Heap} {Q : Sl → Heap → Prop} (H : cells_Arena_Cells.M  a1 h Q) :
    CallT Try.prog 52 [Kd.val .ptr a1] false .sl h Q :=
  fn_sound2 (c := weave (Try.f52.body.getD .skip) cells_Arena_Cells.mk) Try.func52 (by kernel_rfl) Try.ntmps52 (rs := [.tmp 2]) (by kernel_rfl) [⟨.ptr, a1⟩] (by kernel_rfl) (by kernel_rfl) (by kernel_rfl) (by kernel_rfl) H

theorem deque_place.br {a1 : Int} {c2 : Int} {i3 : Int} {h : Heap} {Q : Int → Heap → Prop} (H : deque_place.M  a1 c2 i3 h Q) :
    CallT Try.prog 53 [Kd.val (.int .i64) a1, Kd.val (.int .i64) c2, Kd.val (.int .i64) i3] false (.int .i64) h Q :=
  fn_sound2 (c := weave (Try.f53.body.getD .skip) deque_place.mk) Try.func53 (by kernel_rfl) Try.ntmps53 (rs := [.tmp 6]) (by kernel_rfl) [⟨(.int .i64), a1⟩, ⟨(.int .i64), c2⟩, ⟨(.int .i64), i3⟩] (by kernel_rfl) (by kernel_rfl) (by kernel_rfl) (by kernel_rfl) H

theorem hist_sound.br {c1 : Den kapiCall} {h : Heap} {Q : Bool → Heap → Prop} (H : hist_sound.M (fun x0 x1 h K => CallT Try.prog 67 [Kd.val (.int .i64) x0, Kd.val (.int .i64) x1] false .bool h K) c1 h Q) :
    CallT Try.prog 54 [Kd.val kapiCall c1] false .bool h Q :=
  fn_sound2 (c := weave (Try.f54.body.getD .skip) hist_sound.mk) Try.func54 (by kernel_rfl) Try.ntmps54 (rs := [.tmp 2]) (by kernel_rfl) [⟨kapiCall, c1⟩] (by kernel_rfl) (by kernel_rfl) (by kernel_rfl) (by kernel_rfl) H

theorem hist_search_done.br {s1 : Option Addr} {taken2 : (Fin 4 → Int)} {h : Heap} {Q : Bool → Heap → Prop} (H : hist_search_done.M  s1 taken2 h Q) :
    CallT Try.prog 55 [Kd.val .ptr s1, Kd.val (.arr 4 (.int .i64)) taken2] false .bool h Q :=
  fn_sound2 (c := weave (Try.f55.body.getD .skip) hist_search_done.mk) Try.func55 (by kernel_rfl) Try.ntmps55 (rs := [.tmp 4]) (by kernel_rfl) [⟨.ptr, s1⟩, ⟨(.arr 4 (.int .i64)), taken2⟩] (by kernel_rfl) (by kernel_rfl) (by kernel_rfl) (by kernel_rfl) H

theorem hist_search_waits.br {s1 : Option Addr} {taken2 : (Fin 4 → Int)} {c3 : Den kapiCall} {h : Heap} {Q : Bool → Heap → Prop} (H : hist_search_waits.M  s1 taken2 c3 h Q) :
    CallT Try.prog 56 [Kd.val .ptr s1, Kd.val (.arr 4 (.int .i64)) taken2, Kd.val kapiCall c3] false .bool h Q :=
  fn_sound2 (c := weave (Try.f56.body.getD .skip) hist_search_waits.mk) Try.func56 (by kernel_rfl) Try.ntmps56 (rs := [.tmp 6]) (by kernel_rfl) [⟨.ptr, s1⟩, ⟨(.arr 4 (.int .i64)), taken2⟩, ⟨kapiCall, c3⟩] (by kernel_rfl) (by kernel_rfl) (by kernel_rfl) (by kernel_rfl) H

theorem ref4_History.br {calls1 : Sl} {h : Heap} {Q : Bool → Heap → Prop} (H : ref4_History.M (fun x0 h K => CallT Try.prog 68 [Kd.val kapiCall x0] false .bool h K) calls1 h Q) :
    CallT Try.prog 57 [Kd.val .sl calls1] false .bool h Q :=
  fn_sound2 (c := weave (Try.f57.body.getD .skip) ref4_History.mk) Try.func57 (by kernel_rfl) Try.ntmps57 (rs := [.tmp 2]) (by kernel_rfl) [⟨.sl, calls1⟩] (by kernel_rfl) (by kernel_rfl) (by kernel_rfl) (by kernel_rfl) H

theorem deque_Steal.br {d1 : Den kapiTodo} {h : Heap} {Q : Den kdequeOp → Heap → Prop} (H : deque_Steal.M (fun x0 x1 x2 x3 h K => CallT Try.prog 69 [Kd.val (.int .i64) x0, Kd.val (.int .i64) x1, Kd.val kapiTodo x2, Kd.val (.int .i64) x3] false kdequeOp h K) d1 h Q) :
    CallT Try.prog 58 [Kd.val kapiTodo d1] false kdequeOp h Q :=
  fn_sound2 (c := weave (Try.f58.body.getD .skip) deque_Steal.mk) Try.func58 (by kernel_rfl) Try.ntmps58 (rs := [.cell 2 75]) (by kernel_rfl) [⟨kapiTodo, d1⟩] (by kernel_rfl) (by kernel_rfl) (by kernel_rfl) (by kernel_rfl) H

theorem deque_Push.br {d1 : Den kapiTodo} {v2 : Int} {h : Heap} {Q : Den kdequeOp → Heap → Prop} (H : deque_Push.M (fun x0 x1 x2 x3 h K => CallT Try.prog 69 [Kd.val (.int .i64) x0, Kd.val (.int .i64) x1, Kd.val kapiTodo x2, Kd.val (.int .i64) x3] false kdequeOp h K) d1 v2 h Q) :
    CallT Try.prog 59 [Kd.val kapiTodo d1, Kd.val (.int .i64) v2] false kdequeOp h Q :=
  fn_sound2 (c := weave (Try.f59.body.getD .skip) deque_Push.mk) Try.func59 (by kernel_rfl) Try.ntmps59 (rs := [.cell 4 75]) (by kernel_rfl) [⟨kapiTodo, d1⟩, ⟨(.int .i64), v2⟩] (by kernel_rfl) (by kernel_rfl) (by kernel_rfl) (by kernel_rfl) H

theorem deque_Pop.br {d1 : Den kapiTodo} {h : Heap} {Q : Den kdequeOp → Heap → Prop} (H : deque_Pop.M (fun x0 x1 x2 x3 h K => CallT Try.prog 69 [Kd.val (.int .i64) x0, Kd.val (.int .i64) x1, Kd.val kapiTodo x2, Kd.val (.int .i64) x3] false kdequeOp h K) d1 h Q) :
    CallT Try.prog 60 [Kd.val kapiTodo d1] false kdequeOp h Q :=
  fn_sound2 (c := weave (Try.f60.body.getD .skip) deque_Pop.mk) Try.func60 (by kernel_rfl) Try.ntmps60 (rs := [.cell 2 75]) (by kernel_rfl) [⟨kapiTodo, d1⟩] (by kernel_rfl) (by kernel_rfl) (by kernel_rfl) (by kernel_rfl) H

theorem deque_Op_over.br {o1 : Den kdequeOp} {code2 : Int} {v3 : Int} {h : Heap} {Q : Den kdequeOp → Heap → Prop} (H : deque_Op_over.M  o1 code2 v3 h Q) :
    CallT Try.prog 61 [Kd.val kdequeOp o1, Kd.val (.int .i64) code2, Kd.val (.int .i64) v3] false kdequeOp h Q :=
  fn_sound2 (c := weave (Try.f61.body.getD .skip) deque_Op_over.mk) Try.func61 (by kernel_rfl) Try.ntmps61 (rs := [.cell 6 75]) (by kernel_rfl) [⟨kdequeOp, o1⟩, ⟨(.int .i64), code2⟩, ⟨(.int .i64), v3⟩] (by kernel_rfl) (by kernel_rfl) (by kernel_rfl) (by kernel_rfl) H

theorem deque_Op_access.br {o1 : Den kdequeOp} {m2 : Value} {h : Heap} {Q : Den kapiTodo → Heap → Prop} (H : deque_Op_access.M (fun x0 x1 h K => InvT Try.prog "Load" x0 [Kd.val (.int .i64) x1] true kapiTodo h K) (fun x0 x1 h K => InvT Try.prog "Reserve" x0 [Kd.val (.int .i64) x1] true kapiTodo h K) (fun x0 x1 x2 h K => InvT Try.prog "Store" x0 [Kd.val (.int .i64) x1, Kd.val (.int .i64) x2] false (.int .i64) h K) (fun x0 x1 x2 h K => CallT Try.prog 53 [Kd.val (.int .i64) x0, Kd.val (.int .i64) x1, Kd.val (.int .i64) x2] false (.int .i64) h K) (fun x0 h K => CallT Try.prog 70 [Kd.val kdequeOp x0] false (.int .i64) h K) (fun x0 x1 x2 x3 h K => InvT Try.prog "CAS" x0 [Kd.val (.int .i64) x1, Kd.val (.int .i64) x2, Kd.val (.int .i64) x3] true (.pair .bool (.pair (.int .i64) .nil)) h K) (NilT Try.prog) o1 m2 h Q) :
    CallT Try.prog 62 [Kd.val kdequeOp o1, Kd.val .iface m2] true kapiTodo h Q :=
  fn_sound2 (c := weave (Try.f62.body.getD .skip) deque_Op_access.mk) Try.func62 (by kernel_rfl) Try.ntmps62 (rs := [.tmp 4, .tmp 5]) (by kernel_rfl) [⟨kdequeOp, o1⟩, ⟨.iface, m2⟩] (by kernel_rfl) (by kernel_rfl) (by kernel_rfl) (by kernel_rfl) H

theorem deque_Op_pushed.br {o1 : Den kdequeOp} {got2 : Int} {h : Heap} {Q : Den kdequeOp → Heap → Prop} (H : deque_Op_pushed.M (fun x0 x1 x2 h K => CallT Try.prog 61 [Kd.val kdequeOp x0, Kd.val (.int .i64) x1, Kd.val (.int .i64) x2] false kdequeOp h K) o1 got2 h Q) :
    CallT Try.prog 63 [Kd.val kdequeOp o1, Kd.val (.int .i64) got2] false kdequeOp h Q :=
  fn_sound2 (c := weave (Try.f63.body.getD .skip) deque_Op_pushed.mk) Try.func63 (by kernel_rfl) Try.ntmps63 (rs := [.cell 4 75]) (by kernel_rfl) [⟨kdequeOp, o1⟩, ⟨(.int .i64), got2⟩] (by kernel_rfl) (by kernel_rfl) (by kernel_rfl) (by kernel_rfl) H

theorem deque_Op_popped.br {o1 : Den kdequeOp} {got2 : Int} {h : Heap} {Q : Den kdequeOp → Heap → Prop} (H : deque_Op_popped.M (fun x0 x1 x2 h K => CallT Try.prog 61 [Kd.val kdequeOp x0, Kd.val (.int .i64) x1, Kd.val (.int .i64) x2] false kdequeOp h K) o1 got2 h Q) :
    CallT Try.prog 64 [Kd.val kdequeOp o1, Kd.val (.int .i64) got2] false kdequeOp h Q :=
  fn_sound2 (c := weave (Try.f64.body.getD .skip) deque_Op_popped.mk) Try.func64 (by kernel_rfl) Try.ntmps64 (rs := [.cell 4 75]) (by kernel_rfl) [⟨kdequeOp, o1⟩, ⟨(.int .i64), got2⟩] (by kernel_rfl) (by kernel_rfl) (by kernel_rfl) (by kernel_rfl) H

theorem deque_Op_stolen.br {o1 : Den kdequeOp} {got2 : Int} {h : Heap} {Q : Den kdequeOp → Heap → Prop} (H : deque_Op_stolen.M (fun x0 x1 x2 h K => CallT Try.prog 61 [Kd.val kdequeOp x0, Kd.val (.int .i64) x1, Kd.val (.int .i64) x2] false kdequeOp h K) o1 got2 h Q) :
    CallT Try.prog 65 [Kd.val kdequeOp o1, Kd.val (.int .i64) got2] false kdequeOp h Q :=
  fn_sound2 (c := weave (Try.f65.body.getD .skip) deque_Op_stolen.mk) Try.func65 (by kernel_rfl) Try.ntmps65 (rs := [.cell 4 75]) (by kernel_rfl) [⟨kdequeOp, o1⟩, ⟨(.int .i64), got2⟩] (by kernel_rfl) (by kernel_rfl) (by kernel_rfl) (by kernel_rfl) H

theorem deque_Op_looked.br {o1 : Den kdequeOp} {got2 : Int} {h : Heap} {Q : Den kdequeOp → Heap → Prop} (H : deque_Op_looked.M (fun x0 x1 x2 h K => CallT Try.prog 61 [Kd.val kdequeOp x0, Kd.val (.int .i64) x1, Kd.val (.int .i64) x2] false kdequeOp h K) o1 got2 h Q) :
    CallT Try.prog 66 [Kd.val kdequeOp o1, Kd.val (.int .i64) got2] false kdequeOp h Q :=
  fn_sound2 (c := weave (Try.f66.body.getD .skip) deque_Op_looked.mk) Try.func66 (by kernel_rfl) Try.ntmps66 (rs := [.cell 4 75]) (by kernel_rfl) [⟨kdequeOp, o1⟩, ⟨(.int .i64), got2⟩] (by kernel_rfl) (by kernel_rfl) (by kernel_rfl) (by kernel_rfl) H

theorem hist_may.br {kind1 : Int} {code2 : Int} {h : Heap} {Q : Bool → Heap → Prop} (H : hist_may.M  kind1 code2 h Q) :
    CallT Try.prog 67 [Kd.val (.int .i64) kind1, Kd.val (.int .i64) code2] false .bool h Q :=
  fn_sound2 (c := weave (Try.f67.body.getD .skip) hist_may.mk) Try.func67 (by kernel_rfl) Try.ntmps67 (rs := [.tmp 4]) (by kernel_rfl) [⟨(.int .i64), kind1⟩, ⟨(.int .i64), code2⟩] (by kernel_rfl) (by kernel_rfl) (by kernel_rfl) (by kernel_rfl) H

theorem ref4_single.br {c1 : Den kapiCall} {h : Heap} {Q : Bool → Heap → Prop} (H : ref4_single.M (fun x0 x1 h K => CallT Try.prog 71 [Kd.val (.int .i64) x0, Kd.val (.int .i64) x1] false .bool h K) c1 h Q) :
    CallT Try.prog 68 [Kd.val kapiCall c1] false .bool h Q :=
  fn_sound2 (c := weave (Try.f68.body.getD .skip) ref4_single.mk) Try.func68 (by kernel_rfl) Try.ntmps68 (rs := [.tmp 2]) (by kernel_rfl) [⟨kapiCall, c1⟩] (by kernel_rfl) (by kernel_rfl) (by kernel_rfl) (by kernel_rfl) H

theorem deque_begin.br {kind1 : Int} {at_2 : Int} {d3 : Den kapiTodo} {v4 : Int} {h : Heap} {Q : Den kdequeOp → Heap → Prop} (H : deque_begin.M  kind1 at_2 d3 v4 h Q) :
    CallT Try.prog 69 [Kd.val (.int .i64) kind1, Kd.val (.int .i64) at_2, Kd.val kapiTodo d3, Kd.val (.int .i64) v4] false kdequeOp h Q :=
  fn_sound2 (c := weave (Try.f69.body.getD .skip) deque_begin.mk) Try.func69 (by kernel_rfl) Try.ntmps69 (rs := [.cell 8 75]) (by kernel_rfl) [⟨(.int .i64), kind1⟩, ⟨(.int .i64), at_2⟩, ⟨kapiTodo, d3⟩, ⟨(.int .i64), v4⟩] (by kernel_rfl) (by kernel_rfl) (by kernel_rfl) (by kernel_rfl) H

theorem deque_Op_next.br {o1 : Den kdequeOp} {h : Heap} {Q : Int → Heap → Prop} (H : deque_Op_next.M  o1 h Q) :
    CallT Try.prog 70 [Kd.val kdequeOp o1] false (.int .i64) h Q :=
  fn_sound2 (c := weave (Try.f70.body.getD .skip) deque_Op_next.mk) Try.func70 (by kernel_rfl) Try.ntmps70 (rs := [.tmp 2]) (by kernel_rfl) [⟨kdequeOp, o1⟩] (by kernel_rfl) (by kernel_rfl) (by kernel_rfl) (by kernel_rfl) H

theorem ref4_mayAnswer.br {kind1 : Int} {code2 : Int} {h : Heap} {Q : Bool → Heap → Prop} (H : ref4_mayAnswer.M  kind1 code2 h Q) :
    CallT Try.prog 71 [Kd.val (.int .i64) kind1, Kd.val (.int .i64) code2] false .bool h Q :=
  fn_sound2 (c := weave (Try.f71.body.getD .skip) ref4_mayAnswer.mk) Try.func71 (by kernel_rfl) Try.ntmps71 (rs := [.tmp 4]) (by kernel_rfl) [⟨(.int .i64), kind1⟩, ⟨(.int .i64), code2⟩] (by kernel_rfl) (by kernel_rfl) (by kernel_rfl) (by kernel_rfl) H

theorem cells_Arena_CAS.br {a1 : Option Addr} {addr2 : Int} {old3 : Int} {next4 : Int} {h : Heap} {Q : (Bool × (Int × Unit)) → Heap → Prop} (H : cells_Arena_CAS.M (fun x0 x1 h K => CallT Try.prog 92 [Kd.val .ptr x0, Kd.val (.int .i64) x1] false .bool h K) (fun x0 x1 x2 x3 x4 x5 h K => CallT Try.prog 93 [Kd.val .ptr x0, Kd.val (.int .i64) x1, Kd.val (.int .i64) x2, Kd.val (.int .i64) x3, Kd.val (.int .i64) x4, Kd.val .bool x5] true .nil h K) a1 addr2 old3 next4 h Q) :
    CallT Try.prog 87 [Kd.val .ptr a1, Kd.val (.int .i64) addr2, Kd.val (.int .i64) old3, Kd.val (.int .i64) next4] true (.pair .bool (.pair (.int .i64) .nil)) h Q :=
  fn_sound2 (c := weave (Try.f87.body.getD .skip) cells_Arena_CAS.mk) Try.func87 (by kernel_rfl) Try.ntmps87 (rs := [.tmp 8, .tmp 9]) (by kernel_rfl) [⟨.ptr, a1⟩, ⟨(.int .i64), addr2⟩, ⟨(.int .i64), old3⟩, ⟨(.int .i64), next4⟩] (by kernel_rfl) (by kernel_rfl) (by kernel_rfl) (by kernel_rfl) H

theorem cells_Arena_Load.br {a1 : Option Addr} {addr2 : Int} {h : Heap} {Q : Den kapiTodo → Heap → Prop} (H : cells_Arena_Load.M (fun x0 x1 h K => CallT Try.prog 92 [Kd.val .ptr x0, Kd.val (.int .i64) x1] false .bool h K) (fun x0 x1 x2 x3 x4 x5 h K => CallT Try.prog 93 [Kd.val .ptr x0, Kd.val (.int .i64) x1, Kd.val (.int .i64) x2, Kd.val (.int .i64) x3, Kd.val (.int .i64) x4, Kd.val .bool x5] true .nil h K) a1 addr2 h Q) :
    CallT Try.prog 88 [Kd.val .ptr a1, Kd.val (.int .i64) addr2] true kapiTodo h Q :=
  fn_sound2 (c := weave (Try.f88.body.getD .skip) cells_Arena_Load.mk) Try.func88 (by kernel_rfl) Try.ntmps88 (rs := [.tmp 4, .tmp 5]) (by kernel_rfl) [⟨.ptr, a1⟩, ⟨(.int .i64), addr2⟩] (by kernel_rfl) (by kernel_rfl) (by kernel_rfl) (by kernel_rfl) H

theorem cells_Arena_Reserve.br {a1 : Option Addr} {n2 : Int} {h : Heap} {Q : Den kapiTodo → Heap → Prop} (H : cells_Arena_Reserve.M (fun x0 x1 h K => CallT Try.prog 94 [Kd.val .ptr x0, Kd.val (.int .i64) x1] false (.int .i64) h K) (fun x0 x1 h K => CallT Try.prog 95 [Kd.val .ptr x0, Kd.val (.int .i64) x1] false (.int .i64) h K) (fun x0 x1 x2 x3 x4 x5 h K => CallT Try.prog 93 [Kd.val .ptr x0, Kd.val (.int .i64) x1, Kd.val (.int .i64) x2, Kd.val (.int .i64) x3, Kd.val (.int .i64) x4, Kd.val .bool x5] true .nil h K) a1 n2 h Q) :
    CallT Try.prog 90 [Kd.val .ptr a1, Kd.val (.int .i64) n2] true kapiTodo h Q :=
  fn_sound2 (c := weave (Try.f90.body.getD .skip) cells_Arena_Reserve.mk) Try.func90 (by kernel_rfl) Try.ntmps90 (rs := [.tmp 4, .tmp 5]) (by kernel_rfl) [⟨.ptr, a1⟩, ⟨(.int .i64), n2⟩] (by kernel_rfl) (by kernel_rfl) (by kernel_rfl) (by kernel_rfl) H

theorem cells_Arena_Store.br {a1 : Option Addr} {addr2 : Int} {v3 : Int} {h : Heap} {Q : Int → Heap → Prop} (H : cells_Arena_Store.M (fun x0 x1 h K => CallT Try.prog 92 [Kd.val .ptr x0, Kd.val (.int .i64) x1] false .bool h K) (fun x0 x1 x2 x3 x4 x5 h K => CallT Try.prog 93 [Kd.val .ptr x0, Kd.val (.int .i64) x1, Kd.val (.int .i64) x2, Kd.val (.int .i64) x3, Kd.val (.int .i64) x4, Kd.val .bool x5] true .nil h K) a1 addr2 v3 h Q) :
    CallT Try.prog 91 [Kd.val .ptr a1, Kd.val (.int .i64) addr2, Kd.val (.int .i64) v3] false (.int .i64) h Q :=
  fn_sound2 (c := weave (Try.f91.body.getD .skip) cells_Arena_Store.mk) Try.func91 (by kernel_rfl) Try.ntmps91 (rs := [.tmp 6]) (by kernel_rfl) [⟨.ptr, a1⟩, ⟨(.int .i64), addr2⟩, ⟨(.int .i64), v3⟩] (by kernel_rfl) (by kernel_rfl) (by kernel_rfl) (by kernel_rfl) H

theorem cells_Arena_outside.br {a1 : Option Addr} {addr2 : Int} {h : Heap} {Q : Bool → Heap → Prop} (H : cells_Arena_outside.M (fun x0 x1 h K => CallT Try.prog 96 [Kd.val .ptr x0, Kd.val (.int .i64) x1] false .bool h K) a1 addr2 h Q) :
    CallT Try.prog 92 [Kd.val .ptr a1, Kd.val (.int .i64) addr2] false .bool h Q :=
  fn_sound2 (c := weave (Try.f92.body.getD .skip) cells_Arena_outside.mk) Try.func92 (by kernel_rfl) Try.ntmps92 (rs := [.tmp 4]) (by kernel_rfl) [⟨.ptr, a1⟩, ⟨(.int .i64), addr2⟩] (by kernel_rfl) (by kernel_rfl) (by kernel_rfl) (by kernel_rfl) H

theorem cells_Arena_note.br {a1 : Option Addr} {kind2 : Int} {addr3 : Int} {x4 : Int} {y5 : Int} {ok6 : Bool} {h : Heap} {Q : Unit → Heap → Prop} (H : cells_Arena_note.M  a1 kind2 addr3 x4 y5 ok6 h Q) :
    CallT Try.prog 93 [Kd.val .ptr a1, Kd.val (.int .i64) kind2, Kd.val (.int .i64) addr3, Kd.val (.int .i64) x4, Kd.val (.int .i64) y5, Kd.val .bool ok6] true .nil h Q :=
  fn_sound2 (c := weave (Try.f93.body.getD .skip) cells_Arena_note.mk) Try.func93 (by kernel_rfl) Try.ntmps93 (rs := []) (by kernel_rfl) [⟨.ptr, a1⟩, ⟨(.int .i64), kind2⟩, ⟨(.int .i64), addr3⟩, ⟨(.int .i64), x4⟩, ⟨(.int .i64), y5⟩, ⟨.bool, ok6⟩] (by kernel_rfl) (by kernel_rfl) (by kernel_rfl) (by kernel_rfl) H

theorem cells_ledger_refuse.br {l1 : Option Addr} {n2 : Int} {h : Heap} {Q : Int → Heap → Prop} (H : cells_ledger_refuse.M  l1 n2 h Q) :
    CallT Try.prog 94 [Kd.val .ptr l1, Kd.val (.int .i64) n2] false (.int .i64) h Q :=
  fn_sound2 (c := weave (Try.f94.body.getD .skip) cells_ledger_refuse.mk) Try.func94 (by kernel_rfl) Try.ntmps94 (rs := [.tmp 4]) (by kernel_rfl) [⟨.ptr, l1⟩, ⟨(.int .i64), n2⟩] (by kernel_rfl) (by kernel_rfl) (by kernel_rfl) (by kernel_rfl) H

theorem cells_ledger_take.br {l1 : Option Addr} {n2 : Int} {h : Heap} {Q : Int → Heap → Prop} (H : cells_ledger_take.M  l1 n2 h Q) :
    CallT Try.prog 95 [Kd.val .ptr l1, Kd.val (.int .i64) n2] false (.int .i64) h Q :=
  fn_sound2 (c := weave (Try.f95.body.getD .skip) cells_ledger_take.mk) Try.func95 (by kernel_rfl) Try.ntmps95 (rs := [.tmp 4]) (by kernel_rfl) [⟨.ptr, l1⟩, ⟨(.int .i64), n2⟩] (by kernel_rfl) (by kernel_rfl) (by kernel_rfl) (by kernel_rfl) H

theorem cells_ledger_has.br {l1 : Option Addr} {addr2 : Int} {h : Heap} {Q : Bool → Heap → Prop} (H : cells_ledger_has.M  l1 addr2 h Q) :
    CallT Try.prog 96 [Kd.val .ptr l1, Kd.val (.int .i64) addr2] false .bool h Q :=
  fn_sound2 (c := weave (Try.f96.body.getD .skip) cells_ledger_has.mk) Try.func96 (by kernel_rfl) Try.ntmps96 (rs := [.tmp 4]) (by kernel_rfl) [⟨.ptr, l1⟩, ⟨(.int .i64), addr2⟩] (by kernel_rfl) (by kernel_rfl) (by kernel_rfl) (by kernel_rfl) H

end Go.Mx
