/-
  The bridges: a function's calls, by what it comes to over abstract heaps: printed by a program of this workplace.
-/
import Derived.Test.YthkjfdbmkggemaaMd
import Derived.Test.YthkjfdbmkggemaaProg
set_option linter.unusedVariables false
set_option maxRecDepth 100000
namespace Go.Mx
open Go.Proofs
theorem law21_BuffersCalm.br {room1 : Int} {lists2 : Sl} {picks3 : Sl} {h : Heap} {Q : Bool → Heap → Prop} (H : law21_BuffersCalm.M (fun x0 x1 h K => CallT Try.prog 8 [Kd.val .sl x0, Kd.val .bool x1] false .sl h K) (fun x0 h K => CallT Try.prog 7 [Kd.val .sl x0] false .sl h K) (fun x0 x1 h K => CallT Try.prog 9 [Kd.val (.int .i64) x0, Kd.val (.int .i64) x1] false (.int .i64) h K) (fun x0 x1 x2 x3 x4 h K => CallT Try.prog 10 [Kd.val (.int .i64) x0, Kd.val (.int .i64) x1, Kd.val (.int .i64) x2, Kd.val .sl x3, Kd.val .sl x4] true (.pair kapiBufferRun (.pair (.int .i64) .nil)) h K) (fun x0 x1 x2 h K => CallT Try.prog 11 [Kd.val kapiBufferRun x0, Kd.val .sl x1, Kd.val .sl x2] false .bool h K) (fun x0 x1 h K => CallT Try.prog 13 [Kd.val (.int .i64) x0, Kd.val .sl x1] false .sl h K) (fun x0 x1 h K => CallT Try.prog 12 [Kd.val (.int .i64) x0, Kd.val .sl x1] true (.pair kapiCellRun (.pair (.int .i64) .nil)) h K) room1 lists2 picks3 h Q) :
    CallT Try.prog 3 [Kd.val (.int .i64) room1, Kd.val .sl lists2, Kd.val .sl picks3] false .bool h Q :=
  fn_sound2 (c := weave (Try.f3.body.getD .skip) law21_BuffersCalm.mk) Try.func3 (by kernel_rfl) Try.ntmps3 (rs := [.tmp 6]) (by kernel_rfl) [⟨(.int .i64), room1⟩, ⟨.sl, lists2⟩, ⟨.sl, picks3⟩] (by kernel_rfl) (by kernel_rfl) (by kernel_rfl) (by kernel_rfl) H

theorem law21_private.br {lists1 : Sl} {h : Heap} {Q : Sl → Heap → Prop} (H : law21_private.M (fun x0 x1 h K => CallT Try.prog 9 [Kd.val (.int .i64) x0, Kd.val (.int .i64) x1] false (.int .i64) h K) lists1 h Q) :
    CallT Try.prog 7 [Kd.val .sl lists1] false .sl h Q :=
  fn_sound2 (c := weave (Try.f7.body.getD .skip) law21_private.mk) Try.func7 (by kernel_rfl) Try.ntmps7 (rs := [.tmp 2]) (by kernel_rfl) [⟨.sl, lists1⟩] (by kernel_rfl) (by kernel_rfl) (by kernel_rfl) (by kernel_rfl) H

theorem law21_few.br {lists1 : Sl} {fenced2 : Bool} {h : Heap} {Q : Sl → Heap → Prop} (H : law21_few.M (fun x0 h K => CallT Try.prog 23 [Kd.val .sl x0] false .sl h K) lists1 fenced2 h Q) :
    CallT Try.prog 8 [Kd.val .sl lists1, Kd.val .bool fenced2] false .sl h Q :=
  fn_sound2 (c := weave (Try.f8.body.getD .skip) law21_few.mk) Try.func8 (by kernel_rfl) Try.ntmps8 (rs := [.tmp 4]) (by kernel_rfl) [⟨.sl, lists1⟩, ⟨.bool, fenced2⟩] (by kernel_rfl) (by kernel_rfl) (by kernel_rfl) (by kernel_rfl) H

theorem law21_mod.br {x1 : Int} {n2 : Int} {h : Heap} {Q : Int → Heap → Prop} (H : law21_mod.M  x1 n2 h Q) :
    CallT Try.prog 9 [Kd.val (.int .i64) x1, Kd.val (.int .i64) n2] false (.int .i64) h Q :=
  fn_sound2 (c := weave (Try.f9.body.getD .skip) law21_mod.mk) Try.func9 (by kernel_rfl) Try.ntmps9 (rs := [.tmp 4]) (by kernel_rfl) [⟨(.int .i64), x1⟩, ⟨(.int .i64), n2⟩] (by kernel_rfl) (by kernel_rfl) (by kernel_rfl) (by kernel_rfl) H

theorem buffers_Play.e1 {Q : (Den kapiBufferRun × (Int × Unit)) → Heap → Prop} (s : (Sl × (Sl × (Int × (Option Addr × (Den kapiBufferRun × Unit)))))) (h : Heap) : buffers_Play.k9 (fun x0 x1 h K => CallT Try.prog 27 [Kd.val (.int .i64) x0, Kd.val (.int .i64) x1] false (.int .i64) h K) (fun x0 x1 h K => CallT Try.prog 28 [Kd.val .ptr x0, Kd.val (.int .i64) x1] false .bool h K) (fun x0 x1 h K => CallT Try.prog 29 [Kd.val .ptr x0, Kd.val (.int .i64) x1] false .ptr h K) (fun x0 x1 h K => CallT Try.prog 30 [Kd.val .ptr x0, Kd.val kapiAct x1] false kapiEffect h K) (fun x0 x1 h K => CallT Try.prog 31 [Kd.val .ptr x0, Kd.val (.int .i64) x1] false .sl h K) (fun x0 h K => CallT Try.prog 32 [Kd.val .ptr x0] false .sl h K) (fun x0 h K => CallT Try.prog 33 [Kd.val .ptr x0] false .sl h K) Q s h = interp Try.prog 154 (AC.rest 5 (weave (Try.f10.body.getD .skip) buffers_Play.mk)) [] (setC [.slot 3 .sl, .slot 4 .sl, .slot 13 (.int .i64), .slot 14 .ptr, .box 10 kapiBufferRun] s (addrS [(10, 10, 0)])) (setB [.slot 3 .sl, .slot 4 .sl, .slot 13 (.int .i64), .slot 14 .ptr, .box 10 kapiBufferRun] s []) h (retK Try.prog [.cell 10 32, .tmp 11] true (.pair kapiBufferRun (.pair (.int .i64) .nil)) Q) (fun _ _ _ _ => False) (retK Try.prog [.cell 10 32, .tmp 11] true (.pair kapiBufferRun (.pair (.int .i64) .nil)) Q) :=
  (by kernel_rfl)
theorem buffers_Play.br {size1 : Int} {used2 : Int} {room3 : Int} {lists4 : Sl} {picks5 : Sl} {h : Heap} {Q : (Den kapiBufferRun × (Int × Unit)) → Heap → Prop} (H : buffers_Play.M (fun x0 x1 x2 x3 x4 h K => CallT Try.prog 24 [Kd.val (.int .i64) x0, Kd.val (.int .i64) x1, Kd.val (.int .i64) x2, Kd.val .sl x3, Kd.val .sl x4] false (.int .i64) h K) (fun x0 x1 x2 h K => CallT Try.prog 25 [Kd.val (.int .i64) x0, Kd.val (.int .i64) x1, Kd.val (.int .i64) x2] true kbuffersplace h K) (fun x0 x1 h K => CallT Try.prog 26 [Kd.val .ptr x0, Kd.val (.int .i64) x1] true .nil h K) (fun x0 x1 h K => CallT Try.prog 27 [Kd.val (.int .i64) x0, Kd.val (.int .i64) x1] false (.int .i64) h K) (fun x0 x1 h K => CallT Try.prog 28 [Kd.val .ptr x0, Kd.val (.int .i64) x1] false .bool h K) (fun x0 x1 h K => CallT Try.prog 29 [Kd.val .ptr x0, Kd.val (.int .i64) x1] false .ptr h K) (fun x0 x1 h K => CallT Try.prog 30 [Kd.val .ptr x0, Kd.val kapiAct x1] false kapiEffect h K) (fun x0 x1 h K => CallT Try.prog 31 [Kd.val .ptr x0, Kd.val (.int .i64) x1] false .sl h K) (fun x0 h K => CallT Try.prog 32 [Kd.val .ptr x0] false .sl h K) (fun x0 h K => CallT Try.prog 33 [Kd.val .ptr x0] false .sl h K) size1 used2 room3 lists4 picks5 h Q) :
    CallT Try.prog 10 [Kd.val (.int .i64) size1, Kd.val (.int .i64) used2, Kd.val (.int .i64) room3, Kd.val .sl lists4, Kd.val .sl picks5] true (.pair kapiBufferRun (.pair (.int .i64) .nil)) h Q :=
  fn_sound2 (c := weave (Try.f10.body.getD .skip) buffers_Play.mk) Try.func10 (by kernel_rfl) Try.ntmps10 (rs := [.cell 10 32, .tmp 11]) (by kernel_rfl) [⟨(.int .i64), size1⟩, ⟨(.int .i64), used2⟩, ⟨(.int .i64), room3⟩, ⟨.sl, lists4⟩, ⟨.sl, picks5⟩] (by kernel_rfl) (by kernel_rfl) (by kernel_rfl) (cut_part 5 (cc := [.slot 3 .sl, .slot 4 .sl, .slot 13 (.int .i64), .slot 14 .ptr, .box 10 kapiBufferRun]) (A := [(10, 10, 0)]) (b := (AC.rest 5 (weave (Try.f10.body.getD .skip) buffers_Play.mk))) (by kernel_rfl) (fun s h => buffers_Play.k9 (fun x0 x1 h K => CallT Try.prog 27 [Kd.val (.int .i64) x0, Kd.val (.int .i64) x1] false (.int .i64) h K) (fun x0 x1 h K => CallT Try.prog 28 [Kd.val .ptr x0, Kd.val (.int .i64) x1] false .bool h K) (fun x0 x1 h K => CallT Try.prog 29 [Kd.val .ptr x0, Kd.val (.int .i64) x1] false .ptr h K) (fun x0 x1 h K => CallT Try.prog 30 [Kd.val .ptr x0, Kd.val kapiAct x1] false kapiEffect h K) (fun x0 x1 h K => CallT Try.prog 31 [Kd.val .ptr x0, Kd.val (.int .i64) x1] false .sl h K) (fun x0 h K => CallT Try.prog 32 [Kd.val .ptr x0] false .sl h K) (fun x0 h K => CallT Try.prog 33 [Kd.val .ptr x0] false .sl h K) Q s h) (by kernel_rfl) buffers_Play.e1) H

theorem law21_progress.br {r1 : Den kapiBufferRun} {l2 : Sl} {picks3 : Sl} {h : Heap} {Q : Bool → Heap → Prop} (H : law21_progress.M (fun x0 x1 h K => CallT Try.prog 9 [Kd.val (.int .i64) x0, Kd.val (.int .i64) x1] false (.int .i64) h K) r1 l2 picks3 h Q) :
    CallT Try.prog 11 [Kd.val kapiBufferRun r1, Kd.val .sl l2, Kd.val .sl picks3] false .bool h Q :=
  fn_sound2 (c := weave (Try.f11.body.getD .skip) law21_progress.mk) Try.func11 (by kernel_rfl) Try.ntmps11 (rs := [.tmp 6]) (by kernel_rfl) [⟨kapiBufferRun, r1⟩, ⟨.sl, l2⟩, ⟨.sl, picks3⟩] (by kernel_rfl) (by kernel_rfl) (by kernel_rfl) (by kernel_rfl) H

theorem cells_Play.br {size1 : Int} {acts2 : Sl} {h : Heap} {Q : (Den kapiCellRun × (Int × Unit)) → Heap → Prop} (H : cells_Play.M (fun x0 h K => CallT Try.prog 34 [Kd.val (.int .i64) x0] true kbuffersplace h K) (fun x0 x1 h K => CallT Try.prog 35 [Kd.val .ptr x0, Kd.val .bool x1] true .nil h K) (fun x0 x1 h K => CallT Try.prog 36 [Kd.val .ptr x0, Kd.val kapiAct x1] false kapiEffect h K) (fun x0 h K => CallT Try.prog 37 [Kd.val .ptr x0] false .sl h K) (fun x0 h K => CallT Try.prog 38 [Kd.val .ptr x0] false .sl h K) size1 acts2 h Q) :
    CallT Try.prog 12 [Kd.val (.int .i64) size1, Kd.val .sl acts2] true (.pair kapiCellRun (.pair (.int .i64) .nil)) h Q :=
  fn_sound2 (c := weave (Try.f12.body.getD .skip) cells_Play.mk) Try.func12 (by kernel_rfl) Try.ntmps12 (rs := [.cell 4 42, .tmp 5]) (by kernel_rfl) [⟨(.int .i64), size1⟩, ⟨.sl, acts2⟩] (by kernel_rfl) (by kernel_rfl) (by kernel_rfl) (by kernel_rfl) H

theorem law21_opened.br {n1 : Int} {l2 : Sl} {h : Heap} {Q : Sl → Heap → Prop} (H : law21_opened.M  n1 l2 h Q) :
    CallT Try.prog 13 [Kd.val (.int .i64) n1, Kd.val .sl l2] false .sl h Q :=
  fn_sound2 (c := weave (Try.f13.body.getD .skip) law21_opened.mk) Try.func13 (by kernel_rfl) Try.ntmps13 (rs := [.tmp 4]) (by kernel_rfl) [⟨(.int .i64), n1⟩, ⟨.sl, l2⟩] (by kernel_rfl) (by kernel_rfl) (by kernel_rfl) (by kernel_rfl) H

theorem law21_guarded.br {l1 : Sl} {h : Heap} {Q : Sl → Heap → Prop} (H : law21_guarded.M  l1 h Q) :
    CallT Try.prog 23 [Kd.val .sl l1] false .sl h Q :=
  fn_sound2 (c := weave (Try.f23.body.getD .skip) law21_guarded.mk) Try.func23 (by kernel_rfl) Try.ntmps23 (rs := [.tmp 2]) (by kernel_rfl) [⟨.sl, l1⟩] (by kernel_rfl) (by kernel_rfl) (by kernel_rfl) (by kernel_rfl) H

theorem buffers_judged.br {size1 : Int} {used2 : Int} {room3 : Int} {lists4 : Sl} {picks5 : Sl} {h : Heap} {Q : Int → Heap → Prop} (H : buffers_judged.M  size1 used2 room3 lists4 picks5 h Q) :
    CallT Try.prog 24 [Kd.val (.int .i64) size1, Kd.val (.int .i64) used2, Kd.val (.int .i64) room3, Kd.val .sl lists4, Kd.val .sl picks5] false (.int .i64) h Q :=
  fn_sound2 (c := weave (Try.f24.body.getD .skip) buffers_judged.mk) Try.func24 (by kernel_rfl) Try.ntmps24 (rs := [.tmp 10]) (by kernel_rfl) [⟨(.int .i64), size1⟩, ⟨(.int .i64), used2⟩, ⟨(.int .i64), room3⟩, ⟨.sl, lists4⟩, ⟨.sl, picks5⟩] (by kernel_rfl) (by kernel_rfl) (by kernel_rfl) (by kernel_rfl) H

theorem buffers_New.br {size1 : Int} {actors2 : Int} {room3 : Int} {h : Heap} {Q : Den kbuffersplace → Heap → Prop} (H : buffers_New.M (fun x0 h K => CallT Try.prog 34 [Kd.val (.int .i64) x0] true kbuffersplace h K) (fun x0 x1 h K => CallT Try.prog 35 [Kd.val .ptr x0, Kd.val .bool x1] true .nil h K) size1 actors2 room3 h Q) :
    CallT Try.prog 25 [Kd.val (.int .i64) size1, Kd.val (.int .i64) actors2, Kd.val (.int .i64) room3] true kbuffersplace h Q :=
  fn_sound2 (c := weave (Try.f25.body.getD .skip) buffers_New.mk) Try.func25 (by kernel_rfl) Try.ntmps25 (rs := [.tmp 6, .tmp 7]) (by kernel_rfl) [⟨(.int .i64), size1⟩, ⟨(.int .i64), actors2⟩, ⟨(.int .i64), room3⟩] (by kernel_rfl) (by kernel_rfl) (by kernel_rfl) (by kernel_rfl) H

theorem buffers_Memory_use.br {m1 : Option Addr} {n2 : Int} {h : Heap} {Q : Unit → Heap → Prop} (H : buffers_Memory_use.M (fun x0 x1 h K => CallT Try.prog 35 [Kd.val .ptr x0, Kd.val .bool x1] true .nil h K) (fun x0 x1 h K => CallT Try.prog 51 [Kd.val .ptr x0, Kd.val (.int .i64) x1] true kapiTodo h K) m1 n2 h Q) :
    CallT Try.prog 26 [Kd.val .ptr m1, Kd.val (.int .i64) n2] true .nil h Q :=
  fn_sound2 (c := weave (Try.f26.body.getD .skip) buffers_Memory_use.mk) Try.func26 (by kernel_rfl) Try.ntmps26 (rs := []) (by kernel_rfl) [⟨.ptr, m1⟩, ⟨(.int .i64), n2⟩] (by kernel_rfl) (by kernel_rfl) (by kernel_rfl) (by kernel_rfl) H

theorem ops_Mod.br {x1 : Int} {n2 : Int} {h : Heap} {Q : Int → Heap → Prop} (H : ops_Mod.M  x1 n2 h Q) :
    CallT Try.prog 27 [Kd.val (.int .i64) x1, Kd.val (.int .i64) n2] false (.int .i64) h Q :=
  fn_sound2 (c := weave (Try.f27.body.getD .skip) ops_Mod.mk) Try.func27 (by kernel_rfl) Try.ntmps27 (rs := [.tmp 4]) (by kernel_rfl) [⟨(.int .i64), x1⟩, ⟨(.int .i64), n2⟩] (by kernel_rfl) (by kernel_rfl) (by kernel_rfl) (by kernel_rfl) H

theorem buffers_Memory_Flush.br {m1 : Option Addr} {actor2 : Int} {h : Heap} {Q : Bool → Heap → Prop} (H : buffers_Memory_Flush.M (fun x0 x1 h K => CallT Try.prog 52 [Kd.val .ptr x0, Kd.val (.int .i64) x1] false .bool h K) (fun x0 x1 h K => CallT Try.prog 53 [Kd.val .ptr x0, Kd.val (.int .i64) x1] true .nil h K) (fun x0 x1 x2 h K => CallT Try.prog 54 [Kd.val .ptr x0, Kd.val (.int .i64) x1, Kd.val (.int .i64) x2] false (.int .i64) h K) m1 actor2 h Q) :
    CallT Try.prog 28 [Kd.val .ptr m1, Kd.val (.int .i64) actor2] false .bool h Q :=
  fn_sound2 (c := weave (Try.f28.body.getD .skip) buffers_Memory_Flush.mk) Try.func28 (by kernel_rfl) Try.ntmps28 (rs := [.tmp 4]) (by kernel_rfl) [⟨.ptr, m1⟩, ⟨(.int .i64), actor2⟩] (by kernel_rfl) (by kernel_rfl) (by kernel_rfl) (by kernel_rfl) H

theorem buffers_Memory_View.br {m1 : Option Addr} {actor2 : Int} {h : Heap} {Q : Option Addr → Heap → Prop} (H : buffers_Memory_View.M (fun x0 x1 h K => CallT Try.prog 52 [Kd.val .ptr x0, Kd.val (.int .i64) x1] false .bool h K) m1 actor2 h Q) :
    CallT Try.prog 29 [Kd.val .ptr m1, Kd.val (.int .i64) actor2] false .ptr h Q :=
  fn_sound2 (c := weave (Try.f29.body.getD .skip) buffers_Memory_View.mk) Try.func29 (by kernel_rfl) Try.ntmps29 (rs := [.tmp 4]) (by kernel_rfl) [⟨.ptr, m1⟩, ⟨(.int .i64), actor2⟩] (by kernel_rfl) (by kernel_rfl) (by kernel_rfl) (by kernel_rfl) H

theorem buffers_View_act.br {v1 : Option Addr} {t2 : Den kapiAct} {h : Heap} {Q : Den kapiEffect → Heap → Prop} (H : buffers_View_act.M (fun x0 x1 h K => CallT Try.prog 55 [Kd.val .ptr x0, Kd.val (.int .i64) x1] true kapiTodo h K) (fun x0 x1 x2 h K => CallT Try.prog 56 [Kd.val .ptr x0, Kd.val (.int .i64) x1, Kd.val (.int .i64) x2] false (.int .i64) h K) (fun x0 x1 x2 x3 h K => CallT Try.prog 57 [Kd.val .ptr x0, Kd.val (.int .i64) x1, Kd.val (.int .i64) x2, Kd.val (.int .i64) x3] true (.pair .bool (.pair (.int .i64) .nil)) h K) (fun x0 x1 x2 h K => CallT Try.prog 58 [Kd.val .ptr x0, Kd.val (.int .i64) x1, Kd.val (.int .i64) x2] true kapiTodo h K) (fun x0 x1 h K => CallT Try.prog 59 [Kd.val .ptr x0, Kd.val (.int .i64) x1] true kapiTodo h K) (fun x0 h K => CallT Try.prog 60 [Kd.val .ptr x0] true .nil h K) v1 t2 h Q) :
    CallT Try.prog 30 [Kd.val .ptr v1, Kd.val kapiAct t2] false kapiEffect h Q :=
  fn_sound2 (c := weave (Try.f30.body.getD .skip) buffers_View_act.mk) Try.func30 (by kernel_rfl) Try.ntmps30 (rs := [.cell 4 47]) (by kernel_rfl) [⟨.ptr, v1⟩, ⟨kapiAct, t2⟩] (by kernel_rfl) (by kernel_rfl) (by kernel_rfl) (by kernel_rfl) H

theorem buffers_Memory_Waiting.br {m1 : Option Addr} {actor2 : Int} {h : Heap} {Q : Sl → Heap → Prop} (H : buffers_Memory_Waiting.M (fun x0 x1 h K => CallT Try.prog 52 [Kd.val .ptr x0, Kd.val (.int .i64) x1] false .bool h K) m1 actor2 h Q) :
    CallT Try.prog 31 [Kd.val .ptr m1, Kd.val (.int .i64) actor2] false .sl h Q :=
  fn_sound2 (c := weave (Try.f31.body.getD .skip) buffers_Memory_Waiting.mk) Try.func31 (by kernel_rfl) Try.ntmps31 (rs := [.tmp 4]) (by kernel_rfl) [⟨.ptr, m1⟩, ⟨(.int .i64), actor2⟩] (by kernel_rfl) (by kernel_rfl) (by kernel_rfl) (by kernel_rfl) H

theorem buffers_Memory_Cells.br {m1 : Option Addr} {h : Heap} {Q : Sl → Heap → Prop} (H : buffers_Memory_Cells.M (fun x0 h K => CallT Try.prog 37 [Kd.val .ptr x0] false .sl h K) m1 h Q) :
    CallT Try.prog 32 [Kd.val .ptr m1] false .sl h Q :=
  fn_sound2 (c := weave (Try.f32.body.getD .skip) buffers_Memory_Cells.mk) Try.func32 (by kernel_rfl) Try.ntmps32 (rs := [.tmp 2]) (by kernel_rfl) [⟨.ptr, m1⟩] (by kernel_rfl) (by kernel_rfl) (by kernel_rfl) (by kernel_rfl) H

theorem buffers_Memory_Log.br {m1 : Option Addr} {h : Heap} {Q : Sl → Heap → Prop} (H : buffers_Memory_Log.M (fun x0 h K => CallT Try.prog 38 [Kd.val .ptr x0] false .sl h K) m1 h Q) :
    CallT Try.prog 33 [Kd.val .ptr m1] false .sl h Q :=
  fn_sound2 (c := weave (Try.f33.body.getD .skip) buffers_Memory_Log.mk) Try.func33 (by kernel_rfl) Try.ntmps33 (rs := [.tmp 2]) (by kernel_rfl) [⟨.ptr, m1⟩] (by kernel_rfl) (by kernel_rfl) (by kernel_rfl) (by kernel_rfl) H

theorem cells_New.br {size1 : Int} {h : Heap} {Q : Den kbuffersplace → Heap → Prop} (H : cells_New.M (fun x0 h K => CallT Try.prog 61 [Kd.val (.int .i64) x0] false .bool h K) size1 h Q) :
    CallT Try.prog 34 [Kd.val (.int .i64) size1] true kbuffersplace h Q :=
  fn_sound2 (c := weave (Try.f34.body.getD .skip) cells_New.mk) Try.func34 (by kernel_rfl) Try.ntmps34 (rs := [.tmp 2, .tmp 3]) (by kernel_rfl) [⟨(.int .i64), size1⟩] (by kernel_rfl) (by kernel_rfl) (by kernel_rfl) (by kernel_rfl) H

theorem cells_Arena_Watch.br {a1 : Option Addr} {on2 : Bool} {h : Heap} {Q : Unit → Heap → Prop} (H : cells_Arena_Watch.M  a1 on2 h Q) :
    CallT Try.prog 35 [Kd.val .ptr a1, Kd.val .bool on2] true .nil h Q :=
  fn_sound2 (c := weave (Try.f35.body.getD .skip) cells_Arena_Watch.mk) Try.func35 (by kernel_rfl) Try.ntmps35 (rs := []) (by kernel_rfl) [⟨.ptr, a1⟩, ⟨.bool, on2⟩] (by kernel_rfl) (by kernel_rfl) (by kernel_rfl) (by kernel_rfl) H

theorem cells_Arena_act.br {a1 : Option Addr} {t2 : Den kapiAct} {h : Heap} {Q : Den kapiEffect → Heap → Prop} (H : cells_Arena_act.M (fun x0 x1 h K => CallT Try.prog 53 [Kd.val .ptr x0, Kd.val (.int .i64) x1] true .nil h K) (fun x0 x1 h K => CallT Try.prog 62 [Kd.val .ptr x0, Kd.val (.int .i64) x1] true kapiTodo h K) (fun x0 x1 x2 h K => CallT Try.prog 54 [Kd.val .ptr x0, Kd.val (.int .i64) x1, Kd.val (.int .i64) x2] false (.int .i64) h K) (fun x0 x1 x2 x3 h K => CallT Try.prog 63 [Kd.val .ptr x0, Kd.val (.int .i64) x1, Kd.val (.int .i64) x2, Kd.val (.int .i64) x3] true (.pair .bool (.pair (.int .i64) .nil)) h K) (fun x0 x1 x2 h K => CallT Try.prog 64 [Kd.val .ptr x0, Kd.val (.int .i64) x1, Kd.val (.int .i64) x2] true kapiTodo h K) (fun x0 x1 h K => CallT Try.prog 51 [Kd.val .ptr x0, Kd.val (.int .i64) x1] true kapiTodo h K) a1 t2 h Q) :
    CallT Try.prog 36 [Kd.val .ptr a1, Kd.val kapiAct t2] false kapiEffect h Q :=
  fn_sound2 (c := weave (Try.f36.body.getD .skip) cells_Arena_act.mk) Try.func36 (by kernel_rfl) Try.ntmps36 (rs := [.cell 4 47]) (by kernel_rfl) [⟨.ptr, a1⟩, ⟨kapiAct, t2⟩] (by kernel_rfl) (by kernel_rfl) (by kernel_rfl) (by kernel_rfl) H

theorem cells_Arena_Cells.br {a1 : Option Addr} {h : Heap} {Q : Sl → Heap → Prop} (H : cells_Arena_Cells.M  a1 h Q) :
    CallT Try.prog 37 [Kd.val .ptr a1] false .sl h Q :=
  fn_sound2 (c := weave (Try.f37.body.getD .skip) cells_Arena_Cells.mk) Try.func37 (by kernel_rfl) Try.ntmps37 (rs := [.tmp 2]) (by kernel_rfl) [⟨.ptr, a1⟩] (by kernel_rfl) (by kernel_rfl) (by kernel_rfl) (by kernel_rfl) H

theorem cells_Arena_Log.br {a1 : Option Addr} {h : Heap} {Q : Sl → Heap → Prop} (H : cells_Arena_Log.M  a1 h Q) :
    CallT Try.prog 38 [Kd.val .ptr a1] false .sl h Q :=
  fn_sound2 (c := weave (Try.f38.body.getD .skip) cells_Arena_Log.mk) Try.func38 (by kernel_rfl) Try.ntmps38 (rs := [.tmp 2]) (by kernel_rfl) [⟨.ptr, a1⟩] (by kernel_rfl) (by kernel_rfl) (by kernel_rfl) (by kernel_rfl) H

theorem buffers_Memory_drain.br {m1 : Option Addr} {actor2 : Int} {h : Heap} {Q : Unit → Heap → Prop} (H : buffers_Memory_drain.M (fun x0 x1 h K => CallT Try.prog 28 [Kd.val .ptr x0, Kd.val (.int .i64) x1] false .bool h K) m1 actor2 h Q) :
    CallT Try.prog 42 [Kd.val .ptr m1, Kd.val (.int .i64) actor2] true .nil h Q :=
  fn_sound2 (c := weave (Try.f42.body.getD .skip) buffers_Memory_drain.mk) Try.func42 (by kernel_rfl) Try.ntmps42 (rs := []) (by kernel_rfl) [⟨.ptr, m1⟩, ⟨(.int .i64), actor2⟩] (by kernel_rfl) (by kernel_rfl) (by kernel_rfl) (by kernel_rfl) H

theorem cells_Arena_Reserve.br {a1 : Option Addr} {n2 : Int} {h : Heap} {Q : Den kapiTodo → Heap → Prop} (H : cells_Arena_Reserve.M (fun x0 x1 h K => CallT Try.prog 74 [Kd.val .ptr x0, Kd.val (.int .i64) x1] false (.int .i64) h K) (fun x0 x1 h K => CallT Try.prog 75 [Kd.val .ptr x0, Kd.val (.int .i64) x1] false (.int .i64) h K) (fun x0 x1 x2 x3 x4 x5 h K => CallT Try.prog 76 [Kd.val .ptr x0, Kd.val (.int .i64) x1, Kd.val (.int .i64) x2, Kd.val (.int .i64) x3, Kd.val (.int .i64) x4, Kd.val .bool x5] true .nil h K) a1 n2 h Q) :
    CallT Try.prog 51 [Kd.val .ptr a1, Kd.val (.int .i64) n2] true kapiTodo h Q :=
  fn_sound2 (c := weave (Try.f51.body.getD .skip) cells_Arena_Reserve.mk) Try.func51 (by kernel_rfl) Try.ntmps51 (rs := [.tmp 4, .tmp 5]) (by kernel_rfl) [⟨.ptr, a1⟩, ⟨(.int .i64), n2⟩] (by kernel_rfl) (by kernel_rfl) (by kernel_rfl) (by kernel_rfl) H

theorem buffers_Memory_has.br {m1 : Option Addr} {actor2 : Int} {h : Heap} {Q : Bool → Heap → Prop} (H : buffers_Memory_has.M  m1 actor2 h Q) :
    CallT Try.prog 52 [Kd.val .ptr m1, Kd.val (.int .i64) actor2] false .bool h Q :=
  fn_sound2 (c := weave (Try.f52.body.getD .skip) buffers_Memory_has.mk) Try.func52 (by kernel_rfl) Try.ntmps52 (rs := [.tmp 4]) (by kernel_rfl) [⟨.ptr, m1⟩, ⟨(.int .i64), actor2⟩] (by kernel_rfl) (by kernel_rfl) (by kernel_rfl) (by kernel_rfl) H

theorem cells_Arena_Who.br {a1 : Option Addr} {actor2 : Int} {h : Heap} {Q : Unit → Heap → Prop} (H : cells_Arena_Who.M  a1 actor2 h Q) :
    CallT Try.prog 53 [Kd.val .ptr a1, Kd.val (.int .i64) actor2] true .nil h Q :=
  fn_sound2 (c := weave (Try.f53.body.getD .skip) cells_Arena_Who.mk) Try.func53 (by kernel_rfl) Try.ntmps53 (rs := []) (by kernel_rfl) [⟨.ptr, a1⟩, ⟨(.int .i64), actor2⟩] (by kernel_rfl) (by kernel_rfl) (by kernel_rfl) (by kernel_rfl) H

theorem cells_Arena_Store.br {a1 : Option Addr} {addr2 : Int} {v3 : Int} {h : Heap} {Q : Int → Heap → Prop} (H : cells_Arena_Store.M (fun x0 x1 h K => CallT Try.prog 77 [Kd.val .ptr x0, Kd.val (.int .i64) x1] false .bool h K) (fun x0 x1 x2 x3 x4 x5 h K => CallT Try.prog 76 [Kd.val .ptr x0, Kd.val (.int .i64) x1, Kd.val (.int .i64) x2, Kd.val (.int .i64) x3, Kd.val (.int .i64) x4, Kd.val .bool x5] true .nil h K) a1 addr2 v3 h Q) :
    CallT Try.prog 54 [Kd.val .ptr a1, Kd.val (.int .i64) addr2, Kd.val (.int .i64) v3] false (.int .i64) h Q :=
  fn_sound2 (c := weave (Try.f54.body.getD .skip) cells_Arena_Store.mk) Try.func54 (by kernel_rfl) Try.ntmps54 (rs := [.tmp 6]) (by kernel_rfl) [⟨.ptr, a1⟩, ⟨(.int .i64), addr2⟩, ⟨(.int .i64), v3⟩] (by kernel_rfl) (by kernel_rfl) (by kernel_rfl) (by kernel_rfl) H

theorem buffers_View_Load.br {v1 : Option Addr} {addr2 : Int} {h : Heap} {Q : Den kapiTodo → Heap → Prop} (H : buffers_View_Load.M (fun x0 x1 h K => CallT Try.prog 78 [Kd.val .ptr x0, Kd.val (.int .i64) x1] false .bool h K) (fun x0 h K => CallT Try.prog 79 [Kd.val kbuffersplace x0] false .ptr h K) (fun x0 x1 h K => CallT Try.prog 62 [Kd.val .ptr x0, Kd.val (.int .i64) x1] true kapiTodo h K) v1 addr2 h Q) :
    CallT Try.prog 55 [Kd.val .ptr v1, Kd.val (.int .i64) addr2] true kapiTodo h Q :=
  fn_sound2 (c := weave (Try.f55.body.getD .skip) buffers_View_Load.mk) Try.func55 (by kernel_rfl) Try.ntmps55 (rs := [.tmp 4, .tmp 5]) (by kernel_rfl) [⟨.ptr, v1⟩, ⟨(.int .i64), addr2⟩] (by kernel_rfl) (by kernel_rfl) (by kernel_rfl) (by kernel_rfl) H

theorem buffers_View_Store.br {v1 : Option Addr} {addr2 : Int} {w3 : Int} {h : Heap} {Q : Int → Heap → Prop} (H : buffers_View_Store.M (fun x0 x1 h K => CallT Try.prog 78 [Kd.val .ptr x0, Kd.val (.int .i64) x1] false .bool h K) (fun x0 x1 h K => CallT Try.prog 28 [Kd.val .ptr x0, Kd.val (.int .i64) x1] false .bool h K) v1 addr2 w3 h Q) :
    CallT Try.prog 56 [Kd.val .ptr v1, Kd.val (.int .i64) addr2, Kd.val (.int .i64) w3] false (.int .i64) h Q :=
  fn_sound2 (c := weave (Try.f56.body.getD .skip) buffers_View_Store.mk) Try.func56 (by kernel_rfl) Try.ntmps56 (rs := [.tmp 6]) (by kernel_rfl) [⟨.ptr, v1⟩, ⟨(.int .i64), addr2⟩, ⟨(.int .i64), w3⟩] (by kernel_rfl) (by kernel_rfl) (by kernel_rfl) (by kernel_rfl) H

theorem buffers_View_CAS.br {v1 : Option Addr} {addr2 : Int} {old3 : Int} {next4 : Int} {h : Heap} {Q : (Bool × (Int × Unit)) → Heap → Prop} (H : buffers_View_CAS.M (fun x0 x1 h K => CallT Try.prog 78 [Kd.val .ptr x0, Kd.val (.int .i64) x1] false .bool h K) (fun x0 x1 h K => CallT Try.prog 42 [Kd.val .ptr x0, Kd.val (.int .i64) x1] true .nil h K) (fun x0 h K => CallT Try.prog 79 [Kd.val kbuffersplace x0] false .ptr h K) (fun x0 x1 x2 x3 h K => CallT Try.prog 63 [Kd.val .ptr x0, Kd.val (.int .i64) x1, Kd.val (.int .i64) x2, Kd.val (.int .i64) x3] true (.pair .bool (.pair (.int .i64) .nil)) h K) v1 addr2 old3 next4 h Q) :
    CallT Try.prog 57 [Kd.val .ptr v1, Kd.val (.int .i64) addr2, Kd.val (.int .i64) old3, Kd.val (.int .i64) next4] true (.pair .bool (.pair (.int .i64) .nil)) h Q :=
  fn_sound2 (c := weave (Try.f57.body.getD .skip) buffers_View_CAS.mk) Try.func57 (by kernel_rfl) Try.ntmps57 (rs := [.tmp 8, .tmp 9]) (by kernel_rfl) [⟨.ptr, v1⟩, ⟨(.int .i64), addr2⟩, ⟨(.int .i64), old3⟩, ⟨(.int .i64), next4⟩] (by kernel_rfl) (by kernel_rfl) (by kernel_rfl) (by kernel_rfl) H

theorem buffers_View_Add.br {v1 : Option Addr} {addr2 : Int} {d3 : Int} {h : Heap} {Q : Den kapiTodo → Heap → Prop} (H : buffers_View_Add.M (fun x0 x1 h K => CallT Try.prog 78 [Kd.val .ptr x0, Kd.val (.int .i64) x1] false .bool h K) (fun x0 x1 h K => CallT Try.prog 42 [Kd.val .ptr x0, Kd.val (.int .i64) x1] true .nil h K) (fun x0 h K => CallT Try.prog 79 [Kd.val kbuffersplace x0] false .ptr h K) (fun x0 x1 x2 h K => CallT Try.prog 64 [Kd.val .ptr x0, Kd.val (.int .i64) x1, Kd.val (.int .i64) x2] true kapiTodo h K) v1 addr2 d3 h Q) :
    CallT Try.prog 58 [Kd.val .ptr v1, Kd.val (.int .i64) addr2, Kd.val (.int .i64) d3] true kapiTodo h Q :=
  fn_sound2 (c := weave (Try.f58.body.getD .skip) buffers_View_Add.mk) Try.func58 (by kernel_rfl) Try.ntmps58 (rs := [.tmp 6, .tmp 7]) (by kernel_rfl) [⟨.ptr, v1⟩, ⟨(.int .i64), addr2⟩, ⟨(.int .i64), d3⟩] (by kernel_rfl) (by kernel_rfl) (by kernel_rfl) (by kernel_rfl) H

theorem buffers_View_Reserve.br {v1 : Option Addr} {n2 : Int} {h : Heap} {Q : Den kapiTodo → Heap → Prop} (H : buffers_View_Reserve.M (fun x0 h K => CallT Try.prog 80 [Kd.val .ptr x0] false (.int .i64) h K) (fun x0 h K => CallT Try.prog 81 [Kd.val .ptr x0] false (.int .i64) h K) (fun x0 x1 h K => CallT Try.prog 42 [Kd.val .ptr x0, Kd.val (.int .i64) x1] true .nil h K) (fun x0 h K => CallT Try.prog 79 [Kd.val kbuffersplace x0] false .ptr h K) (fun x0 x1 h K => CallT Try.prog 51 [Kd.val .ptr x0, Kd.val (.int .i64) x1] true kapiTodo h K) v1 n2 h Q) :
    CallT Try.prog 59 [Kd.val .ptr v1, Kd.val (.int .i64) n2] true kapiTodo h Q :=
  fn_sound2 (c := weave (Try.f59.body.getD .skip) buffers_View_Reserve.mk) Try.func59 (by kernel_rfl) Try.ntmps59 (rs := [.tmp 4, .tmp 5]) (by kernel_rfl) [⟨.ptr, v1⟩, ⟨(.int .i64), n2⟩] (by kernel_rfl) (by kernel_rfl) (by kernel_rfl) (by kernel_rfl) H

theorem buffers_View_Fence.br {v1 : Option Addr} {h : Heap} {Q : Unit → Heap → Prop} (H : buffers_View_Fence.M (fun x0 x1 h K => CallT Try.prog 42 [Kd.val .ptr x0, Kd.val (.int .i64) x1] true .nil h K) v1 h Q) :
    CallT Try.prog 60 [Kd.val .ptr v1] true .nil h Q :=
  fn_sound2 (c := weave (Try.f60.body.getD .skip) buffers_View_Fence.mk) Try.func60 (by kernel_rfl) Try.ntmps60 (rs := []) (by kernel_rfl) [⟨.ptr, v1⟩] (by kernel_rfl) (by kernel_rfl) (by kernel_rfl) (by kernel_rfl) H

theorem cells_good.br {size1 : Int} {h : Heap} {Q : Bool → Heap → Prop} (H : cells_good.M  size1 h Q) :
    CallT Try.prog 61 [Kd.val (.int .i64) size1] false .bool h Q :=
  fn_sound2 (c := weave (Try.f61.body.getD .skip) cells_good.mk) Try.func61 (by kernel_rfl) Try.ntmps61 (rs := [.tmp 2]) (by kernel_rfl) [⟨(.int .i64), size1⟩] (by kernel_rfl) (by kernel_rfl) (by kernel_rfl) (by kernel_rfl) H

theorem cells_Arena_Load.br {a1 : Option Addr} {addr2 : Int} {h : Heap} {Q : Den kapiTodo → Heap → Prop} (H : cells_Arena_Load.M (fun x0 x1 h K => CallT Try.prog 77 [Kd.val .ptr x0, Kd.val (.int .i64) x1] false .bool h K) (fun x0 x1 x2 x3 x4 x5 h K => CallT Try.prog 76 [Kd.val .ptr x0, Kd.val (.int .i64) x1, Kd.val (.int .i64) x2, Kd.val (.int .i64) x3, Kd.val (.int .i64) x4, Kd.val .bool x5] true .nil h K) a1 addr2 h Q) :
    CallT Try.prog 62 [Kd.val .ptr a1, Kd.val (.int .i64) addr2] true kapiTodo h Q :=
  fn_sound2 (c := weave (Try.f62.body.getD .skip) cells_Arena_Load.mk) Try.func62 (by kernel_rfl) Try.ntmps62 (rs := [.tmp 4, .tmp 5]) (by kernel_rfl) [⟨.ptr, a1⟩, ⟨(.int .i64), addr2⟩] (by kernel_rfl) (by kernel_rfl) (by kernel_rfl) (by kernel_rfl) H

theorem cells_Arena_CAS.br {a1 : Option Addr} {addr2 : Int} {old3 : Int} {next4 : Int} {h : Heap} {Q : (Bool × (Int × Unit)) → Heap → Prop} (H : cells_Arena_CAS.M (fun x0 x1 h K => CallT Try.prog 77 [Kd.val .ptr x0, Kd.val (.int .i64) x1] false .bool h K) (fun x0 x1 x2 x3 x4 x5 h K => CallT Try.prog 76 [Kd.val .ptr x0, Kd.val (.int .i64) x1, Kd.val (.int .i64) x2, Kd.val (.int .i64) x3, Kd.val (.int .i64) x4, Kd.val .bool x5] true .nil h K) a1 addr2 old3 next4 h Q) :
    CallT Try.prog 63 [Kd.val .ptr a1, Kd.val (.int .i64) addr2, Kd.val (.int .i64) old3, Kd.val (.int .i64) next4] true (.pair .bool (.pair (.int .i64) .nil)) h Q :=
  fn_sound2 (c := weave (Try.f63.body.getD .skip) cells_Arena_CAS.mk) Try.func63 (by kernel_rfl) Try.ntmps63 (rs := [.tmp 8, .tmp 9]) (by kernel_rfl) [⟨.ptr, a1⟩, ⟨(.int .i64), addr2⟩, ⟨(.int .i64), old3⟩, ⟨(.int .i64), next4⟩] (by kernel_rfl) (by kernel_rfl) (by kernel_rfl) (by kernel_rfl) H

theorem cells_Arena_Add.br {a1 : Option Addr} {addr2 : Int} {d3 : Int} {h : Heap} {Q : Den kapiTodo → Heap → Prop} (H : cells_Arena_Add.M (fun x0 x1 h K => CallT Try.prog 77 [Kd.val .ptr x0, Kd.val (.int .i64) x1] false .bool h K) (fun x0 x1 x2 x3 x4 x5 h K => CallT Try.prog 76 [Kd.val .ptr x0, Kd.val (.int .i64) x1, Kd.val (.int .i64) x2, Kd.val (.int .i64) x3, Kd.val (.int .i64) x4, Kd.val .bool x5] true .nil h K) a1 addr2 d3 h Q) :
    CallT Try.prog 64 [Kd.val .ptr a1, Kd.val (.int .i64) addr2, Kd.val (.int .i64) d3] true kapiTodo h Q :=
  fn_sound2 (c := weave (Try.f64.body.getD .skip) cells_Arena_Add.mk) Try.func64 (by kernel_rfl) Try.ntmps64 (rs := [.tmp 6, .tmp 7]) (by kernel_rfl) [⟨.ptr, a1⟩, ⟨(.int .i64), addr2⟩, ⟨(.int .i64), d3⟩] (by kernel_rfl) (by kernel_rfl) (by kernel_rfl) (by kernel_rfl) H

theorem cells_ledger_refuse.br {l1 : Option Addr} {n2 : Int} {h : Heap} {Q : Int → Heap → Prop} (H : cells_ledger_refuse.M  l1 n2 h Q) :
    CallT Try.prog 74 [Kd.val .ptr l1, Kd.val (.int .i64) n2] false (.int .i64) h Q :=
  fn_sound2 (c := weave (Try.f74.body.getD .skip) cells_ledger_refuse.mk) Try.func74 (by kernel_rfl) Try.ntmps74 (rs := [.tmp 4]) (by kernel_rfl) [⟨.ptr, l1⟩, ⟨(.int .i64), n2⟩] (by kernel_rfl) (by kernel_rfl) (by kernel_rfl) (by kernel_rfl) H

theorem cells_ledger_take.br {l1 : Option Addr} {n2 : Int} {h : Heap} {Q : Int → Heap → Prop} (H : cells_ledger_take.M  l1 n2 h Q) :
    CallT Try.prog 75 [Kd.val .ptr l1, Kd.val (.int .i64) n2] false (.int .i64) h Q :=
  fn_sound2 (c := weave (Try.f75.body.getD .skip) cells_ledger_take.mk) Try.func75 (by kernel_rfl) Try.ntmps75 (rs := [.tmp 4]) (by kernel_rfl) [⟨.ptr, l1⟩, ⟨(.int .i64), n2⟩] (by kernel_rfl) (by kernel_rfl) (by kernel_rfl) (by kernel_rfl) H

theorem cells_Arena_note.br {a1 : Option Addr} {kind2 : Int} {addr3 : Int} {x4 : Int} {y5 : Int} {ok6 : Bool} {h : Heap} {Q : Unit → Heap → Prop} (H : cells_Arena_note.M  a1 kind2 addr3 x4 y5 ok6 h Q) :
    CallT Try.prog 76 [Kd.val .ptr a1, Kd.val (.int .i64) kind2, Kd.val (.int .i64) addr3, Kd.val (.int .i64) x4, Kd.val (.int .i64) y5, Kd.val .bool ok6] true .nil h Q :=
  fn_sound2 (c := weave (Try.f76.body.getD .skip) cells_Arena_note.mk) Try.func76 (by kernel_rfl) Try.ntmps76 (rs := []) (by kernel_rfl) [⟨.ptr, a1⟩, ⟨(.int .i64), kind2⟩, ⟨(.int .i64), addr3⟩, ⟨(.int .i64), x4⟩, ⟨(.int .i64), y5⟩, ⟨.bool, ok6⟩] (by kernel_rfl) (by kernel_rfl) (by kernel_rfl) (by kernel_rfl) H

theorem cells_Arena_outside.br {a1 : Option Addr} {addr2 : Int} {h : Heap} {Q : Bool → Heap → Prop} (H : cells_Arena_outside.M (fun x0 x1 h K => CallT Try.prog 93 [Kd.val .ptr x0, Kd.val (.int .i64) x1] false .bool h K) a1 addr2 h Q) :
    CallT Try.prog 77 [Kd.val .ptr a1, Kd.val (.int .i64) addr2] false .bool h Q :=
  fn_sound2 (c := weave (Try.f77.body.getD .skip) cells_Arena_outside.mk) Try.func77 (by kernel_rfl) Try.ntmps77 (rs := [.tmp 4]) (by kernel_rfl) [⟨.ptr, a1⟩, ⟨(.int .i64), addr2⟩] (by kernel_rfl) (by kernel_rfl) (by kernel_rfl) (by kernel_rfl) H

theorem buffers_View_none.br {v1 : Option Addr} {addr2 : Int} {h : Heap} {Q : Bool → Heap → Prop} (H : buffers_View_none.M (fun x0 h K => CallT Try.prog 81 [Kd.val .ptr x0] false (.int .i64) h K) v1 addr2 h Q) :
    CallT Try.prog 78 [Kd.val .ptr v1, Kd.val (.int .i64) addr2] false .bool h Q :=
  fn_sound2 (c := weave (Try.f78.body.getD .skip) buffers_View_none.mk) Try.func78 (by kernel_rfl) Try.ntmps78 (rs := [.tmp 4]) (by kernel_rfl) [⟨.ptr, v1⟩, ⟨(.int .i64), addr2⟩] (by kernel_rfl) (by kernel_rfl) (by kernel_rfl) (by kernel_rfl) H

theorem buffers_place_cells.br {p1 : Den kbuffersplace} {h : Heap} {Q : Option Addr → Heap → Prop} (H : buffers_place_cells.M (fun x0 x1 h K => CallT Try.prog 53 [Kd.val .ptr x0, Kd.val (.int .i64) x1] true .nil h K) p1 h Q) :
    CallT Try.prog 79 [Kd.val kbuffersplace p1] false .ptr h Q :=
  fn_sound2 (c := weave (Try.f79.body.getD .skip) buffers_place_cells.mk) Try.func79 (by kernel_rfl) Try.ntmps79 (rs := [.tmp 2]) (by kernel_rfl) [⟨kbuffersplace, p1⟩] (by kernel_rfl) (by kernel_rfl) (by kernel_rfl) (by kernel_rfl) H

theorem cells_Arena_Size.br {a1 : Option Addr} {h : Heap} {Q : Int → Heap → Prop} (H : cells_Arena_Size.M (fun x0 h K => CallT Try.prog 94 [Kd.val .ptr x0] false (.int .i64) h K) a1 h Q) :
    CallT Try.prog 80 [Kd.val .ptr a1] false (.int .i64) h Q :=
  fn_sound2 (c := weave (Try.f80.body.getD .skip) cells_Arena_Size.mk) Try.func80 (by kernel_rfl) Try.ntmps80 (rs := [.tmp 2]) (by kernel_rfl) [⟨.ptr, a1⟩] (by kernel_rfl) (by kernel_rfl) (by kernel_rfl) (by kernel_rfl) H

theorem cells_Arena_Mark.br {a1 : Option Addr} {h : Heap} {Q : Int → Heap → Prop} (H : cells_Arena_Mark.M (fun x0 h K => CallT Try.prog 95 [Kd.val .ptr x0] false (.int .i64) h K) a1 h Q) :
    CallT Try.prog 81 [Kd.val .ptr a1] false (.int .i64) h Q :=
  fn_sound2 (c := weave (Try.f81.body.getD .skip) cells_Arena_Mark.mk) Try.func81 (by kernel_rfl) Try.ntmps81 (rs := [.tmp 2]) (by kernel_rfl) [⟨.ptr, a1⟩] (by kernel_rfl) (by kernel_rfl) (by kernel_rfl) (by kernel_rfl) H

theorem cells_ledger_has.br {l1 : Option Addr} {addr2 : Int} {h : Heap} {Q : Bool → Heap → Prop} (H : cells_ledger_has.M  l1 addr2 h Q) :
    CallT Try.prog 93 [Kd.val .ptr l1, Kd.val (.int .i64) addr2] false .bool h Q :=
  fn_sound2 (c := weave (Try.f93.body.getD .skip) cells_ledger_has.mk) Try.func93 (by kernel_rfl) Try.ntmps93 (rs := [.tmp 4]) (by kernel_rfl) [⟨.ptr, l1⟩, ⟨(.int .i64), addr2⟩] (by kernel_rfl) (by kernel_rfl) (by kernel_rfl) (by kernel_rfl) H

theorem cells_ledger_Size.br {l1 : Option Addr} {h : Heap} {Q : Int → Heap → Prop} (H : cells_ledger_Size.M  l1 h Q) :
    CallT Try.prog 94 [Kd.val .ptr l1] false (.int .i64) h Q :=
  fn_sound2 (c := weave (Try.f94.body.getD .skip) cells_ledger_Size.mk) Try.func94 (by kernel_rfl) Try.ntmps94 (rs := [.tmp 2]) (by kernel_rfl) [⟨.ptr, l1⟩] (by kernel_rfl) (by kernel_rfl) (by kernel_rfl) (by kernel_rfl) H

theorem cells_ledger_Mark.br {l1 : Option Addr} {h : Heap} {Q : Int → Heap → Prop} (H : cells_ledger_Mark.M  l1 h Q) :
    CallT Try.prog 95 [Kd.val .ptr l1] false (.int .i64) h Q :=
  fn_sound2 (c := weave (Try.f95.body.getD .skip) cells_ledger_Mark.mk) Try.func95 (by kernel_rfl) Try.ntmps95 (rs := [.tmp 2]) (by kernel_rfl) [⟨.ptr, l1⟩] (by kernel_rfl) (by kernel_rfl) (by kernel_rfl) (by kernel_rfl) H

end Go.Mx
