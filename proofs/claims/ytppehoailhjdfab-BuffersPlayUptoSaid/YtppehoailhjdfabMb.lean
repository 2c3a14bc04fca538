/-
  The bridges: a function's calls, by what it comes to over abstract heaps: printed by a program of this workplace.
-/
import Derived.Test.YtppehoailhjdfabMd
import Derived.Test.YtppehoailhjdfabProg
set_option linter.unusedVariables false
set_option maxRecDepth 100000
namespace Go.Mx
open Go.Proofs
theorem law21_BuffersPlay.br {size1 : Int} {used2 : Int} {room3 : Int} {lists4 : Sl} {picks5 : Sl} {h : Heap} {Q : Bool → Heap → Prop} (H : law21_BuffersPlay.M (fun x0 x1 x2 x3 x4 h K => CallT Try.prog 20 [Kd.val (.int .i64) x0, Kd.val (.int .i64) x1, Kd.val (.int .i64) x2, Kd.val .sl x3, Kd.val .sl x4] true (.pair kapiBufferRun (.pair (.int .i64) .nil)) h K) (fun x0 h K => CallT Try.prog 21 [Kd.val .sl x0] false klaw21gift h K) (fun x0 h K => CallT Try.prog 22 [Kd.val .sl x0] false .sl h K) (fun x0 x1 x2 x3 x4 h K => CallT Try.prog 23 [Kd.val (.int .i64) x0, Kd.val (.int .i64) x1, Kd.val (.int .i64) x2, Kd.val .sl x3, Kd.val .sl x4] true (.pair kapiBufferRun (.pair (.int .i64) .nil)) h K) (fun x0 x1 h K => CallT Try.prog 24 [Kd.val kapiBufferRun x0, Kd.val kapiBufferRun x1] false .bool h K) (fun x0 h K => CallT Try.prog 25 [Kd.val kapiBufferRun x0] false .bool h K) (fun x0 x1 h K => CallT Try.prog 26 [Kd.val klaw21gift x0, Kd.val .sl x1] false .bool h K) (fun x0 x1 h K => CallT Try.prog 27 [Kd.val .sl x0, Kd.val .sl x1] false .bool h K) (fun x0 x1 x2 x3 x4 h K => CallT Try.prog 28 [Kd.val (.int .i64) x0, Kd.val (.int .i64) x1, Kd.val (.int .i64) x2, Kd.val .sl x3, Kd.val .sl x4] false .bool h K) size1 used2 room3 lists4 picks5 h Q) :
    CallT Try.prog 5 [Kd.val (.int .i64) size1, Kd.val (.int .i64) used2, Kd.val (.int .i64) room3, Kd.val .sl lists4, Kd.val .sl picks5] false .bool h Q :=
  fn_sound2 (c := weave (Try.f5.body.getD .skip) law21_BuffersPlay.mk) Try.func5 (by kernel_rfl) Try.ntmps5 (rs := [.tmp 10]) (by kernel_rfl) [⟨(.int .i64), size1⟩, ⟨(.int .i64), used2⟩, ⟨(.int .i64), room3⟩, ⟨.sl, lists4⟩, ⟨.sl, picks5⟩] (by kernel_rfl) (by kernel_rfl) (by kernel_rfl) (by kernel_rfl) H

theorem ref21_New.br {size1 : Int} {actors2 : Int} {room3 : Int} {h : Heap} {Q : Den kbuffersplace → Heap → Prop} (H : ref21_New.M (fun x0 h K => CallT Try.prog 48 [Kd.val (.int .i64) x0] true kbuffersplace h K) size1 actors2 room3 h Q) :
    CallT Try.prog 11 [Kd.val (.int .i64) size1, Kd.val (.int .i64) actors2, Kd.val (.int .i64) room3] true kbuffersplace h Q :=
  fn_sound2 (c := weave (Try.f11.body.getD .skip) ref21_New.mk) Try.func11 (by kernel_rfl) Try.ntmps11 (rs := [.tmp 6, .tmp 7]) (by kernel_rfl) [⟨(.int .i64), size1⟩, ⟨(.int .i64), actors2⟩, ⟨(.int .i64), room3⟩] (by kernel_rfl) (by kernel_rfl) (by kernel_rfl) (by kernel_rfl) H

theorem buffers_New.br {size1 : Int} {actors2 : Int} {room3 : Int} {h : Heap} {Q : Den kbuffersplace → Heap → Prop} (H : buffers_New.M (fun x0 h K => CallT Try.prog 49 [Kd.val (.int .i64) x0] true kbuffersplace h K) (fun x0 x1 h K => CallT Try.prog 50 [Kd.val .ptr x0, Kd.val .bool x1] true .nil h K) size1 actors2 room3 h Q) :
    CallT Try.prog 12 [Kd.val (.int .i64) size1, Kd.val (.int .i64) actors2, Kd.val (.int .i64) room3] true kbuffersplace h Q :=
  fn_sound2 (c := weave (Try.f12.body.getD .skip) buffers_New.mk) Try.func12 (by kernel_rfl) Try.ntmps12 (rs := [.tmp 6, .tmp 7]) (by kernel_rfl) [⟨(.int .i64), size1⟩, ⟨(.int .i64), actors2⟩, ⟨(.int .i64), room3⟩] (by kernel_rfl) (by kernel_rfl) (by kernel_rfl) (by kernel_rfl) H

theorem law21_sameNumbers.br {a1 : Sl} {b2 : Sl} {h : Heap} {Q : Bool → Heap → Prop} (H : law21_sameNumbers.M  a1 b2 h Q) :
    CallT Try.prog 15 [Kd.val .sl a1, Kd.val .sl b2] false .bool h Q :=
  fn_sound2 (c := weave (Try.f15.body.getD .skip) law21_sameNumbers.mk) Try.func15 (by kernel_rfl) Try.ntmps15 (rs := [.tmp 4]) (by kernel_rfl) [⟨.sl, a1⟩, ⟨.sl, b2⟩] (by kernel_rfl) (by kernel_rfl) (by kernel_rfl) (by kernel_rfl) H

theorem buffers_Memory_Cells.br {m1 : Option Addr} {h : Heap} {Q : Sl → Heap → Prop} (H : buffers_Memory_Cells.M (fun x0 h K => CallT Try.prog 56 [Kd.val .ptr x0] false .sl h K) m1 h Q) :
    CallT Try.prog 16 [Kd.val .ptr m1] false .sl h Q :=
  fn_sound2 (c := weave (Try.f16.body.getD .skip) buffers_Memory_Cells.mk) Try.func16 (by kernel_rfl) Try.ntmps16 (rs := [.tmp 2]) (by kernel_rfl) [⟨.ptr, m1⟩] (by kernel_rfl) (by kernel_rfl) (by kernel_rfl) (by kernel_rfl) H

theorem law21_sameLog.br {a1 : Sl} {b2 : Sl} {h : Heap} {Q : Bool → Heap → Prop} (H : law21_sameLog.M  a1 b2 h Q) :
    CallT Try.prog 17 [Kd.val .sl a1, Kd.val .sl b2] false .bool h Q :=
  fn_sound2 (c := weave (Try.f17.body.getD .skip) law21_sameLog.mk) Try.func17 (by kernel_rfl) Try.ntmps17 (rs := [.tmp 4]) (by kernel_rfl) [⟨.sl, a1⟩, ⟨.sl, b2⟩] (by kernel_rfl) (by kernel_rfl) (by kernel_rfl) (by kernel_rfl) H

theorem buffers_Memory_Log.br {m1 : Option Addr} {h : Heap} {Q : Sl → Heap → Prop} (H : buffers_Memory_Log.M (fun x0 h K => CallT Try.prog 57 [Kd.val .ptr x0] false .sl h K) m1 h Q) :
    CallT Try.prog 18 [Kd.val .ptr m1] false .sl h Q :=
  fn_sound2 (c := weave (Try.f18.body.getD .skip) buffers_Memory_Log.mk) Try.func18 (by kernel_rfl) Try.ntmps18 (rs := [.tmp 2]) (by kernel_rfl) [⟨.ptr, m1⟩] (by kernel_rfl) (by kernel_rfl) (by kernel_rfl) (by kernel_rfl) H

theorem ref21_Play.br {size1 : Int} {used2 : Int} {room3 : Int} {lists4 : Sl} {picks5 : Sl} {h : Heap} {Q : (Den kapiBufferRun × (Int × Unit)) → Heap → Prop} (H : ref21_Play.M (fun x0 x1 x2 x3 x4 h K => CallT Try.prog 60 [Kd.val (.int .i64) x0, Kd.val (.int .i64) x1, Kd.val (.int .i64) x2, Kd.val .sl x3, Kd.val .sl x4] false (.int .i64) h K) (fun x0 x1 x2 x3 h K => CallT Try.prog 61 [Kd.val (.int .i64) x0, Kd.val (.int .i64) x1, Kd.val (.int .i64) x2, Kd.val (.int .i64) x3] false .ptr h K) (fun x0 x1 h K => CallT Try.prog 62 [Kd.val (.int .i64) x0, Kd.val (.int .i64) x1] false (.int .i64) h K) (fun x0 x1 h K => CallT Try.prog 54 [Kd.val .ptr x0, Kd.val (.int .i64) x1] false .bool h K) (fun x0 x1 x2 h K => CallT Try.prog 52 [Kd.val .ptr x0, Kd.val (.int .i64) x1, Kd.val klaw21Move x2] false kapiEffect h K) size1 used2 room3 lists4 picks5 h Q) :
    CallT Try.prog 20 [Kd.val (.int .i64) size1, Kd.val (.int .i64) used2, Kd.val (.int .i64) room3, Kd.val .sl lists4, Kd.val .sl picks5] true (.pair kapiBufferRun (.pair (.int .i64) .nil)) h Q :=
  fn_sound2 (c := weave (Try.f20.body.getD .skip) ref21_Play.mk) Try.func20 (by kernel_rfl) Try.ntmps20 (rs := [.cell 10 69, .tmp 11]) (by kernel_rfl) [⟨(.int .i64), size1⟩, ⟨(.int .i64), used2⟩, ⟨(.int .i64), room3⟩, ⟨.sl, lists4⟩, ⟨.sl, picks5⟩] (by kernel_rfl) (by kernel_rfl) (by kernel_rfl) (by kernel_rfl) H

theorem law21_wrap.br {lists1 : Sl} {h : Heap} {Q : Den klaw21gift → Heap → Prop} (H : law21_wrap.M (fun x0 h K => CallT Try.prog 63 [Kd.val (.int .i64) x0] false klaw21Move h K) lists1 h Q) :
    CallT Try.prog 21 [Kd.val .sl lists1] false klaw21gift h Q :=
  fn_sound2 (c := weave (Try.f21.body.getD .skip) law21_wrap.mk) Try.func21 (by kernel_rfl) Try.ntmps21 (rs := [.cell 2 73]) (by kernel_rfl) [⟨.sl, lists1⟩] (by kernel_rfl) (by kernel_rfl) (by kernel_rfl) (by kernel_rfl) H

theorem law21_spare.br {l1 : Sl} {h : Heap} {Q : Sl → Heap → Prop} (H : law21_spare.M  l1 h Q) :
    CallT Try.prog 22 [Kd.val .sl l1] false .sl h Q :=
  fn_sound2 (c := weave (Try.f22.body.getD .skip) law21_spare.mk) Try.func22 (by kernel_rfl) Try.ntmps22 (rs := [.tmp 2]) (by kernel_rfl) [⟨.sl, l1⟩] (by kernel_rfl) (by kernel_rfl) (by kernel_rfl) (by kernel_rfl) H

theorem buffers_Play.e1 {Q : (Den kapiBufferRun × (Int × Unit)) → Heap → Prop} (s : (Sl × (Sl × (Int × (Option Addr × (Den kapiBufferRun × Unit)))))) (h : Heap) : buffers_Play.k9 (fun x0 x1 h K => CallT Try.prog 66 [Kd.val (.int .i64) x0, Kd.val (.int .i64) x1] false (.int .i64) h K) (fun x0 x1 h K => CallT Try.prog 40 [Kd.val .ptr x0, Kd.val (.int .i64) x1] false .bool h K) (fun x0 x1 h K => CallT Try.prog 39 [Kd.val .ptr x0, Kd.val (.int .i64) x1] false .ptr h K) (fun x0 x1 h K => CallT Try.prog 67 [Kd.val .ptr x0, Kd.val klaw21Move x1] false kapiEffect h K) (fun x0 x1 h K => CallT Try.prog 41 [Kd.val .ptr x0, Kd.val (.int .i64) x1] false .sl h K) (fun x0 h K => CallT Try.prog 16 [Kd.val .ptr x0] false .sl h K) (fun x0 h K => CallT Try.prog 18 [Kd.val .ptr x0] false .sl h K) Q s h = interp Try.prog 154 (AC.rest 5 (weave (Try.f23.body.getD .skip) buffers_Play.mk)) [] (setC [.slot 3 .sl, .slot 4 .sl, .slot 13 (.int .i64), .slot 14 .ptr, .box 10 kapiBufferRun] s (addrS [(10, 10, 0)])) (setB [.slot 3 .sl, .slot 4 .sl, .slot 13 (.int .i64), .slot 14 .ptr, .box 10 kapiBufferRun] s []) h (retK Try.prog [.cell 10 69, .tmp 11] true (.pair kapiBufferRun (.pair (.int .i64) .nil)) Q) (fun _ _ _ _ => False) (retK Try.prog [.cell 10 69, .tmp 11] true (.pair kapiBufferRun (.pair (.int .i64) .nil)) Q) :=
  (by kernel_rfl)
theorem buffers_Play.br {size1 : Int} {used2 : Int} {room3 : Int} {lists4 : Sl} {picks5 : Sl} {h : Heap} {Q : (Den kapiBufferRun × (Int × Unit)) → Heap → Prop} (H : buffers_Play.M (fun x0 x1 x2 x3 x4 h K => CallT Try.prog 64 [Kd.val (.int .i64) x0, Kd.val (.int .i64) x1, Kd.val (.int .i64) x2, Kd.val .sl x3, Kd.val .sl x4] false (.int .i64) h K) (fun x0 x1 x2 h K => CallT Try.prog 12 [Kd.val (.int .i64) x0, Kd.val (.int .i64) x1, Kd.val (.int .i64) x2] true kbuffersplace h K) (fun x0 x1 h K => CallT Try.prog 65 [Kd.val .ptr x0, Kd.val (.int .i64) x1] true .nil h K) (fun x0 x1 h K => CallT Try.prog 66 [Kd.val (.int .i64) x0, Kd.val (.int .i64) x1] false (.int .i64) h K) (fun x0 x1 h K => CallT Try.prog 40 [Kd.val .ptr x0, Kd.val (.int .i64) x1] false .bool h K) (fun x0 x1 h K => CallT Try.prog 39 [Kd.val .ptr x0, Kd.val (.int .i64) x1] false .ptr h K) (fun x0 x1 h K => CallT Try.prog 67 [Kd.val .ptr x0, Kd.val klaw21Move x1] false kapiEffect h K) (fun x0 x1 h K => CallT Try.prog 41 [Kd.val .ptr x0, Kd.val (.int .i64) x1] false .sl h K) (fun x0 h K => CallT Try.prog 16 [Kd.val .ptr x0] false .sl h K) (fun x0 h K => CallT Try.prog 18 [Kd.val .ptr x0] false .sl h K) size1 used2 room3 lists4 picks5 h Q) :
    CallT Try.prog 23 [Kd.val (.int .i64) size1, Kd.val (.int .i64) used2, Kd.val (.int .i64) room3, Kd.val .sl lists4, Kd.val .sl picks5] true (.pair kapiBufferRun (.pair (.int .i64) .nil)) h Q :=
  fn_sound2 (c := weave (Try.f23.body.getD .skip) buffers_Play.mk) Try.func23 (by kernel_rfl) Try.ntmps23 (rs := [.cell 10 69, .tmp 11]) (by kernel_rfl) [⟨(.int .i64), size1⟩, ⟨(.int .i64), used2⟩, ⟨(.int .i64), room3⟩, ⟨.sl, lists4⟩, ⟨.sl, picks5⟩] (by kernel_rfl) (by kernel_rfl) (by kernel_rfl) (cut_part 5 (cc := [.slot 3 .sl, .slot 4 .sl, .slot 13 (.int .i64), .slot 14 .ptr, .box 10 kapiBufferRun]) (A := [(10, 10, 0)]) (b := (AC.rest 5 (weave (Try.f23.body.getD .skip) buffers_Play.mk))) (by kernel_rfl) (fun s h => buffers_Play.k9 (fun x0 x1 h K => CallT Try.prog 66 [Kd.val (.int .i64) x0, Kd.val (.int .i64) x1] false (.int .i64) h K) (fun x0 x1 h K => CallT Try.prog 40 [Kd.val .ptr x0, Kd.val (.int .i64) x1] false .bool h K) (fun x0 x1 h K => CallT Try.prog 39 [Kd.val .ptr x0, Kd.val (.int .i64) x1] false .ptr h K) (fun x0 x1 h K => CallT Try.prog 67 [Kd.val .ptr x0, Kd.val klaw21Move x1] false kapiEffect h K) (fun x0 x1 h K => CallT Try.prog 41 [Kd.val .ptr x0, Kd.val (.int .i64) x1] false .sl h K) (fun x0 h K => CallT Try.prog 16 [Kd.val .ptr x0] false .sl h K) (fun x0 h K => CallT Try.prog 18 [Kd.val .ptr x0] false .sl h K) Q s h) (by kernel_rfl) buffers_Play.e1) H

theorem law21_sameRun.br {a1 : Den kapiBufferRun} {b2 : Den kapiBufferRun} {h : Heap} {Q : Bool → Heap → Prop} (H : law21_sameRun.M (fun x0 x1 h K => CallT Try.prog 15 [Kd.val .sl x0, Kd.val .sl x1] false .bool h K) (fun x0 x1 h K => CallT Try.prog 17 [Kd.val .sl x0, Kd.val .sl x1] false .bool h K) (fun x0 x1 h K => CallT Try.prog 68 [Kd.val .sl x0, Kd.val .sl x1] false .bool h K) (fun x0 x1 h K => CallT Try.prog 32 [Kd.val .sl x0, Kd.val .sl x1] false .bool h K) a1 b2 h Q) :
    CallT Try.prog 24 [Kd.val kapiBufferRun a1, Kd.val kapiBufferRun b2] false .bool h Q :=
  fn_sound2 (c := weave (Try.f24.body.getD .skip) law21_sameRun.mk) Try.func24 (by kernel_rfl) Try.ntmps24 (rs := [.tmp 4]) (by kernel_rfl) [⟨kapiBufferRun, a1⟩, ⟨kapiBufferRun, b2⟩] (by kernel_rfl) (by kernel_rfl) (by kernel_rfl) (by kernel_rfl) H

theorem law21_spoil.br {r1 : Den kapiBufferRun} {h : Heap} {Q : Bool → Heap → Prop} (H : law21_spoil.M  r1 h Q) :
    CallT Try.prog 25 [Kd.val kapiBufferRun r1] false .bool h Q :=
  fn_sound2 (c := weave (Try.f25.body.getD .skip) law21_spoil.mk) Try.func25 (by kernel_rfl) Try.ntmps25 (rs := [.tmp 2]) (by kernel_rfl) [⟨kapiBufferRun, r1⟩] (by kernel_rfl) (by kernel_rfl) (by kernel_rfl) (by kernel_rfl) H

theorem law21_gift_untouched.br {g1 : Den klaw21gift} {lists2 : Sl} {h : Heap} {Q : Bool → Heap → Prop} (H : law21_gift_untouched.M (fun x0 x1 h K => CallT Try.prog 69 [Kd.val .sl x0, Kd.val .sl x1] false .bool h K) (fun x0 h K => CallT Try.prog 63 [Kd.val (.int .i64) x0] false klaw21Move h K) g1 lists2 h Q) :
    CallT Try.prog 26 [Kd.val klaw21gift g1, Kd.val .sl lists2] false .bool h Q :=
  fn_sound2 (c := weave (Try.f26.body.getD .skip) law21_gift_untouched.mk) Try.func26 (by kernel_rfl) Try.ntmps26 (rs := [.tmp 4]) (by kernel_rfl) [⟨klaw21gift, g1⟩, ⟨.sl, lists2⟩] (by kernel_rfl) (by kernel_rfl) (by kernel_rfl) (by kernel_rfl) H

theorem law21_sameInts.br {a1 : Sl} {b2 : Sl} {h : Heap} {Q : Bool → Heap → Prop} (H : law21_sameInts.M  a1 b2 h Q) :
    CallT Try.prog 27 [Kd.val .sl a1, Kd.val .sl b2] false .bool h Q :=
  fn_sound2 (c := weave (Try.f27.body.getD .skip) law21_sameInts.mk) Try.func27 (by kernel_rfl) Try.ntmps27 (rs := [.tmp 4]) (by kernel_rfl) [⟨.sl, a1⟩, ⟨.sl, b2⟩] (by kernel_rfl) (by kernel_rfl) (by kernel_rfl) (by kernel_rfl) H

theorem law21_playPlaced.br {size1 : Int} {used2 : Int} {room3 : Int} {lists4 : Sl} {picks5 : Sl} {h : Heap} {Q : Bool → Heap → Prop} (H : law21_playPlaced.M (fun x0 h K => CallT Try.prog 70 [Kd.val .sl x0] false .sl h K) (fun x0 h K => CallT Try.prog 71 [Kd.val .sl x0] false .sl h K) (fun x0 h K => CallT Try.prog 21 [Kd.val .sl x0] false klaw21gift h K) (fun x0 h K => CallT Try.prog 22 [Kd.val .sl x0] false .sl h K) (fun x0 x1 x2 x3 x4 h K => CallT Try.prog 23 [Kd.val (.int .i64) x0, Kd.val (.int .i64) x1, Kd.val (.int .i64) x2, Kd.val .sl x3, Kd.val .sl x4] true (.pair kapiBufferRun (.pair (.int .i64) .nil)) h K) (fun x0 x1 h K => CallT Try.prog 72 [Kd.val .sl x0, Kd.val .sl x1] true .nil h K) (fun x0 x1 x2 x3 x4 h K => CallT Try.prog 20 [Kd.val (.int .i64) x0, Kd.val (.int .i64) x1, Kd.val (.int .i64) x2, Kd.val .sl x3, Kd.val .sl x4] true (.pair kapiBufferRun (.pair (.int .i64) .nil)) h K) (fun x0 x1 h K => CallT Try.prog 24 [Kd.val kapiBufferRun x0, Kd.val kapiBufferRun x1] false .bool h K) size1 used2 room3 lists4 picks5 h Q) :
    CallT Try.prog 28 [Kd.val (.int .i64) size1, Kd.val (.int .i64) used2, Kd.val (.int .i64) room3, Kd.val .sl lists4, Kd.val .sl picks5] false .bool h Q :=
  fn_sound2 (c := weave (Try.f28.body.getD .skip) law21_playPlaced.mk) Try.func28 (by kernel_rfl) Try.ntmps28 (rs := [.tmp 10]) (by kernel_rfl) [⟨(.int .i64), size1⟩, ⟨(.int .i64), used2⟩, ⟨(.int .i64), room3⟩, ⟨.sl, lists4⟩, ⟨.sl, picks5⟩] (by kernel_rfl) (by kernel_rfl) (by kernel_rfl) (by kernel_rfl) H

theorem law21_sameWaits.br {a1 : Sl} {b2 : Sl} {h : Heap} {Q : Bool → Heap → Prop} (H : law21_sameWaits.M  a1 b2 h Q) :
    CallT Try.prog 32 [Kd.val .sl a1, Kd.val .sl b2] false .bool h Q :=
  fn_sound2 (c := weave (Try.f32.body.getD .skip) law21_sameWaits.mk) Try.func32 (by kernel_rfl) Try.ntmps32 (rs := [.tmp 4]) (by kernel_rfl) [⟨.sl, a1⟩, ⟨.sl, b2⟩] (by kernel_rfl) (by kernel_rfl) (by kernel_rfl) (by kernel_rfl) H

theorem buffers_Memory_View.br {m1 : Option Addr} {actor2 : Int} {h : Heap} {Q : Option Addr → Heap → Prop} (H : buffers_Memory_View.M (fun x0 x1 h K => CallT Try.prog 75 [Kd.val .ptr x0, Kd.val (.int .i64) x1] false .bool h K) m1 actor2 h Q) :
    CallT Try.prog 39 [Kd.val .ptr m1, Kd.val (.int .i64) actor2] false .ptr h Q :=
  fn_sound2 (c := weave (Try.f39.body.getD .skip) buffers_Memory_View.mk) Try.func39 (by kernel_rfl) Try.ntmps39 (rs := [.tmp 4]) (by kernel_rfl) [⟨.ptr, m1⟩, ⟨(.int .i64), actor2⟩] (by kernel_rfl) (by kernel_rfl) (by kernel_rfl) (by kernel_rfl) H

theorem buffers_Memory_Flush.br {m1 : Option Addr} {actor2 : Int} {h : Heap} {Q : Bool → Heap → Prop} (H : buffers_Memory_Flush.M (fun x0 x1 h K => CallT Try.prog 75 [Kd.val .ptr x0, Kd.val (.int .i64) x1] false .bool h K) (fun x0 x1 h K => CallT Try.prog 76 [Kd.val .ptr x0, Kd.val (.int .i64) x1] true .nil h K) (fun x0 x1 x2 h K => CallT Try.prog 77 [Kd.val .ptr x0, Kd.val (.int .i64) x1, Kd.val (.int .i64) x2] false (.int .i64) h K) m1 actor2 h Q) :
    CallT Try.prog 40 [Kd.val .ptr m1, Kd.val (.int .i64) actor2] false .bool h Q :=
  fn_sound2 (c := weave (Try.f40.body.getD .skip) buffers_Memory_Flush.mk) Try.func40 (by kernel_rfl) Try.ntmps40 (rs := [.tmp 4]) (by kernel_rfl) [⟨.ptr, m1⟩, ⟨(.int .i64), actor2⟩] (by kernel_rfl) (by kernel_rfl) (by kernel_rfl) (by kernel_rfl) H

theorem buffers_Memory_Waiting.br {m1 : Option Addr} {actor2 : Int} {h : Heap} {Q : Sl → Heap → Prop} (H : buffers_Memory_Waiting.M (fun x0 x1 h K => CallT Try.prog 75 [Kd.val .ptr x0, Kd.val (.int .i64) x1] false .bool h K) m1 actor2 h Q) :
    CallT Try.prog 41 [Kd.val .ptr m1, Kd.val (.int .i64) actor2] false .sl h Q :=
  fn_sound2 (c := weave (Try.f41.body.getD .skip) buffers_Memory_Waiting.mk) Try.func41 (by kernel_rfl) Try.ntmps41 (rs := [.tmp 4]) (by kernel_rfl) [⟨.ptr, m1⟩, ⟨(.int .i64), actor2⟩] (by kernel_rfl) (by kernel_rfl) (by kernel_rfl) (by kernel_rfl) H

theorem buffers_View_Fence.br {v1 : Option Addr} {h : Heap} {Q : Unit → Heap → Prop} (H : buffers_View_Fence.M (fun x0 x1 h K => CallT Try.prog 78 [Kd.val .ptr x0, Kd.val (.int .i64) x1] true .nil h K) v1 h Q) :
    CallT Try.prog 42 [Kd.val .ptr v1] true .nil h Q :=
  fn_sound2 (c := weave (Try.f42.body.getD .skip) buffers_View_Fence.mk) Try.func42 (by kernel_rfl) Try.ntmps42 (rs := []) (by kernel_rfl) [⟨.ptr, v1⟩] (by kernel_rfl) (by kernel_rfl) (by kernel_rfl) (by kernel_rfl) H

theorem buffers_View_Load.br {v1 : Option Addr} {addr2 : Int} {h : Heap} {Q : Den kapiWait → Heap → Prop} (H : buffers_View_Load.M (fun x0 x1 h K => CallT Try.prog 79 [Kd.val .ptr x0, Kd.val (.int .i64) x1] false .bool h K) (fun x0 h K => CallT Try.prog 80 [Kd.val kbuffersplace x0] false .ptr h K) (fun x0 x1 h K => CallT Try.prog 81 [Kd.val .ptr x0, Kd.val (.int .i64) x1] true kapiWait h K) v1 addr2 h Q) :
    CallT Try.prog 43 [Kd.val .ptr v1, Kd.val (.int .i64) addr2] true kapiWait h Q :=
  fn_sound2 (c := weave (Try.f43.body.getD .skip) buffers_View_Load.mk) Try.func43 (by kernel_rfl) Try.ntmps43 (rs := [.tmp 4, .tmp 5]) (by kernel_rfl) [⟨.ptr, v1⟩, ⟨(.int .i64), addr2⟩] (by kernel_rfl) (by kernel_rfl) (by kernel_rfl) (by kernel_rfl) H

theorem buffers_View_Store.br {v1 : Option Addr} {addr2 : Int} {w3 : Int} {h : Heap} {Q : Int → Heap → Prop} (H : buffers_View_Store.M (fun x0 x1 h K => CallT Try.prog 79 [Kd.val .ptr x0, Kd.val (.int .i64) x1] false .bool h K) (fun x0 x1 h K => CallT Try.prog 40 [Kd.val .ptr x0, Kd.val (.int .i64) x1] false .bool h K) v1 addr2 w3 h Q) :
    CallT Try.prog 44 [Kd.val .ptr v1, Kd.val (.int .i64) addr2, Kd.val (.int .i64) w3] false (.int .i64) h Q :=
  fn_sound2 (c := weave (Try.f44.body.getD .skip) buffers_View_Store.mk) Try.func44 (by kernel_rfl) Try.ntmps44 (rs := [.tmp 6]) (by kernel_rfl) [⟨.ptr, v1⟩, ⟨(.int .i64), addr2⟩, ⟨(.int .i64), w3⟩] (by kernel_rfl) (by kernel_rfl) (by kernel_rfl) (by kernel_rfl) H

theorem buffers_View_CAS.br {v1 : Option Addr} {addr2 : Int} {old3 : Int} {next4 : Int} {h : Heap} {Q : (Bool × (Int × Unit)) → Heap → Prop} (H : buffers_View_CAS.M (fun x0 x1 h K => CallT Try.prog 79 [Kd.val .ptr x0, Kd.val (.int .i64) x1] false .bool h K) (fun x0 x1 h K => CallT Try.prog 78 [Kd.val .ptr x0, Kd.val (.int .i64) x1] true .nil h K) (fun x0 h K => CallT Try.prog 80 [Kd.val kbuffersplace x0] false .ptr h K) (fun x0 x1 x2 x3 h K => CallT Try.prog 82 [Kd.val .ptr x0, Kd.val (.int .i64) x1, Kd.val (.int .i64) x2, Kd.val (.int .i64) x3] true (.pair .bool (.pair (.int .i64) .nil)) h K) v1 addr2 old3 next4 h Q) :
    CallT Try.prog 45 [Kd.val .ptr v1, Kd.val (.int .i64) addr2, Kd.val (.int .i64) old3, Kd.val (.int .i64) next4] true (.pair .bool (.pair (.int .i64) .nil)) h Q :=
  fn_sound2 (c := weave (Try.f45.body.getD .skip) buffers_View_CAS.mk) Try.func45 (by kernel_rfl) Try.ntmps45 (rs := [.tmp 8, .tmp 9]) (by kernel_rfl) [⟨.ptr, v1⟩, ⟨(.int .i64), addr2⟩, ⟨(.int .i64), old3⟩, ⟨(.int .i64), next4⟩] (by kernel_rfl) (by kernel_rfl) (by kernel_rfl) (by kernel_rfl) H

theorem buffers_View_Add.br {v1 : Option Addr} {addr2 : Int} {d3 : Int} {h : Heap} {Q : Den kapiWait → Heap → Prop} (H : buffers_View_Add.M (fun x0 x1 h K => CallT Try.prog 79 [Kd.val .ptr x0, Kd.val (.int .i64) x1] false .bool h K) (fun x0 x1 h K => CallT Try.prog 78 [Kd.val .ptr x0, Kd.val (.int .i64) x1] true .nil h K) (fun x0 h K => CallT Try.prog 80 [Kd.val kbuffersplace x0] false .ptr h K) (fun x0 x1 x2 h K => CallT Try.prog 83 [Kd.val .ptr x0, Kd.val (.int .i64) x1, Kd.val (.int .i64) x2] true kapiWait h K) v1 addr2 d3 h Q) :
    CallT Try.prog 46 [Kd.val .ptr v1, Kd.val (.int .i64) addr2, Kd.val (.int .i64) d3] true kapiWait h Q :=
  fn_sound2 (c := weave (Try.f46.body.getD .skip) buffers_View_Add.mk) Try.func46 (by kernel_rfl) Try.ntmps46 (rs := [.tmp 6, .tmp 7]) (by kernel_rfl) [⟨.ptr, v1⟩, ⟨(.int .i64), addr2⟩, ⟨(.int .i64), d3⟩] (by kernel_rfl) (by kernel_rfl) (by kernel_rfl) (by kernel_rfl) H

theorem buffers_View_Reserve.br {v1 : Option Addr} {n2 : Int} {h : Heap} {Q : Den kapiWait → Heap → Prop} (H : buffers_View_Reserve.M (fun x0 h K => CallT Try.prog 84 [Kd.val .ptr x0] false (.int .i64) h K) (fun x0 h K => CallT Try.prog 85 [Kd.val .ptr x0] false (.int .i64) h K) (fun x0 x1 h K => CallT Try.prog 78 [Kd.val .ptr x0, Kd.val (.int .i64) x1] true .nil h K) (fun x0 h K => CallT Try.prog 80 [Kd.val kbuffersplace x0] false .ptr h K) (fun x0 x1 h K => CallT Try.prog 86 [Kd.val .ptr x0, Kd.val (.int .i64) x1] true kapiWait h K) v1 n2 h Q) :
    CallT Try.prog 47 [Kd.val .ptr v1, Kd.val (.int .i64) n2] true kapiWait h Q :=
  fn_sound2 (c := weave (Try.f47.body.getD .skip) buffers_View_Reserve.mk) Try.func47 (by kernel_rfl) Try.ntmps47 (rs := [.tmp 4, .tmp 5]) (by kernel_rfl) [⟨.ptr, v1⟩, ⟨(.int .i64), n2⟩] (by kernel_rfl) (by kernel_rfl) (by kernel_rfl) (by kernel_rfl) H

theorem ref2_New.br {size1 : Int} {h : Heap} {Q : Den kbuffersplace → Heap → Prop} (H : ref2_New.M  size1 h Q) :
    CallT Try.prog 48 [Kd.val (.int .i64) size1] true kbuffersplace h Q :=
  fn_sound2 (c := weave (Try.f48.body.getD .skip) ref2_New.mk) Try.func48 (by kernel_rfl) Try.ntmps48 (rs := [.tmp 2, .tmp 3]) (by kernel_rfl) [⟨(.int .i64), size1⟩] (by kernel_rfl) (by kernel_rfl) (by kernel_rfl) (by kernel_rfl) H

theorem cells_New.br {size1 : Int} {h : Heap} {Q : Den kbuffersplace → Heap → Prop} (H : cells_New.M (fun x0 h K => CallT Try.prog 87 [Kd.val (.int .i64) x0] false .bool h K) size1 h Q) :
    CallT Try.prog 49 [Kd.val (.int .i64) size1] true kbuffersplace h Q :=
  fn_sound2 (c := weave (Try.f49.body.getD .skip) cells_New.mk) Try.func49 (by kernel_rfl) Try.ntmps49 (rs := [.tmp 2, .tmp 3]) (by kernel_rfl) [⟨(.int .i64), size1⟩] (by kernel_rfl) (by kernel_rfl) (by kernel_rfl) (by kernel_rfl) H

theorem cells_Arena_Watch.br {a1 : Option Addr} {on2 : Bool} {h : Heap} {Q : Unit → Heap → Prop} (H : cells_Arena_Watch.M  a1 on2 h Q) :
    CallT Try.prog 50 [Kd.val .ptr a1, Kd.val .bool on2] true .nil h Q :=
  fn_sound2 (c := weave (Try.f50.body.getD .skip) cells_Arena_Watch.mk) Try.func50 (by kernel_rfl) Try.ntmps50 (rs := []) (by kernel_rfl) [⟨.ptr, a1⟩, ⟨.bool, on2⟩] (by kernel_rfl) (by kernel_rfl) (by kernel_rfl) (by kernel_rfl) H

theorem ref21_Memory_Do.br {m1 : Option Addr} {k2 : Int} {x3 : Den klaw21Move} {h : Heap} {Q : Den kapiEffect → Heap → Prop} (H : ref21_Memory_Do.M (fun x0 x1 h K => CallT Try.prog 53 [Kd.val .ptr x0, Kd.val (.int .i64) x1] true .nil h K) (fun x0 x1 h K => CallT Try.prog 88 [Kd.val .ptr x0, Kd.val klaw21Move x1] false (.int .i64) h K) (fun x0 x1 h K => CallT Try.prog 54 [Kd.val .ptr x0, Kd.val (.int .i64) x1] false .bool h K) (fun x0 x1 h K => CallT Try.prog 89 [Kd.val .ptr x0, Kd.val klaw21Move x1] false kapiEffect h K) m1 k2 x3 h Q) :
    CallT Try.prog 52 [Kd.val .ptr m1, Kd.val (.int .i64) k2, Kd.val klaw21Move x3] false kapiEffect h Q :=
  fn_sound2 (c := weave (Try.f52.body.getD .skip) ref21_Memory_Do.mk) Try.func52 (by kernel_rfl) Try.ntmps52 (rs := [.cell 6 90]) (by kernel_rfl) [⟨.ptr, m1⟩, ⟨(.int .i64), k2⟩, ⟨klaw21Move, x3⟩] (by kernel_rfl) (by kernel_rfl) (by kernel_rfl) (by kernel_rfl) H

theorem ref21_Memory_Drain.br {m1 : Option Addr} {k2 : Int} {h : Heap} {Q : Unit → Heap → Prop} (H : ref21_Memory_Drain.M (fun x0 x1 h K => CallT Try.prog 54 [Kd.val .ptr x0, Kd.val (.int .i64) x1] false .bool h K) m1 k2 h Q) :
    CallT Try.prog 53 [Kd.val .ptr m1, Kd.val (.int .i64) k2] true .nil h Q :=
  fn_sound2 (c := weave (Try.f53.body.getD .skip) ref21_Memory_Drain.mk) Try.func53 (by kernel_rfl) Try.ntmps53 (rs := []) (by kernel_rfl) [⟨.ptr, m1⟩, ⟨(.int .i64), k2⟩] (by kernel_rfl) (by kernel_rfl) (by kernel_rfl) (by kernel_rfl) H

theorem ref21_Memory_Flush.br {m1 : Option Addr} {k2 : Int} {h : Heap} {Q : Bool → Heap → Prop} (H : ref21_Memory_Flush.M (fun x0 x1 h K => CallT Try.prog 89 [Kd.val .ptr x0, Kd.val klaw21Move x1] false kapiEffect h K) m1 k2 h Q) :
    CallT Try.prog 54 [Kd.val .ptr m1, Kd.val (.int .i64) k2] false .bool h Q :=
  fn_sound2 (c := weave (Try.f54.body.getD .skip) ref21_Memory_Flush.mk) Try.func54 (by kernel_rfl) Try.ntmps54 (rs := [.tmp 4]) (by kernel_rfl) [⟨.ptr, m1⟩, ⟨(.int .i64), k2⟩] (by kernel_rfl) (by kernel_rfl) (by kernel_rfl) (by kernel_rfl) H

theorem cells_Arena_Cells.br {a1 : Option Addr} {h : Heap} {Q : Sl → Heap → Prop} (H : cells_Arena_Cells.M  a1 h Q) :
    CallT Try.prog 56 [Kd.val .ptr a1] false .sl h Q :=
  fn_sound2 (c := weave (Try.f56.body.getD .skip) cells_Arena_Cells.mk) Try.func56 (by kernel_rfl) Try.ntmps56 (rs := [.tmp 2]) (by kernel_rfl) [⟨.ptr, a1⟩] (by kernel_rfl) (by kernel_rfl) (by kernel_rfl) (by kernel_rfl) H

theorem cells_Arena_Log.br {a1 : Option Addr} {h : Heap} {Q : Sl → Heap → Prop} (H : cells_Arena_Log.M  a1 h Q) :
    CallT Try.prog 57 [Kd.val .ptr a1] false .sl h Q :=
  fn_sound2 (c := weave (Try.f57.body.getD .skip) cells_Arena_Log.mk) Try.func57 (by kernel_rfl) Try.ntmps57 (rs := [.tmp 2]) (by kernel_rfl) [⟨.ptr, a1⟩] (by kernel_rfl) (by kernel_rfl) (by kernel_rfl) (by kernel_rfl) H

theorem ref21_Refuses.br {size1 : Int} {used2 : Int} {room3 : Int} {lists4 : Sl} {picks5 : Sl} {h : Heap} {Q : Int → Heap → Prop} (H : ref21_Refuses.M  size1 used2 room3 lists4 picks5 h Q) :
    CallT Try.prog 60 [Kd.val (.int .i64) size1, Kd.val (.int .i64) used2, Kd.val (.int .i64) room3, Kd.val .sl lists4, Kd.val .sl picks5] false (.int .i64) h Q :=
  fn_sound2 (c := weave (Try.f60.body.getD .skip) ref21_Refuses.mk) Try.func60 (by kernel_rfl) Try.ntmps60 (rs := [.tmp 10]) (by kernel_rfl) [⟨(.int .i64), size1⟩, ⟨(.int .i64), used2⟩, ⟨(.int .i64), room3⟩, ⟨.sl, lists4⟩, ⟨.sl, picks5⟩] (by kernel_rfl) (by kernel_rfl) (by kernel_rfl) (by kernel_rfl) H

theorem ref21_using.br {size1 : Int} {used2 : Int} {actors3 : Int} {room4 : Int} {h : Heap} {Q : Option Addr → Heap → Prop} (H : ref21_using.M (fun x0 x1 x2 h K => CallT Try.prog 11 [Kd.val (.int .i64) x0, Kd.val (.int .i64) x1, Kd.val (.int .i64) x2] true kbuffersplace h K) size1 used2 actors3 room4 h Q) :
    CallT Try.prog 61 [Kd.val (.int .i64) size1, Kd.val (.int .i64) used2, Kd.val (.int .i64) actors3, Kd.val (.int .i64) room4] false .ptr h Q :=
  fn_sound2 (c := weave (Try.f61.body.getD .skip) ref21_using.mk) Try.func61 (by kernel_rfl) Try.ntmps61 (rs := [.tmp 8]) (by kernel_rfl) [⟨(.int .i64), size1⟩, ⟨(.int .i64), used2⟩, ⟨(.int .i64), actors3⟩, ⟨(.int .i64), room4⟩] (by kernel_rfl) (by kernel_rfl) (by kernel_rfl) (by kernel_rfl) H

theorem ref21_mod.br {x1 : Int} {n2 : Int} {h : Heap} {Q : Int → Heap → Prop} (H : ref21_mod.M  x1 n2 h Q) :
    CallT Try.prog 62 [Kd.val (.int .i64) x1, Kd.val (.int .i64) n2] false (.int .i64) h Q :=
  fn_sound2 (c := weave (Try.f62.body.getD .skip) ref21_mod.mk) Try.func62 (by kernel_rfl) Try.ntmps62 (rs := [.tmp 4]) (by kernel_rfl) [⟨(.int .i64), x1⟩, ⟨(.int .i64), n2⟩] (by kernel_rfl) (by kernel_rfl) (by kernel_rfl) (by kernel_rfl) H

theorem law21_odd.br {i1 : Int} {h : Heap} {Q : Den klaw21Move → Heap → Prop} (H : law21_odd.M  i1 h Q) :
    CallT Try.prog 63 [Kd.val (.int .i64) i1] false klaw21Move h Q :=
  fn_sound2 (c := weave (Try.f63.body.getD .skip) law21_odd.mk) Try.func63 (by kernel_rfl) Try.ntmps63 (rs := [.cell 2 87]) (by kernel_rfl) [⟨(.int .i64), i1⟩] (by kernel_rfl) (by kernel_rfl) (by kernel_rfl) (by kernel_rfl) H

theorem buffers_judged.br {size1 : Int} {used2 : Int} {room3 : Int} {lists4 : Sl} {picks5 : Sl} {h : Heap} {Q : Int → Heap → Prop} (H : buffers_judged.M  size1 used2 room3 lists4 picks5 h Q) :
    CallT Try.prog 64 [Kd.val (.int .i64) size1, Kd.val (.int .i64) used2, Kd.val (.int .i64) room3, Kd.val .sl lists4, Kd.val .sl picks5] false (.int .i64) h Q :=
  fn_sound2 (c := weave (Try.f64.body.getD .skip) buffers_judged.mk) Try.func64 (by kernel_rfl) Try.ntmps64 (rs := [.tmp 10]) (by kernel_rfl) [⟨(.int .i64), size1⟩, ⟨(.int .i64), used2⟩, ⟨(.int .i64), room3⟩, ⟨.sl, lists4⟩, ⟨.sl, picks5⟩] (by kernel_rfl) (by kernel_rfl) (by kernel_rfl) (by kernel_rfl) H

theorem buffers_Memory_use.br {m1 : Option Addr} {n2 : Int} {h : Heap} {Q : Unit → Heap → Prop} (H : buffers_Memory_use.M (fun x0 x1 h K => CallT Try.prog 50 [Kd.val .ptr x0, Kd.val .bool x1] true .nil h K) (fun x0 x1 h K => CallT Try.prog 86 [Kd.val .ptr x0, Kd.val (.int .i64) x1] true kapiWait h K) m1 n2 h Q) :
    CallT Try.prog 65 [Kd.val .ptr m1, Kd.val (.int .i64) n2] true .nil h Q :=
  fn_sound2 (c := weave (Try.f65.body.getD .skip) buffers_Memory_use.mk) Try.func65 (by kernel_rfl) Try.ntmps65 (rs := []) (by kernel_rfl) [⟨.ptr, m1⟩, ⟨(.int .i64), n2⟩] (by kernel_rfl) (by kernel_rfl) (by kernel_rfl) (by kernel_rfl) H

theorem ops_Mod.br {x1 : Int} {n2 : Int} {h : Heap} {Q : Int → Heap → Prop} (H : ops_Mod.M  x1 n2 h Q) :
    CallT Try.prog 66 [Kd.val (.int .i64) x1, Kd.val (.int .i64) n2] false (.int .i64) h Q :=
  fn_sound2 (c := weave (Try.f66.body.getD .skip) ops_Mod.mk) Try.func66 (by kernel_rfl) Try.ntmps66 (rs := [.tmp 4]) (by kernel_rfl) [⟨(.int .i64), x1⟩, ⟨(.int .i64), n2⟩] (by kernel_rfl) (by kernel_rfl) (by kernel_rfl) (by kernel_rfl) H

theorem buffers_View_act.br {v1 : Option Addr} {t2 : Den klaw21Move} {h : Heap} {Q : Den kapiEffect → Heap → Prop} (H : buffers_View_act.M (fun x0 x1 h K => CallT Try.prog 43 [Kd.val .ptr x0, Kd.val (.int .i64) x1] true kapiWait h K) (fun x0 x1 x2 h K => CallT Try.prog 44 [Kd.val .ptr x0, Kd.val (.int .i64) x1, Kd.val (.int .i64) x2] false (.int .i64) h K) (fun x0 x1 x2 x3 h K => CallT Try.prog 45 [Kd.val .ptr x0, Kd.val (.int .i64) x1, Kd.val (.int .i64) x2, Kd.val (.int .i64) x3] true (.pair .bool (.pair (.int .i64) .nil)) h K) (fun x0 x1 x2 h K => CallT Try.prog 46 [Kd.val .ptr x0, Kd.val (.int .i64) x1, Kd.val (.int .i64) x2] true kapiWait h K) (fun x0 x1 h K => CallT Try.prog 47 [Kd.val .ptr x0, Kd.val (.int .i64) x1] true kapiWait h K) (fun x0 h K => CallT Try.prog 42 [Kd.val .ptr x0] true .nil h K) v1 t2 h Q) :
    CallT Try.prog 67 [Kd.val .ptr v1, Kd.val klaw21Move t2] false kapiEffect h Q :=
  fn_sound2 (c := weave (Try.f67.body.getD .skip) buffers_View_act.mk) Try.func67 (by kernel_rfl) Try.ntmps67 (rs := [.cell 4 90]) (by kernel_rfl) [⟨.ptr, v1⟩, ⟨klaw21Move, t2⟩] (by kernel_rfl) (by kernel_rfl) (by kernel_rfl) (by kernel_rfl) H

theorem law21_sameEffects.br {a1 : Sl} {b2 : Sl} {h : Heap} {Q : Bool → Heap → Prop} (H : law21_sameEffects.M  a1 b2 h Q) :
    CallT Try.prog 68 [Kd.val .sl a1, Kd.val .sl b2] false .bool h Q :=
  fn_sound2 (c := weave (Try.f68.body.getD .skip) law21_sameEffects.mk) Try.func68 (by kernel_rfl) Try.ntmps68 (rs := [.tmp 4]) (by kernel_rfl) [⟨.sl, a1⟩, ⟨.sl, b2⟩] (by kernel_rfl) (by kernel_rfl) (by kernel_rfl) (by kernel_rfl) H

theorem law21_sameActs.br {a1 : Sl} {b2 : Sl} {h : Heap} {Q : Bool → Heap → Prop} (H : law21_sameActs.M  a1 b2 h Q) :
    CallT Try.prog 69 [Kd.val .sl a1, Kd.val .sl b2] false .bool h Q :=
  fn_sound2 (c := weave (Try.f69.body.getD .skip) law21_sameActs.mk) Try.func69 (by kernel_rfl) Try.ntmps69 (rs := [.tmp 4]) (by kernel_rfl) [⟨.sl, a1⟩, ⟨.sl, b2⟩] (by kernel_rfl) (by kernel_rfl) (by kernel_rfl) (by kernel_rfl) H

theorem law21_turned.br {lists1 : Sl} {h : Heap} {Q : Sl → Heap → Prop} (H : law21_turned.M  lists1 h Q) :
    CallT Try.prog 70 [Kd.val .sl lists1] false .sl h Q :=
  fn_sound2 (c := weave (Try.f70.body.getD .skip) law21_turned.mk) Try.func70 (by kernel_rfl) Try.ntmps70 (rs := [.tmp 2]) (by kernel_rfl) [⟨.sl, lists1⟩] (by kernel_rfl) (by kernel_rfl) (by kernel_rfl) (by kernel_rfl) H

theorem law21_around.br {l1 : Sl} {h : Heap} {Q : Sl → Heap → Prop} (H : law21_around.M  l1 h Q) :
    CallT Try.prog 71 [Kd.val .sl l1] false .sl h Q :=
  fn_sound2 (c := weave (Try.f71.body.getD .skip) law21_around.mk) Try.func71 (by kernel_rfl) Try.ntmps71 (rs := [.tmp 2]) (by kernel_rfl) [⟨.sl, l1⟩] (by kernel_rfl) (by kernel_rfl) (by kernel_rfl) (by kernel_rfl) H

theorem law21_lay.br {to1 : Sl} {lists2 : Sl} {h : Heap} {Q : Unit → Heap → Prop} (H : law21_lay.M  to1 lists2 h Q) :
    CallT Try.prog 72 [Kd.val .sl to1, Kd.val .sl lists2] true .nil h Q :=
  fn_sound2 (c := weave (Try.f72.body.getD .skip) law21_lay.mk) Try.func72 (by kernel_rfl) Try.ntmps72 (rs := []) (by kernel_rfl) [⟨.sl, to1⟩, ⟨.sl, lists2⟩] (by kernel_rfl) (by kernel_rfl) (by kernel_rfl) (by kernel_rfl) H

theorem buffers_Memory_has.br {m1 : Option Addr} {actor2 : Int} {h : Heap} {Q : Bool → Heap → Prop} (H : buffers_Memory_has.M  m1 actor2 h Q) :
    CallT Try.prog 75 [Kd.val .ptr m1, Kd.val (.int .i64) actor2] false .bool h Q :=
  fn_sound2 (c := weave (Try.f75.body.getD .skip) buffers_Memory_has.mk) Try.func75 (by kernel_rfl) Try.ntmps75 (rs := [.tmp 4]) (by kernel_rfl) [⟨.ptr, m1⟩, ⟨(.int .i64), actor2⟩] (by kernel_rfl) (by kernel_rfl) (by kernel_rfl) (by kernel_rfl) H

theorem cells_Arena_Who.br {a1 : Option Addr} {actor2 : Int} {h : Heap} {Q : Unit → Heap → Prop} (H : cells_Arena_Who.M  a1 actor2 h Q) :
    CallT Try.prog 76 [Kd.val .ptr a1, Kd.val (.int .i64) actor2] true .nil h Q :=
  fn_sound2 (c := weave (Try.f76.body.getD .skip) cells_Arena_Who.mk) Try.func76 (by kernel_rfl) Try.ntmps76 (rs := []) (by kernel_rfl) [⟨.ptr, a1⟩, ⟨(.int .i64), actor2⟩] (by kernel_rfl) (by kernel_rfl) (by kernel_rfl) (by kernel_rfl) H

theorem cells_Arena_Store.br {a1 : Option Addr} {addr2 : Int} {v3 : Int} {h : Heap} {Q : Int → Heap → Prop} (H : cells_Arena_Store.M (fun x0 x1 h K => CallT Try.prog 93 [Kd.val .ptr x0, Kd.val (.int .i64) x1] false .bool h K) (fun x0 x1 x2 x3 x4 x5 h K => CallT Try.prog 94 [Kd.val .ptr x0, Kd.val (.int .i64) x1, Kd.val (.int .i64) x2, Kd.val (.int .i64) x3, Kd.val (.int .i64) x4, Kd.val .bool x5] true .nil h K) a1 addr2 v3 h Q) :
    CallT Try.prog 77 [Kd.val .ptr a1, Kd.val (.int .i64) addr2, Kd.val (.int .i64) v3] false (.int .i64) h Q :=
  fn_sound2 (c := weave (Try.f77.body.getD .skip) cells_Arena_Store.mk) Try.func77 (by kernel_rfl) Try.ntmps77 (rs := [.tmp 6]) (by kernel_rfl) [⟨.ptr, a1⟩, ⟨(.int .i64), addr2⟩, ⟨(.int .i64), v3⟩] (by kernel_rfl) (by kernel_rfl) (by kernel_rfl) (by kernel_rfl) H

theorem buffers_Memory_drain.br {m1 : Option Addr} {actor2 : Int} {h : Heap} {Q : Unit → Heap → Prop} (H : buffers_Memory_drain.M (fun x0 x1 h K => CallT Try.prog 40 [Kd.val .ptr x0, Kd.val (.int .i64) x1] false .bool h K) m1 actor2 h Q) :
    CallT Try.prog 78 [Kd.val .ptr m1, Kd.val (.int .i64) actor2] true .nil h Q :=
  fn_sound2 (c := weave (Try.f78.body.getD .skip) buffers_Memory_drain.mk) Try.func78 (by kernel_rfl) Try.ntmps78 (rs := []) (by kernel_rfl) [⟨.ptr, m1⟩, ⟨(.int .i64), actor2⟩] (by kernel_rfl) (by kernel_rfl) (by kernel_rfl) (by kernel_rfl) H

theorem buffers_View_none.br {v1 : Option Addr} {addr2 : Int} {h : Heap} {Q : Bool → Heap → Prop} (H : buffers_View_none.M (fun x0 h K => CallT Try.prog 85 [Kd.val .ptr x0] false (.int .i64) h K) v1 addr2 h Q) :
    CallT Try.prog 79 [Kd.val .ptr v1, Kd.val (.int .i64) addr2] false .bool h Q :=
  fn_sound2 (c := weave (Try.f79.body.getD .skip) buffers_View_none.mk) Try.func79 (by kernel_rfl) Try.ntmps79 (rs := [.tmp 4]) (by kernel_rfl) [⟨.ptr, v1⟩, ⟨(.int .i64), addr2⟩] (by kernel_rfl) (by kernel_rfl) (by kernel_rfl) (by kernel_rfl) H

theorem buffers_place_cells.br {p1 : Den kbuffersplace} {h : Heap} {Q : Option Addr → Heap → Prop} (H : buffers_place_cells.M (fun x0 x1 h K => CallT Try.prog 76 [Kd.val .ptr x0, Kd.val (.int .i64) x1] true .nil h K) p1 h Q) :
    CallT Try.prog 80 [Kd.val kbuffersplace p1] false .ptr h Q :=
  fn_sound2 (c := weave (Try.f80.body.getD .skip) buffers_place_cells.mk) Try.func80 (by kernel_rfl) Try.ntmps80 (rs := [.tmp 2]) (by kernel_rfl) [⟨kbuffersplace, p1⟩] (by kernel_rfl) (by kernel_rfl) (by kernel_rfl) (by kernel_rfl) H

theorem cells_Arena_Load.br {a1 : Option Addr} {addr2 : Int} {h : Heap} {Q : Den kapiWait → Heap → Prop} (H : cells_Arena_Load.M (fun x0 x1 h K => CallT Try.prog 93 [Kd.val .ptr x0, Kd.val (.int .i64) x1] false .bool h K) (fun x0 x1 x2 x3 x4 x5 h K => CallT Try.prog 94 [Kd.val .ptr x0, Kd.val (.int .i64) x1, Kd.val (.int .i64) x2, Kd.val (.int .i64) x3, Kd.val (.int .i64) x4, Kd.val .bool x5] true .nil h K) a1 addr2 h Q) :
    CallT Try.prog 81 [Kd.val .ptr a1, Kd.val (.int .i64) addr2] true kapiWait h Q :=
  fn_sound2 (c := weave (Try.f81.body.getD .skip) cells_Arena_Load.mk) Try.func81 (by kernel_rfl) Try.ntmps81 (rs := [.tmp 4, .tmp 5]) (by kernel_rfl) [⟨.ptr, a1⟩, ⟨(.int .i64), addr2⟩] (by kernel_rfl) (by kernel_rfl) (by kernel_rfl) (by kernel_rfl) H

theorem cells_Arena_CAS.br {a1 : Option Addr} {addr2 : Int} {old3 : Int} {next4 : Int} {h : Heap} {Q : (Bool × (Int × Unit)) → Heap → Prop} (H : cells_Arena_CAS.M (fun x0 x1 h K => CallT Try.prog 93 [Kd.val .ptr x0, Kd.val (.int .i64) x1] false .bool h K) (fun x0 x1 x2 x3 x4 x5 h K => CallT Try.prog 94 [Kd.val .ptr x0, Kd.val (.int .i64) x1, Kd.val (.int .i64) x2, Kd.val (.int .i64) x3, Kd.val (.int .i64) x4, Kd.val .bool x5] true .nil h K) a1 addr2 old3 next4 h Q) :
    CallT Try.prog 82 [Kd.val .ptr a1, Kd.val (.int .i64) addr2, Kd.val (.int .i64) old3, Kd.val (.int .i64) next4] true (.pair .bool (.pair (.int .i64) .nil)) h Q :=
  fn_sound2 (c := weave (Try.f82.body.getD .skip) cells_Arena_CAS.mk) Try.func82 (by kernel_rfl) Try.ntmps82 (rs := [.tmp 8, .tmp 9]) (by kernel_rfl) [⟨.ptr, a1⟩, ⟨(.int .i64), addr2⟩, ⟨(.int .i64), old3⟩, ⟨(.int .i64), next4⟩] (by kernel_rfl) (by kernel_rfl) (by kernel_rfl) (by kernel_rfl) H

theorem cells_Arena_Add.br {a1 : Option Addr} {addr2 : Int} {d3 : Int} {h : Heap} {Q : Den kapiWait → Heap → Prop} (H : cells_Arena_Add.M (fun x0 x1 h K => CallT Try.prog 93 [Kd.val .ptr x0, Kd.val (.int .i64) x1] false .bool h K) (fun x0 x1 x2 x3 x4 x5 h K => CallT Try.prog 94 [Kd.val .ptr x0, Kd.val (.int .i64) x1, Kd.val (.int .i64) x2, Kd.val (.int .i64) x3, Kd.val (.int .i64) x4, Kd.val .bool x5] true .nil h K) a1 addr2 d3 h Q) :
    CallT Try.prog 83 [Kd.val .ptr a1, Kd.val (.int .i64) addr2, Kd.val (.int .i64) d3] true kapiWait h Q :=
  fn_sound2 (c := weave (Try.f83.body.getD .skip) cells_Arena_Add.mk) Try.func83 (by kernel_rfl) Try.ntmps83 (rs := [.tmp 6, .tmp 7]) (by kernel_rfl) [⟨.ptr, a1⟩, ⟨(.int .i64), addr2⟩, ⟨(.int .i64), d3⟩] (by kernel_rfl) (by kernel_rfl) (by kernel_rfl) (by kernel_rfl) H

theorem cells_Arena_Size.br {a1 : Option Addr} {h : Heap} {Q : Int → Heap → Prop} (H : cells_Arena_Size.M (fun x0 h K => CallT Try.prog 95 [Kd.val .ptr x0] false (.int .i64) h K) a1 h Q) :
    CallT Try.prog 84 [Kd.val .ptr a1] false (.int .i64) h Q :=
  fn_sound2 (c := weave (Try.f84.body.getD .skip) cells_Arena_Size.mk) Try.func84 (by kernel_rfl) Try.ntmps84 (rs := [.tmp 2]) (by kernel_rfl) [⟨.ptr, a1⟩] (by kernel_rfl) (by kernel_rfl) (by kernel_rfl) (by kernel_rfl) H

theorem cells_Arena_Mark.br {a1 : Option Addr} {h : Heap} {Q : Int → Heap → Prop} (H : cells_Arena_Mark.M (fun x0 h K => CallT Try.prog 96 [Kd.val .ptr x0] false (.int .i64) h K) a1 h Q) :
    CallT Try.prog 85 [Kd.val .ptr a1] false (.int .i64) h Q :=
  fn_sound2 (c := weave (Try.f85.body.getD .skip) cells_Arena_Mark.mk) Try.func85 (by kernel_rfl) Try.ntmps85 (rs := [.tmp 2]) (by kernel_rfl) [⟨.ptr, a1⟩] (by kernel_rfl) (by kernel_rfl) (by kernel_rfl) (by kernel_rfl) H

theorem cells_Arena_Reserve.br {a1 : Option Addr} {n2 : Int} {h : Heap} {Q : Den kapiWait → Heap → Prop} (H : cells_Arena_Reserve.M (fun x0 x1 h K => CallT Try.prog 97 [Kd.val .ptr x0, Kd.val (.int .i64) x1] false (.int .i64) h K) (fun x0 x1 h K => CallT Try.prog 98 [Kd.val .ptr x0, Kd.val (.int .i64) x1] false (.int .i64) h K) (fun x0 x1 x2 x3 x4 x5 h K => CallT Try.prog 94 [Kd.val .ptr x0, Kd.val (.int .i64) x1, Kd.val (.int .i64) x2, Kd.val (.int .i64) x3, Kd.val (.int .i64) x4, Kd.val .bool x5] true .nil h K) a1 n2 h Q) :
    CallT Try.prog 86 [Kd.val .ptr a1, Kd.val (.int .i64) n2] true kapiWait h Q :=
  fn_sound2 (c := weave (Try.f86.body.getD .skip) cells_Arena_Reserve.mk) Try.func86 (by kernel_rfl) Try.ntmps86 (rs := [.tmp 4, .tmp 5]) (by kernel_rfl) [⟨.ptr, a1⟩, ⟨(.int .i64), n2⟩] (by kernel_rfl) (by kernel_rfl) (by kernel_rfl) (by kernel_rfl) H

theorem cells_good.br {size1 : Int} {h : Heap} {Q : Bool → Heap → Prop} (H : cells_good.M  size1 h Q) :
    CallT Try.prog 87 [Kd.val (.int .i64) size1] false .bool h Q :=
  fn_sound2 (c := weave (Try.f87.body.getD .skip) cells_good.mk) Try.func87 (by kernel_rfl) Try.ntmps87 (rs := [.tmp 2]) (by kernel_rfl) [⟨(.int .i64), size1⟩] (by kernel_rfl) (by kernel_rfl) (by kernel_rfl) (by kernel_rfl) H

theorem ref21_Memory_refused.br {m1 : Option Addr} {x2 : Den klaw21Move} {h : Heap} {Q : Int → Heap → Prop} (H : ref21_Memory_refused.M (fun x0 x1 h K => CallT Try.prog 99 [Kd.val .ptr x0, Kd.val (.int .i64) x1] false .bool h K) m1 x2 h Q) :
    CallT Try.prog 88 [Kd.val .ptr m1, Kd.val klaw21Move x2] false (.int .i64) h Q :=
  fn_sound2 (c := weave (Try.f88.body.getD .skip) ref21_Memory_refused.mk) Try.func88 (by kernel_rfl) Try.ntmps88 (rs := [.tmp 4]) (by kernel_rfl) [⟨.ptr, m1⟩, ⟨klaw21Move, x2⟩] (by kernel_rfl) (by kernel_rfl) (by kernel_rfl) (by kernel_rfl) H

theorem ref2_Arena_Do.br {a1 : Option Addr} {x2 : Den klaw21Move} {h : Heap} {Q : Den kapiEffect → Heap → Prop} (H : ref2_Arena_Do.M (fun x0 h K => CallT Try.prog 100 [Kd.val (.int .i64) x0] false kapiEffect h K) (fun x0 x1 h K => CallT Try.prog 101 [Kd.val .ptr x0, Kd.val (.int .i64) x1] false kapiEffect h K) (fun x0 x1 h K => CallT Try.prog 102 [Kd.val .ptr x0, Kd.val kapiAccess x1] true .nil h K) a1 x2 h Q) :
    CallT Try.prog 89 [Kd.val .ptr a1, Kd.val klaw21Move x2] false kapiEffect h Q :=
  fn_sound2 (c := weave (Try.f89.body.getD .skip) ref2_Arena_Do.mk) Try.func89 (by kernel_rfl) Try.ntmps89 (rs := [.cell 4 90]) (by kernel_rfl) [⟨.ptr, a1⟩, ⟨klaw21Move, x2⟩] (by kernel_rfl) (by kernel_rfl) (by kernel_rfl) (by kernel_rfl) H

theorem cells_Arena_outside.br {a1 : Option Addr} {addr2 : Int} {h : Heap} {Q : Bool → Heap → Prop} (H : cells_Arena_outside.M (fun x0 x1 h K => CallT Try.prog 103 [Kd.val .ptr x0, Kd.val (.int .i64) x1] false .bool h K) a1 addr2 h Q) :
    CallT Try.prog 93 [Kd.val .ptr a1, Kd.val (.int .i64) addr2] false .bool h Q :=
  fn_sound2 (c := weave (Try.f93.body.getD .skip) cells_Arena_outside.mk) Try.func93 (by kernel_rfl) Try.ntmps93 (rs := [.tmp 4]) (by kernel_rfl) [⟨.ptr, a1⟩, ⟨(.int .i64), addr2⟩] (by kernel_rfl) (by kernel_rfl) (by kernel_rfl) (by kernel_rfl) H

theorem cells_Arena_note.br {a1 : Option Addr} {kind2 : Int} {addr3 : Int} {x4 : Int} {y5 : Int} {ok6 : Bool} {h : Heap} {Q : Unit → Heap → Prop} (H : cells_Arena_note.M  a1 kind2 addr3 x4 y5 ok6 h Q) :
    CallT Try.prog 94 [Kd.val .ptr a1, Kd.val (.int .i64) kind2, Kd.val (.int .i64) addr3, Kd.val (.int .i64) x4, Kd.val (.int .i64) y5, Kd.val .bool ok6] true .nil h Q :=
  fn_sound2 (c := weave (Try.f94.body.getD .skip) cells_Arena_note.mk) Try.func94 (by kernel_rfl) Try.ntmps94 (rs := []) (by kernel_rfl) [⟨.ptr, a1⟩, ⟨(.int .i64), kind2⟩, ⟨(.int .i64), addr3⟩, ⟨(.int .i64), x4⟩, ⟨(.int .i64), y5⟩, ⟨.bool, ok6⟩] (by kernel_rfl) (by kernel_rfl) (by kernel_rfl) (by kernel_rfl) H

theorem cells_ledger_Size.br {l1 : Option Addr} {h : Heap} {Q : Int → Heap → Prop} (H : cells_ledger_Size.M  l1 h Q) :
    CallT Try.prog 95 [Kd.val .ptr l1] false (.int .i64) h Q :=
  fn_sound2 (c := weave (Try.f95.body.getD .skip) cells_ledger_Size.mk) Try.func95 (by kernel_rfl) Try.ntmps95 (rs := [.tmp 2]) (by kernel_rfl) [⟨.ptr, l1⟩] (by kernel_rfl) (by kernel_rfl) (by kernel_rfl) (by kernel_rfl) H

theorem cells_ledger_Mark.br {l1 : Option Addr} {h : Heap} {Q : Int → Heap → Prop} (H : cells_ledger_Mark.M  l1 h Q) :
    CallT Try.prog 96 [Kd.val .ptr l1] false (.int .i64) h Q :=
  fn_sound2 (c := weave (Try.f96.body.getD .skip) cells_ledger_Mark.mk) Try.func96 (by kernel_rfl) Try.ntmps96 (rs := [.tmp 2]) (by kernel_rfl) [⟨.ptr, l1⟩] (by kernel_rfl) (by kernel_rfl) (by kernel_rfl) (by kernel_rfl) H

theorem cells_ledger_refuse.br {l1 : Option Addr} {n2 : Int} {h : Heap} {Q : Int → Heap → Prop} (H : cells_ledger_refuse.M  l1 n2 h Q) :
    CallT Try.prog 97 [Kd.val .ptr l1, Kd.val (.int .i64) n2] false (.int .i64) h Q :=
  fn_sound2 (c := weave (Try.f97.body.getD .skip) cells_ledger_refuse.mk) Try.func97 (by kernel_rfl) Try.ntmps97 (rs := [.tmp 4]) (by kernel_rfl) [⟨.ptr, l1⟩, ⟨(.int .i64), n2⟩] (by kernel_rfl) (by kernel_rfl) (by kernel_rfl) (by kernel_rfl) H

theorem cells_ledger_take.br {l1 : Option Addr} {n2 : Int} {h : Heap} {Q : Int → Heap → Prop} (H : cells_ledger_take.M  l1 n2 h Q) :
    CallT Try.prog 98 [Kd.val .ptr l1, Kd.val (.int .i64) n2] false (.int .i64) h Q :=
  fn_sound2 (c := weave (Try.f98.body.getD .skip) cells_ledger_take.mk) Try.func98 (by kernel_rfl) Try.ntmps98 (rs := [.tmp 4]) (by kernel_rfl) [⟨.ptr, l1⟩, ⟨(.int .i64), n2⟩] (by kernel_rfl) (by kernel_rfl) (by kernel_rfl) (by kernel_rfl) H

theorem ref21_Memory_inUse.br {m1 : Option Addr} {addr2 : Int} {h : Heap} {Q : Bool → Heap → Prop} (H : ref21_Memory_inUse.M  m1 addr2 h Q) :
    CallT Try.prog 99 [Kd.val .ptr m1, Kd.val (.int .i64) addr2] false .bool h Q :=
  fn_sound2 (c := weave (Try.f99.body.getD .skip) ref21_Memory_inUse.mk) Try.func99 (by kernel_rfl) Try.ntmps99 (rs := [.tmp 4]) (by kernel_rfl) [⟨.ptr, m1⟩, ⟨(.int .i64), addr2⟩] (by kernel_rfl) (by kernel_rfl) (by kernel_rfl) (by kernel_rfl) H

theorem ref2_refused.br {e1 : Int} {h : Heap} {Q : Den kapiEffect → Heap → Prop} (H : ref2_refused.M  e1 h Q) :
    CallT Try.prog 100 [Kd.val (.int .i64) e1] false kapiEffect h Q :=
  fn_sound2 (c := weave (Try.f100.body.getD .skip) ref2_refused.mk) Try.func100 (by kernel_rfl) Try.ntmps100 (rs := [.cell 2 90]) (by kernel_rfl) [⟨(.int .i64), e1⟩] (by kernel_rfl) (by kernel_rfl) (by kernel_rfl) (by kernel_rfl) H

theorem ref2_Arena_reserve.br {a1 : Option Addr} {n2 : Int} {h : Heap} {Q : Den kapiEffect → Heap → Prop} (H : ref2_Arena_reserve.M (fun x0 h K => CallT Try.prog 100 [Kd.val (.int .i64) x0] false kapiEffect h K) (fun x0 x1 h K => CallT Try.prog 102 [Kd.val .ptr x0, Kd.val kapiAccess x1] true .nil h K) a1 n2 h Q) :
    CallT Try.prog 101 [Kd.val .ptr a1, Kd.val (.int .i64) n2] false kapiEffect h Q :=
  fn_sound2 (c := weave (Try.f101.body.getD .skip) ref2_Arena_reserve.mk) Try.func101 (by kernel_rfl) Try.ntmps101 (rs := [.cell 4 90]) (by kernel_rfl) [⟨.ptr, a1⟩, ⟨(.int .i64), n2⟩] (by kernel_rfl) (by kernel_rfl) (by kernel_rfl) (by kernel_rfl) H

theorem ref2_Arena_note.br {a1 : Option Addr} {x2 : Den kapiAccess} {h : Heap} {Q : Unit → Heap → Prop} (H : ref2_Arena_note.M  a1 x2 h Q) :
    CallT Try.prog 102 [Kd.val .ptr a1, Kd.val kapiAccess x2] true .nil h Q :=
  fn_sound2 (c := weave (Try.f102.body.getD .skip) ref2_Arena_note.mk) Try.func102 (by kernel_rfl) Try.ntmps102 (rs := []) (by kernel_rfl) [⟨.ptr, a1⟩, ⟨kapiAccess, x2⟩] (by kernel_rfl) (by kernel_rfl) (by kernel_rfl) (by kernel_rfl) H

theorem cells_ledger_has.br {l1 : Option Addr} {addr2 : Int} {h : Heap} {Q : Bool → Heap → Prop} (H : cells_ledger_has.M  l1 addr2 h Q) :
    CallT Try.prog 103 [Kd.val .ptr l1, Kd.val (.int .i64) addr2] false .bool h Q :=
  fn_sound2 (c := weave (Try.f103.body.getD .skip) cells_ledger_has.mk) Try.func103 (by kernel_rfl) Try.ntmps103 (rs := [.tmp 4]) (by kernel_rfl) [⟨.ptr, l1⟩, ⟨(.int .i64), addr2⟩] (by kernel_rfl) (by kernel_rfl) (by kernel_rfl) (by kernel_rfl) H

end Go.Mx
